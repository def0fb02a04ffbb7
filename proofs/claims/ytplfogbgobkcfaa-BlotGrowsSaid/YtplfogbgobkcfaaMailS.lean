/- Chapter 8: the first of boxes; what is handed in is not kept. -/
import Derived.Test.YtplfogbgobkcfaaMailR
set_option linter.unusedVariables false
namespace Go.Proofs.Ytplfogbgobkcfaa
open Go.Eng

/-- A box, or none. -/
def IsBox? (p : Option Addr) (n : Nat) (q : List (List Int)) (shut : Bool) (c : Hp) : Prop := (p = none ∧ q = []) ∨ IsBox p n q shut c

theorem first_i {s : Sl} {h : Hp} {Q : Sl × Int × Bool → Hp → Prop} (hk : F28 s h Q) : callP Try.prog 28 [Value.slice s.a s.len s.cap] (tupC [cSl, cI .i64, cB]) h Q := c28 hk
theorem own_ok {g : Hp} {p0 : Sl} {p1 : Int} {bs : List Int} (r : Row (cI .u8) g p0 bs) (hl : bs.length ≤ 140737488351232) : F13 p0 p1 g (Lawful g) := by
  have hlen := r.1
  unfold F13
  refine join_i (fun t h1 => h1 = g ∧ (t = false → 1 ≤ bs.length ∧ bs.length ≤ 100)) ?_ fun J hJ => ?_
  · rintro t h1 ⟨rfl, hf⟩
    refine cond_i (fun _ => ⟨rfl, Hp.sub_refl _⟩) fun e => ?_
    obtain ⟨hl1, hl2⟩ := hf e
    refine new_ok (On.self h1) (fun h => by omega) fun p c h2 _ _ o2 w2 => ?_
    refine alloc_ob o2 fun k1 h3 o3 => ?_
    have w0 : Own (cI .u8) (ob k1 [] 5) ⟨some ⟨k1, 0, none⟩, 0, 0⟩ [] := own_ob (cd := cI .u8) (xs := []) (rest := []) rfl rfl rfl
    refine append_own (g := h1) (s := ⟨some ⟨k1, 0, none⟩, 0, 0⟩) (t := p0) o3 rfl w0 (by decide) r (o3.get (i := 2) rfl) (by unfold roomP; simp; omega) fun d p2 k2 k3 h4 o4 w4 => ?_
    rw [List.nil_append] at w4
    have hk2 : k2 = bs.length := w4.1
    subst hk2
    have r4 : Row (cI .u8) d ⟨p2, bs.length, k3⟩ bs := w4.row
    refine put_ok (m := ⟨p2, bs.length, k3⟩) o4.swap w2 (i := 1) rfl r4 (by omega) fun c5 h5 o5 w5 => ?_
    have w5' : IsBox p 3 [bs] false c5 := w5
    have hb0 : bs[0]? = some bs[0] := List.getElem?_eq_getElem (by omega)
    refine idx_row r4 (by omega) (by omega) fun a ha => ?_
    refine load_row r4 (o5.get (i := 1) rfl) rfl ha (i := 0) hb0 (by simp) ?_
    refine idx_row r4 (by omega) (by omega) fun a2 ha2 => ?_
    refine store_own o5.swap rfl w4 ha2 (i := 0) (by omega) (by simp) fun d6 h6 o6 w6 => ?_
    refine take_ok o6.swap w5' (fun h => by cases h) fun bs' q' s d7 c7 h7 hq7 o7 w7 r7 => ?_
    cases hq7
    refine shut_nil ?_
    refine take_nil ?_
    have o8 := o7
    refine alloc_ob o8 fun k4 h10 o10 => ?_
    -- the first of a nil box and an empty one
    refine first_i (s := ⟨some ⟨k4, 0, none⟩, 2, 2⟩) ?_
    unfold F28
    have rl : Row cP (ob k4 [Value.pointer none, Value.pointer p] 35) ⟨some ⟨k4, 0, none⟩, 2, 2⟩ [none, p] := row_ob (cd := cP) (xs := [none, p]) rfl rfl
    refine loop_i (fun z h' => ∃ i : Nat, z = i ∧ i ≤ 2 ∧ h' = h10) (fun z => 2 - z.toNat) ⟨0, rfl, by omega, rfl⟩ ?_
    rintro J1 z h11 again ⟨i, rfl, hle, rfl⟩
    refine cond_d (fun hlt => ?_) fun hge => ?_
    · dsimp only at hlt
      have hlt : i < 2 := by omega
      refine idx_row rl (by omega) (by simp; omega) fun a ha => ?_
      rcases (show i = 0 ∨ i = 1 by omega) with rfl | rfl
      · refine load_row rl (o10.get (i := 0) rfl) rfl ha (i := 0) (x := none) rfl (by simp) ?_
        refine take_nil ?_
        refine cond_f rfl (again _ _ ⟨1, by decide, by omega, rfl⟩ (by decide))
      · refine load_row rl (o10.get (i := 0) rfl) rfl ha (i := 1) (x := p) rfl (by simp) ?_
        refine take_ok (q := []) o10.swap w7 (fun _ => ?_) fun _ _ _ _ _ _ h => by cases h
        refine cond_f rfl (again _ _ ⟨2, by decide, by omega, rfl⟩ (by decide))
    · refine cond_t rfl (cond_t rfl ?_)
      refine str_row r7.row (o10.get (i := 2) rfl) ?_
      refine str_row r (o10.get (i := 4) rfl) ?_
      refine cond_t (strEq_self _) ?_
      refine put_nil (m := p0) ?_
      refine cond_t rfl ?_
      refine cond_t rfl ?_
      refine len_nil ?_
      refine cond_t rfl ?_
      refine cond_t rfl ?_
      refine cond_t rfl ?_
      exact known8_ok o10 fun h' o' => ⟨rfl, o'.get (i := 4) rfl⟩
  · refine cond_d (fun _ => hJ _ _ ⟨rfl, fun h => by cases h⟩) fun e1 => ?_
    refine cond_d (fun _ => hJ _ _ ⟨rfl, fun h => by cases h⟩) fun e2 => ?_
    exact hJ _ _ ⟨rfl, fun _ => ⟨by omega, by omega⟩⟩

theorem mailOwn_law (W : World) (p0 : Sl) (p1 : Int) (o0 : Opn Try.prog W 23 [.slice p0.a p0.len p0.cap]) (_o1 : Opn Try.prog W 5 [.int .u8 p1]) : F13 p0 p1 (hpOf W) (Lawful (hpOf W)) := by
  obtain ⟨bs, hr, _, h3, _⟩ := bytes_of o0
  exact own_ok hr h3
end Go.Proofs.Ytplfogbgobkcfaa
