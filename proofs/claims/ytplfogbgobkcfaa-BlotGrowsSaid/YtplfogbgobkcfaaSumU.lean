/- Chapter 4: one byte turned. -/
import Derived.Test.YtplfogbgobkcfaaSumT
import Derived.Test.YtplfogbgobkcfaaEY
set_option linter.unusedVariables false
namespace Go.Proofs.Ytplfogbgobkcfaa
open Go.Eng

theorem and64_range (x : Int) : 0 ≤ andI .i64 x 65535 ∧ andI .i64 x 65535 ≤ 65535 := by
  have e : andI .i64 x 65535 = IntKind.i64.wrap ((BitVec.ofInt 64 x &&& BitVec.ofInt 64 65535).toNat : Int) := rfl
  have h : (BitVec.ofInt 64 x &&& BitVec.ofInt 64 65535).toNat ≤ 65535 := by
    rw [BitVec.toNat_and]
    exact Nat.le_trans Nat.and_le_right (by decide)
  rw [e, w64 (by omega) (by omega)]
  omega

theorem turned_ok {g : Hp} {p0 : Sl} {p1 p2 : Int} {bs : List Int} (r : Row (cI .u8) g p0 bs) (hb : ∀ b ∈ bs, 0 ≤ b ∧ b < 256) (hl : bs.length ≤ 140737488351232) (h2 : 0 ≤ p2 ∧ p2 < 256) : F4 p0 p1 p2 g (Lawful g) := by
  have hlen := r.1
  unfold F4
  refine join_i (fun t h1 => h1 = g ∧ (t = false → 1 ≤ bs.length ∧ bs.length ≤ 1000 ∧ p2 ≠ 0)) ?_ fun J1 hJ1 => ?_
  · rintro t h1 ⟨rfl, ht⟩
    refine cond_i (fun _ => ⟨rfl, Hp.sub_refl _⟩) fun hf => ?_
    obtain ⟨hl1, hl2, hne⟩ := ht hf
    refine alloc_ob (On.self h1) fun k1 h2' o2 => ?_
    have w0 : Own (cI .u8) (ob k1 [] 5) ⟨some ⟨k1, 0, none⟩, 0, 0⟩ [] := own_ob (cd := cI .u8) (xs := []) (rest := []) rfl rfl rfl
    refine append_own (g := h1) (s := ⟨some ⟨k1, 0, none⟩, 0, 0⟩) (t := p0) o2 rfl w0 (by decide) r (o2.get (i := 1) rfl) (by unfold roomP; simp; omega) fun c p k2 k3 h3 o3 w3 => ?_
    rw [List.nil_append] at w3
    have hk2 : k2 = bs.length := w3.1
    subst hk2
    have hr := and64_range p1
    have hi0 : 0 ≤ (andI .i64 p1 65535).tmod (bs.length : Int) := Int.tmod_nonneg _ hr.1
    have hi1 : (andI .i64 p1 65535).tmod (bs.length : Int) < bs.length := Int.tmod_lt_of_pos _ (by omega)
    have r3 : Row (cI .u8) c ⟨p, bs.length, k3⟩ bs := w3.row
    generalize hj : (andI .i64 p1 65535).tmod (bs.length : Int) = j at hi0 hi1
    refine ⟨by omega, idx_row r3 hi0 hi1 fun a ha => ?_⟩
    have hjl : j.toNat < bs.length := by omega
    have hbj : bs[j.toNat]? = some bs[j.toNat] := List.getElem?_eq_getElem hjl
    refine load_row r3 (o3.get (i := 0) rfl) rfl ha hbj (by simp) ?_
    refine idx_row r3 hi0 hi1 fun a2 ha2 => ?_
    refine store_own o3 rfl w3 ha2 (i := j.toNat) hjl (by simp) fun c4 h4 o4 w4 => ?_
    have r4 : Row (cI .u8) c4 ⟨p, bs.length, k3⟩ (bs.set j.toNat (xorI .u8 bs[j.toNat] p2)) := w4.row
    refine alloc_ob o4 fun k4 h5 o5 => ?_
    refine of1_ok (s := ⟨p, bs.length, k3⟩) o5 0 rfl (r4.sub (o5.get (i := 1) rfl)) (by simp; omega) ?_
    refine alloc_ob o5 fun k5 h7 o7 => ?_
    refine of1_ok (s := p0) o7 0 rfl (r.sub (o7.get (i := 3) rfl)) (by omega) ?_
    refine cond_t (by simpa using turned_ne hb hbj h2 hne) ?_
    refine alloc_ob o7 fun k6 h9 o9 => ?_
    refine alloc_ob o9 fun k7 h10 o10 => ?_
    have r6 : Row (cI .u8) h10 ⟨some ⟨k6, 0, none⟩, 1, 1⟩ [0] := (row_ob (cd := cI .u8) (xs := [(0 : Int)]) rfl rfl).sub (o10.get (i := 1) rfl)
    have r7 : Row cSl h10 ⟨some ⟨k7, 0, none⟩, 2, 2⟩ [⟨some ⟨k6, 0, none⟩, 1, 1⟩, p0] := (row_ob (cd := cSl) (xs := [(⟨some ⟨k6, 0, none⟩, 1, 1⟩ : Sl), p0]) rfl rfl).sub (o10.get (i := 0) rfl)
    refine of_ok (p0 := ⟨some ⟨k7, 0, none⟩, 2, 2⟩) (bss := [[0], bs]) (Hp.sub_refl h10) r7 ⟨r6, r.sub (o10.get (i := 5) rfl), trivial⟩ (by simp) (by simp; omega) ?_
    refine alloc_ob o10 fun k8 h12 o12 => ?_
    refine of1_ok (s := p0) o12 0 rfl (r.sub (o12.get (i := 6) rfl)) (by omega) ?_
    refine cond_t (by simpa using nought_ne hb) ?_
    exact known_ok o12 fun h14 o14 => ⟨rfl, o14.get (i := 6) rfl⟩
  · refine cond_d (fun _ => hJ1 _ _ ⟨rfl, fun h => by cases h⟩) fun h1 => ?_
    refine cond_d (fun _ => hJ1 _ _ ⟨rfl, fun h => by cases h⟩) fun h2' => ?_
    refine hJ1 _ _ ⟨rfl, fun h => ⟨by omega, by omega, by simpa using h⟩⟩

theorem sumTurned_law (W : World) (p0 : Sl) (p1 p2 : Int) (o0 : Opn Try.prog W 23 [.slice p0.a p0.len p0.cap]) (_o1 : Opn Try.prog W 3 [.int .i64 p1]) (o2 : Opn Try.prog W 5 [.int .u8 p2]) : F4 p0 p1 p2 (hpOf W) (Lawful (hpOf W)) := by
  obtain ⟨bs, hr, hb, h3, _⟩ := bytes_of o0
  refine turned_ok hr hb h3 ?_
  obtain ⟨x, hx, ok⟩ := open_flat (d := 1) (ls := [(.i .u8, 5)]) o2 (by kernel_rfl)
  have e : p2 = x := by
    have : [Value.int .u8 p2] = [Value.int .u8 x] := hx
    simpa using this
  have : (Lit.int .u8 x).wf = true := ok
  simp [Lit.wf, IntKind.min, IntKind.max, IntKind.signed, IntKind.bits] at this
  omega
end Go.Proofs.Ytplfogbgobkcfaa
