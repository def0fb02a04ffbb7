/- Chapter 9: the ones that are known; just the last ones are kept. -/
import Derived.Test.YtplfogbgobkcfaaKeepQ
set_option linter.unusedVariables false
namespace Go.Proofs.Ytplfogbgobkcfaa
open Go.Eng

theorem known9_ok {h : Hp} {l : List Hp} (o : On h l) {Q : Bool → Hp → Prop} (hq : ∀ h', On h' l → Q true h') : callP Try.prog 37 [] cB h Q := by
  refine c37 ?_
  unfold F37
  refine knew_ok o fun p c h1 o1 w1 => ?_
  refine kadd_ok (m := ⟨18, 0, 0, 0, 0, 0, 0⟩) o1 w1 (by simp) fun c2 h2 o2 w2 => ?_
  refine kadd_ok (m := ⟨27, 0, 0, 0, 0, 0, 0⟩) o2 w2 (by simp) fun c3 h3 o3 w3 => ?_
  refine kfrom_ok o3 w3 (by simp) (by omega) (fun hg => by unfold Gone at hg; simp at hg) fun _ s d h4 o4 w4 => ?_
  have w4' : Own cFrame d s [mkF 2 ⟨27, 0, 0, 0, 0, 0, 0⟩] := w4
  refine cond_t rfl (cond_t rfl (cond_t rfl (cond_t ?_ ?_)))
  · have := w4'.1; simp at this; simp [this]
  refine idx_row w4'.row (by omega) (by simp) fun a ha => load_row w4'.row (o4.get (i := 0) rfl) rfl ha (i := 0) rfl (by simp) ?_
  refine cond_t rfl ?_
  refine knext_ok o4.swap w3 ?_
  exact hq _ o4.tail.tail

/-- A part of an element is loaded. -/
theorem load_part {cd cf : Cdc} {g h : Hp} {s : Sl} {xs : List cd.T} (r : Row cd g s xs) (hs : g.sub h) (hm : cd.mem = true) {a : Addr} (ha : s.a = some a) {i : Nat} {x : cd.T} (hx : xs[i]? = some x) {m k : Nat} (hn : i * cd.n = m) {y : cf.T}
    (hy : ((cd.enc x).cells.toList.drop k).take (cf.enc y).cells.toList.length = (cf.enc y).cells.toList) {K : cf.T → Prop} (h2 : K y) : loadP cf ((a.add m).add k) h K := by
  refine ⟨y, ?_, h2⟩
  have hr := r.2
  rw [ha] at hr
  subst hn
  have hl : ((cd.enc x).cells.toList).length = cd.n := by simpa using (enc_cells hm x).1
  exact Hp.sub_rds hs (Hp.rds_add (Hp.rds_add hr _ (by rw [hl]; exact cellsL_part hm xs i x hx)) _ hy)

def ack (i : Nat) : Frame := mkF ((i : Int) + 1) ⟨18, i, 0, 0, 0, 0, 0⟩
def acks (n : Nat) : List Frame := (List.range n).map ack
theorem acks_len (n : Nat) : (acks n).length = n := by simp [acks]
theorem acks_succ (n : Nat) : acks (n + 1) = acks n ++ [ack n] := by simp [acks, List.range_succ]

theorem last_ok {g : Hp} {p0 p1 : Int} : F10 p0 p1 g (Lawful g) := by
  unfold F10
  refine join_i (fun t h1 => h1 = g ∧ (t = false → 0 ≤ p0 ∧ p0 ≤ 300 ∧ 0 ≤ p1 ∧ p1 ≤ 300)) ?_ fun J hJ => ?_
  · rintro t h1 ⟨rfl, hf⟩
    refine cond_i (fun _ => ⟨rfl, Hp.sub_refl _⟩) fun e => ?_
    obtain ⟨ha0, ha1, hb0, hb1⟩ := hf e
    obtain ⟨n, rfl⟩ : ∃ n : Nat, p0 = n := ⟨p0.toNat, by omega⟩
    obtain ⟨m, rfl⟩ : ∃ m : Nat, p1 = m := ⟨p1.toNat, by omega⟩
    refine knew_ok (On.self h1) fun p c h2 o2 w2 => ?_
    refine loop_i (fun z h' => ∃ (i : Nat) (c : Hp), z = i ∧ i ≤ n ∧ On h' [c, h1] ∧ IsKeep p (acks i) c) (fun z => n - z.toNat) ⟨0, c, rfl, Nat.zero_le _, o2, w2⟩ ?_
    rintro J1 z h3 again ⟨i, c3, rfl, hle, o3, w3⟩
    have hp : p.isNone = false := by obtain ⟨b, _, _, _, rfl, _⟩ := w3; rfl
    refine join_i (fun t h4 => h4 = h3 ∧ t = decide ((i : Int) < n)) ?_ fun J5 hJ5 => ?_
    · rintro t h4 ⟨rfl, rfl⟩
      refine cond_d (fun hlt => ?_) fun hge => ?_
      · refine kadd_ok (m := ⟨18, (i : Int), 0, 0, 0, 0, 0⟩) o3 w3 (by rw [acks_len]; omega) fun c5 h5 o5 w5 => ?_
        refine again _ _ ⟨i + 1, c5, w64n (by omega), by omega, o5, ?_⟩ (by rw [w64n (by omega)]; omega)
        rw [acks_succ]
        rw [acks_len] at w5
        have e : ack i = mkF ((i + 1 : Nat) : Int) ⟨18, (i : Int), 0, 0, 0, 0, 0⟩ := rfl
        rw [e]
        exact w5
      · have hin : i = n := by omega
        subst hin
        rw [w64 (n := (i : Int) + 1) (by omega) (by omega), w64 (by omega) (by omega)]
        have known : ∀ h' (l : List Hp), On h' l → h1 ∈ l → callP Try.prog 37 [] cB h' fun t h9 => Lawful h1 t h9 := fun h' l o' hm => known9_ok o' fun h9 o9 => ⟨rfl, o9.mem hm⟩
        refine kfrom_ok o3 w3 (by rw [acks_len]; omega) (by omega) (fun hg => ?_) fun hng s d h6 o6 w6 => ?_
        · rw [acks_len] at hg
          unfold Gone at hg
          refine kfrom_nil ?_
          refine join_i (fun t h8 => h8 = h4 ∧ t = false) ?_ fun J4 hJ4 => ?_
          · rintro t h8 ⟨rfl, rfl⟩
            exact cond_f rfl (cond_t rfl (cond_t rfl (known _ _ o3 (by simp))))
          · refine cond_f rfl (knext_nil (cond_f rfl ?_))
            refine cond_d (fun h => ?_) fun h => hJ4 _ _ ⟨rfl, rfl⟩
            refine hJ4 _ _ ⟨rfl, ?_⟩
            rw [decide_eq_false (by omega)]; rfl
        · rw [acks_len] at hng
          unfold Gone at hng
          refine kfrom_nil ?_
          have hs : ((i : Int) + 1 - m - 1).toNat = i - m := by omega
          rw [hs] at w6
          have hsl : s.len = m := by rw [w6.1]; simp [acks_len]; omega
          have get : ∀ k, k < m → ((acks i).drop (i - m))[k]? = some (ack (i - m + k)) := by
            intro k hk
            rw [List.getElem?_drop]
            show ((List.range i).map ack)[i - m + k]? = _
            rw [List.getElem?_map, List.getElem?_range (by omega)]
            rfl
          refine join_i (fun t h8 => h8 = h6 ∧ t = false) ?_ fun J4 hJ4 => ?_
          · rintro t h8 ⟨rfl, rfl⟩
            refine cond_f rfl (cond_f rfl ?_)
            refine loop_i (fun z h' => ∃ k : Nat, z = k ∧ k ≤ m ∧ h' = h8) (fun z => m - z.toNat) ⟨0, rfl, Nat.zero_le _, rfl⟩ ?_
            rintro J2 z h10 again2 ⟨k, rfl, hkm, rfl⟩
            refine cond_d (fun hlt => ?_) fun hge2 => ?_
            · dsimp only at hlt
              have hk : k < m := by omega
              refine join_i (fun t h11 => h11 = h10 ∧ t = false) ?_ fun J3 hJ3 => ?_
              · rintro t h11 ⟨rfl, rfl⟩
                refine cond_f rfl (again2 _ _ ⟨k + 1, w64n (by omega), by omega, rfl⟩ (by rw [w64n (by omega)]; omega))
              · have hlen6 : ((acks i).drop (i - m)).length = m := by rw [List.length_drop, acks_len]; omega
                refine idx_row w6.row (Int.natCast_nonneg k) (by rw [hlen6]; omega) fun a ha => ?_
                refine load_part (cf := cI .i64) (y := ((i - m + k : Nat) : Int) + 1) w6.row (o6.get (i := 0) rfl) rfl ha (i := k) (get k hk) (k := 0) (by simp) rfl ?_
                refine cond_f ?_ ?_
                · rw [w64 (n := (i : Int) - m) (by omega) (by omega), w64 (n := (i : Int) - m + k) (by omega) (by omega), w64 (by omega) (by omega)]
                  simp; omega
                · refine idx_row w6.row (by omega) (by rw [hlen6]; omega) fun a ha => ?_
                  refine ⟨by omega, by omega, ?_⟩
                  refine load_part (cf := cI .i64) (y := ((i - m + k : Nat) : Int)) w6.row (o6.get (i := 0) rfl) rfl ha (i := k) (get k hk) (m := k * 8) (k := 2) rfl rfl ?_
                  refine hJ3 _ _ ⟨rfl, ?_⟩
                  rw [w64 (n := (i : Int) - m) (by omega) (by omega), w64 (by omega) (by omega)]
                  simp; omega
            · dsimp only at hge2
              refine cond_t (by simp [hsl]) (known _ _ o6 (by simp))
          · refine cond_f rfl (knext_nil (cond_f rfl ?_))
            refine cond_d (fun h => ?_) fun h => by omega
            refine hJ4 _ _ ⟨rfl, ?_⟩
            rw [decide_eq_true (by omega)]; rfl
    · exact cond_t (by rw [hp]; rfl) (hJ5 _ _ ⟨rfl, rfl⟩)
  · refine cond_d (fun _ => hJ _ _ ⟨rfl, fun h => by cases h⟩) fun e1 => ?_
    refine cond_d (fun _ => hJ _ _ ⟨rfl, fun h => by cases h⟩) fun e2 => ?_
    refine cond_d (fun _ => hJ _ _ ⟨rfl, fun h => by cases h⟩) fun e3 => ?_
    exact hJ _ _ ⟨rfl, fun h => ⟨by omega, by omega, by omega, by simpa using h⟩⟩

theorem keepLast_law (W : World) (p0 p1 : Int) (_o0 : Opn Try.prog W 3 [.int .i64 p0]) (_o1 : Opn Try.prog W 3 [.int .i64 p1]) : F10 p0 p1 (hpOf W) (Lawful (hpOf W)) := last_ok
end Go.Proofs.Ytplfogbgobkcfaa
