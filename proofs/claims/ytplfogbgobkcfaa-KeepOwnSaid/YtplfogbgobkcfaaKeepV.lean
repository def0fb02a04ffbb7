/- Chapter 9: what is answered is new memory. -/
import Derived.Test.YtplfogbgobkcfaaKeepU
import Derived.Test.YtplfogbgobkcfaaEAA
set_option linter.unusedVariables false
namespace Go.Proofs.Ytplfogbgobkcfaa
open Go.Eng

theorem own9_ok {g : Hp} {p0 : Sl} {p1 : Int} {ms : List Msg} (r : Row cMsg g p0 ms) : F11 p0 p1 g (Lawful g) := by
  unfold F11
  refine join_i (fun t h1 => h1 = g ∧ (t = false → 1 ≤ ms.length ∧ ms.length ≤ 64 ∧ 1 ≤ p1 ∧ p1 ≤ ms.length)) ?_ fun J hJ => ?_
  · rintro t h1 ⟨rfl, hf⟩
    refine cond_i (fun _ => ⟨rfl, Hp.sub_refl _⟩) fun e => ?_
    obtain ⟨hl1, hl2, ha1, ha2⟩ := hf e
    obtain ⟨at', rfl⟩ : ∃ n : Nat, p1 = n := ⟨p1.toNat, by omega⟩
    refine knew_ok (On.self h1) fun p c h2 o2 w2 => ?_
    refine loop_i (fun z h' => ∃ (i : Nat) (c : Hp) (all : List Frame), z = i ∧ i ≤ ms.length ∧ all.length = i ∧ (∀ j m, ms[j]? = some m → j < i → all[j]? = some (mkF (j + 1 : Nat) m)) ∧ On h' [c, h1] ∧ IsKeep p all c) (fun z => ms.length - z.toNat)
      ⟨0, c, [], rfl, Nat.zero_le _, rfl, (fun j m _ h => by omega), o2, w2⟩ ?_
    rintro J1 z h3 again ⟨i, c3, all, rfl, hle, hall, hget, o3, w3⟩
    refine cond_d (fun hlt => ?_) fun hge => ?_
    · rw [r.1] at hlt
      have hlt : i < ms.length := by omega
      have hi : ms[i]? = some ms[i] := List.getElem?_eq_getElem hlt
      refine idx_row r (by omega) (by omega) fun a ha => load_row r (o3.get (i := 1) rfl) rfl ha (i := i) hi (by simp) ?_
      refine kadd_ok o3 w3 (by omega) fun c4 h4 o4 w4 => ?_
      refine again _ _ ⟨i + 1, c4, _, w64n (by omega), by omega, by simp [hall], ?_, o4, w4⟩ (by rw [w64n (by omega)]; omega)
      intro j m hj hji
      by_cases hji' : j < i
      · rw [List.getElem?_append_left (by omega)]; exact hget j m hj hji'
      · have : j = i := by omega
        subst this
        rw [List.getElem?_append_right (by omega), hall, Nat.sub_self]
        rw [hi] at hj; cases hj
        rfl
    · have hin : i = ms.length := by have := r.1; omega
      have hng : ¬ Gone all.length (at' : Int) := by unfold Gone; omega
      refine kfrom_ok o3 w3 (by omega) (by omega) (fun hg => absurd hg hng) fun _ s1 d1 h5 o5 u5 => ?_
      have hs1 : s1.len ≤ 64 := by rw [u5.1]; simp; omega
      refine loop_i (fun z h' => ∃ (k : Nat) (d : Hp) (xs : List Frame), z = k ∧ k ≤ s1.len ∧ xs.length = s1.len ∧ On h' [d, c3, h1] ∧ Own cFrame d s1 xs) (fun z => s1.len - z.toNat)
        ⟨0, d1, _, rfl, Nat.zero_le _, u5.1.symm, o5, u5⟩ ?_
      rintro J2 z h6 again2 ⟨k, d6, xs, rfl, hk, hxs, o6, u6⟩
      refine cond_d (fun hlt => ?_) fun _ => ?_
      · dsimp only at hlt
        have hlt : k < xs.length := by omega
        have hxk : xs[k]? = some xs[k] := List.getElem?_eq_getElem hlt
        refine idx_row u6.row (by omega) (by omega) fun a ha => ?_
        refine store_part (cf := cI .i64) (y := -1) (x' := (⟨-1, xs[k].Msg_Kind, xs[k].Msg_F_0, xs[k].Msg_F_1, xs[k].Msg_F_2, xs[k].Msg_F_3, xs[k].Msg_F_4, xs[k].Msg_F_5⟩ : Frame)) o6 rfl rfl u6 ha (i := k) hxk (m := k * 8) (k := 0) rfl rfl (by decide) fun d7 h7 o7 u7 => ?_
        exact again2 _ _ ⟨k + 1, d7, _, w64n (by omega), by omega, by rw [List.length_set]; exact hxs, o7, u7⟩ (by rw [w64n (by omega)]; omega)
      · have o6' : On h6 [c3, d6, h1] := o6.swap
        refine kfrom_ok o6' w3 (by omega) (by omega) (fun hg => absurd hg hng) fun _ s2 d2 h7 o7 u7 => ?_
        have hs2 : s2.len = ms.length + 1 - at' := by rw [u7.1]; simp; omega
        have get2 : ∀ k m, k < ms.length + 1 - at' → ms[at' - 1 + k]? = some m → (all.drop ((at' : Int) - 1).toNat)[k]? = some (mkF (at' + k : Nat) m) := by
          intro k m hk hm
          rw [List.getElem?_drop, show ((at' : Int) - 1).toNat = at' - 1 by omega]
          rw [hget _ m hm (by omega)]
          rw [show at' - 1 + k + 1 = at' + k by omega]
        refine join_i (fun t h8 => h8 = h7 ∧ t = false) ?_ fun J5 hJ5 => ?_
        · rintro t h8 ⟨rfl, rfl⟩
          refine cond_f rfl ?_
          refine loop_i (fun z h' => ∃ k : Nat, z = k ∧ k ≤ s2.len ∧ h' = h8) (fun z => s2.len - z.toNat) ⟨0, rfl, Nat.zero_le _, rfl⟩ ?_
          rintro J3 z h10 again3 ⟨k, rfl, hkm, rfl⟩
          refine cond_d (fun hlt => ?_) fun _ => ?_
          · dsimp only at hlt
            have hk : k < ms.length + 1 - at' := by omega
            have hj : at' - 1 + k < ms.length := by omega
            have hmj : ms[at' - 1 + k]? = some ms[at' - 1 + k] := List.getElem?_eq_getElem hj
            have hg2 := get2 k _ hk hmj
            have hlen2 : (all.drop ((at' : Int) - 1).toNat).length = ms.length + 1 - at' := by rw [← hs2]; exact u7.1.symm
            have hkl : (k : Int) < ((all.drop ((at' : Int) - 1).toNat).length : Int) := by omega
            have e1 : IntKind.i64.wrap ((at' : Int) + (k : Int)) = ((at' + k : Nat) : Int) := by rw [w64 (by omega) (by omega)]; omega
            have e2 : IntKind.i64.wrap (((at' + k : Nat) : Int) - 1) = ((at' - 1 + k : Nat) : Int) := by rw [w64 (by omega) (by omega)]; omega
            rw [e1, e2]
            refine join_i (fun t h11 => h11 = h10 ∧ t = false) ?_ fun J4 hJ4 => ?_
            · rintro t h11 ⟨rfl, rfl⟩
              exact cond_f rfl (again3 _ _ ⟨k + 1, w64n (by omega), by omega, rfl⟩ (by rw [w64n (by omega)]; omega))
            · refine idx_row u7.row (Int.natCast_nonneg k) hkl fun a ha => ?_
              refine load_part (cf := cI .i64) (y := ((at' + k : Nat) : Int)) u7.row (o7.get (i := 0) rfl) rfl ha (i := k) hg2 (m := k * 8) (k := 0) rfl rfl ?_
              refine cond_f (by simp) ?_
              refine idx_row u7.row (Int.natCast_nonneg k) hkl fun a ha => ?_
              refine idx_row r (Int.natCast_nonneg _) (by omega) fun a2 ha2 => ?_
              refine load_part (cf := cMsg) (y := ms[at' - 1 + k]) u7.row (o7.get (i := 0) rfl) rfl ha (i := k) hg2 (m := k * 8) (k := 1) rfl rfl ?_
              refine load_row r (o7.get (i := 3) rfl) rfl ha2 (i := at' - 1 + k) hmj rfl ?_
              exact hJ4 _ _ ⟨rfl, by simp⟩
          · exact known9_ok o7 fun h9 o9 => ⟨rfl, o9.mem (by simp)⟩
        · refine cond_f rfl (cond_f rfl ?_)
          refine hJ5 _ _ ⟨rfl, ?_⟩
          have := r.1
          rw [w64 (n := (p0.len : Int) + 1) (by omega) (by omega), w64 (by omega) (by omega)]
          simp; omega
  · have := r.1
    refine cond_d (fun _ => hJ _ _ ⟨rfl, fun h => by cases h⟩) fun e1 => ?_
    refine cond_d (fun _ => hJ _ _ ⟨rfl, fun h => by cases h⟩) fun e2 => ?_
    refine cond_d (fun _ => hJ _ _ ⟨rfl, fun h => by cases h⟩) fun e3 => ?_
    exact hJ _ _ ⟨rfl, fun h => ⟨by omega, by omega, by omega, by have := of_decide_eq_false h; omega⟩⟩

theorem keepOwn_law (W : World) (p0 : Sl) (p1 : Int) (o0 : Opn Try.prog W 46 [.slice p0.a p0.len p0.cap]) (_o1 : Opn Try.prog W 2 [.int .i64 p1]) : F11 p0 p1 (hpOf W) (Lawful (hpOf W)) := by
  obtain ⟨ms, h0⟩ := msgs_of o0
  exact own9_ok h0
end Go.Proofs.Ytplfogbgobkcfaa
