/- Chapter 8: what is put is taken in that order. -/
import Derived.Test.YtplfogbgobkcfaaMailQ
set_option linter.unusedVariables false
namespace Go.Proofs.Ytplfogbgobkcfaa
open Go.Eng

theorem strEq_self (s : ByteArray) : strEq s s = true := by simp [strEq]
theorem take_succ_take {α : Type} (l : List α) (i n : Nat) {x : α} (hx : l[i]? = some x) : (l.take (i + 1)).take n = bif decide (((l.take i).take n).length < n) then (l.take i).take n ++ [x] else (l.take i).take n := by
  have hlt : i < l.length := (List.getElem?_eq_some_iff.1 hx).1
  have hl : ((l.take i).take n).length = min n i := by simp; omega
  rw [hl, List.take_take, List.take_take]
  by_cases h : i < n
  · rw [decide_eq_true (by omega), cond_true, Nat.min_eq_right (by omega), Nat.min_eq_right (by omega), List.take_add_one, hx]; rfl
  · rw [decide_eq_false (by omega), cond_false, Nat.min_eq_left (by omega), Nat.min_eq_left (by omega)]

theorem order_ok {g : Hp} {p0 : Int} {p1 : Sl} {ss : List Sl} {bss : List (List Int)} (r : Row cSl g p1 ss) (rr : Rows2 g ss bss) (hl : ss.length ≤ 140737488351232) : F7 p0 p1 g (Lawful g) := by
  have hlen := rr.len
  have hr1 := r.1
  unfold F7
  refine join_i (fun t h1 => h1 = g ∧ (t = false → 1 ≤ p0 ∧ p0 ≤ 30)) ?_ fun J hJ => ?_
  · rintro t h1 ⟨rfl, hf⟩
    refine cond_i (fun _ => ⟨rfl, Hp.sub_refl _⟩) fun e => ?_
    obtain ⟨hn1, hn2⟩ := hf e
    refine new_ok (On.self h1) (fun h => by omega) fun p c h2 _ _ o2 w2 => ?_
    obtain ⟨n, hn⟩ : ∃ n : Nat, p0 = n := ⟨p0.toNat, by omega⟩
    subst hn
    rw [Int.toNat_natCast] at w2
    have hp : p.isNone = false := by obtain ⟨b, _, _, _, _, _, _, rfl, _⟩ := w2; rfl
    refine loop_i (fun z h' => ∃ (i : Nat) (c : Hp), z = i ∧ i ≤ ss.length ∧ On h' [c, h1] ∧ IsBox p n ((bss.take i).take n) false c) (fun z => ss.length - z.toNat) ⟨0, c, rfl, Nat.zero_le _, o2, by simpa using w2⟩ ?_
    rintro J1 z h3 again ⟨i, c3, rfl, hle, o3, w3⟩
    have hg3 : h1.sub h3 := o3.get (i := 1) rfl
    refine join_i (fun t h4 => h4 = h3 ∧ t = decide (i < ss.length)) ?_ fun J5 hJ5 => ?_
    · rintro t h4 ⟨rfl, rfl⟩
      refine cond_d (fun hlt => ?_) fun hge => ?_
      · have hi : ss[i]? = some ss[i] := List.getElem?_eq_getElem hlt
        obtain ⟨bs, hbi, rb⟩ := rr.get i _ hi
        refine idx_row r (by omega) (by omega) fun a ha => load_row r hg3 rfl ha (i := i) hi (by simp) ?_
        refine cond_d (fun _ => ⟨rfl, hg3⟩) fun h50 => ?_
        have hbl : bs.length ≤ 50 := by have := rb.1; omega
        refine idx_row r (by omega) (by omega) fun a ha => load_row r hg3 rfl ha (i := i) hi (by simp) ?_
        refine put_ok o3 w3 (i := 1) rfl rb (by omega) fun c5 h5 o5 w5 => ?_
        have hq : ((bss.take i).take n).length = min n i := by simp; omega
        have ht : (!false && decide (((bss.take i).take n).length < n)) = decide ((i : Int) < (n : Int)) := by
          rw [hq]
          by_cases h : i < n
          · rw [decide_eq_true (show min n i < n by omega), decide_eq_true (show (i : Int) < n by omega)]; rfl
          · rw [decide_eq_false (show ¬ min n i < n by omega), decide_eq_false (show ¬ (i : Int) < n by omega)]; rfl
        refine cond_f (by rw [ht]; cases decide ((i : Int) < (n : Int)) <;> rfl) ?_
        refine again _ _ ⟨i + 1, c5, w64n (by omega), by omega, o5, ?_⟩ ?_
        · rw [take_succ_take bss i n hbi]
          simpa using w5
        · rw [w64n (by omega)]; omega
      · have hil : i = bss.length := by omega
        rw [hil, List.take_length] at w3
        refine shut_ok o3 w3 fun c6 h6 o6 w6 => ?_
        refine put_ok (m := ⟨none, 0, 0⟩) (bs := []) o6 w6 (i := 1) rfl (Row.nil _) (by simp) fun c7 h7 o7 w7 => ?_
        have w7' : IsBox p n (bss.take n) true c7 := w7
        refine cond_f rfl ?_
        refine loop_i (fun z h' => ∃ (i : Nat) (c : Hp), z = i ∧ i ≤ ss.length ∧ i ≤ n ∧ On h' [c, h1] ∧ IsBox p n ((bss.take n).drop i) true c) (fun z => ss.length - z.toNat) ⟨0, c7, rfl, Nat.zero_le _, Nat.zero_le _, o7, by simpa using w7'⟩ ?_
        rintro J2 z h8 again2 ⟨j, c8, rfl, hle2, hle3, o8, w8⟩
        have hg8 : h1.sub h8 := o8.get (i := 1) rfl
        refine join_i (fun t h9 => h9 = h8 ∧ t = (decide (j < ss.length) && decide (j < n))) ?_ fun J4 hJ4 => ?_
        · rintro t h9 ⟨rfl, rfl⟩
          refine cond_i (fun ht => ?_) fun hf => ?_
          · simp only [Bool.and_eq_true, decide_eq_true_eq] at ht
            obtain ⟨ht1, ht2⟩ := ht
            have hj : ss[j]? = some ss[j] := List.getElem?_eq_getElem ht1
            obtain ⟨bs, hbj, rb⟩ := rr.get j _ hj
            have hdrop : (bss.take n).drop j = bs :: (bss.take n).drop (j + 1) := by
              have hjt : j < (bss.take n).length := by simp; omega
              rw [List.drop_eq_getElem_cons hjt]
              congr 1
              rw [List.getElem_take]
              exact (List.getElem?_eq_some_iff.1 hbj).2
            refine take_ok o8 w8 (fun h => by rw [hdrop] at h; cases h) fun bs' q' s d10 c10 h10 hq o10 w10 r10 => ?_
            rw [hdrop] at hq
            cases hq
            have hg10 : h1.sub h10 := o10.get (i := 2) rfl
            refine join_i (fun t h11 => h11 = h10 ∧ t = false) ?_ fun J3 hJ3 => ?_
            · rintro t h11 ⟨rfl, rfl⟩
              refine cond_f rfl (again2 _ _ ⟨j + 1, c10, w64n (by omega), by omega, by omega, o10.sublist (List.Sublist.cons_cons _ (List.sublist_cons_self _ _)), w10⟩ ?_)
              rw [w64n (by omega)]; omega
            · refine cond_f rfl ?_
              refine idx_row r (by omega) (by omega) fun a ha => ?_
              refine str_row r10.row (o10.get (i := 1) rfl) ?_
              refine load_row r hg10 rfl ha (i := j) hj (by simp) ?_
              refine str_row rb hg10 ?_
              rw [strEq_self]
              exact hJ3 _ _ ⟨rfl, rfl⟩
          · have hemp : (bss.take n).drop j = [] := by
              apply List.drop_eq_nil_of_le
              simp only [Bool.and_eq_false_iff, decide_eq_false_iff_not] at hf
              simp; omega
            rw [hemp] at w8
            refine take_ok o8 w8 (fun _ => ?_) fun bs' q' s d10 c10 h10 hq => by cases hq
            refine cond_t rfl ?_
            refine cond_t (by rw [hp]; rfl) ?_
            exact known8_ok o8 fun h' o' => ⟨rfl, o'.get (i := 1) rfl⟩
        · refine cond_d (fun hlt => ?_) fun hge => ?_
          · refine hJ4 _ _ ⟨rfl, ?_⟩
            rw [decide_eq_true (show j < ss.length by omega), Bool.true_and]
            by_cases h : j < n
            · rw [decide_eq_true h, decide_eq_true (show (j : Int) < n by omega)]
            · rw [decide_eq_false h, decide_eq_false (show ¬ (j : Int) < n by omega)]
          · refine hJ4 _ _ ⟨rfl, ?_⟩
            rw [decide_eq_false (show ¬ j < ss.length by omega), Bool.false_and]
    · refine cond_t (by rw [hp]; rfl) ?_
      refine hJ5 _ _ ⟨rfl, ?_⟩
      by_cases h : i < ss.length
      · rw [decide_eq_true h, decide_eq_true (show (i : Int) < p1.len by omega)]
      · rw [decide_eq_false h, decide_eq_false (show ¬ (i : Int) < p1.len by omega)]
  · refine cond_d (fun _ => hJ _ _ ⟨rfl, fun h => by cases h⟩) fun e1 => ?_
    refine cond_d (fun _ => hJ _ _ ⟨rfl, fun h => by cases h⟩) fun e2 => ?_
    exact hJ _ _ ⟨rfl, fun _ => ⟨by omega, by omega⟩⟩

theorem mailOrder_law (W : World) (p0 : Int) (p1 : Sl) (_o0 : Opn Try.prog W 3 [.int .i64 p0]) (o1 : Opn Try.prog W 22 [.slice p1.a p1.len p1.cap]) : F7 p0 p1 (hpOf W) (Lawful (hpOf W)) := by
  obtain ⟨ss, bss, h1, h2, _, h4⟩ := rows_of o1
  exact order_ok h1 h2 h4
end Go.Proofs.Ytplfogbgobkcfaa
