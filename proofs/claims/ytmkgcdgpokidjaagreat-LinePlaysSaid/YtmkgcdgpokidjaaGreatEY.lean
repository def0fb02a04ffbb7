/- More on slices of one's own. -/
import Derived.Test.YtmkgcdgpokidjaaGreatEX
set_option linter.unusedVariables false
namespace Go.Eng
variable {cd : Cdc} {g h c : Hp} {s t : Sl} {xs ys : List cd.T} {l : List Hp}

theorem On.emp {h : Hp} {l : List Hp} (o : On h l) : On h (Hp.emp :: l) :=
  ⟨List.pairwise_cons.2 ⟨fun _ _ _ => .inl rfl, o.1⟩, fun c hc => by
    rcases List.mem_cons.1 hc with rfl | hc
    · intro b o h; cases h
    · exact o.2 c hc⟩

theorem setL_mid (p q r vs : List Value) (hl : q.length = vs.length) : setL (p ++ (q ++ r)) p.length vs = p ++ (vs ++ r) := by
  unfold setL
  rw [List.take_append_of_le_length (Nat.le_refl _), List.take_length, ← List.drop_drop, List.drop_append_of_le_length (Nat.le_refl _), List.drop_length, List.nil_append, ← hl,
    List.drop_append_of_le_length (Nat.le_refl _), List.drop_length, List.nil_append]

/-- An element of one's own is stored. -/
theorem store_own (o : On h (c :: l)) (hm : cd.mem = true) (w : Own cd c s xs) {a : Addr} (ha : s.a = some a) {i : Nat} (hi : i < xs.length) {m : Nat} (hn : i * cd.n = m) {x : cd.T} {K : Hp → Prop}
    (hK : ∀ c' h', On h' (c' :: l) → Own cd c' s (xs.set i x) → K h') : storeP cd (a.add m) x h K := by
  subst hn
  have hr := w.2
  rw [ha] at hr
  obtain ⟨hsp, pre, rest, post, e, fz, hb, hpre, hroom, hfz⟩ := hr
  have hx := (enc_cells hm x).1
  have hxl : ((cd.enc x).cells.toList).length = cd.n := by simpa using hx
  have hol : ((cd.enc xs[i]).cells.toList).length = cd.n := by simpa using (enc_cells hm xs[i]).1
  have hcl : (cellsL cd xs).length = xs.length * cd.n := cellsL_len hm xs
  have hsplit : cellsL cd xs = cellsL cd (xs.take i) ++ ((cd.enc xs[i]).cells.toList ++ cellsL cd (xs.drop (i + 1))) := by
    rw [← cellsL_cons, ← cellsL_append, ← List.drop_eq_getElem_cons hi, List.take_append_drop]
  have htl : (cellsL cd (xs.take i)).length = i * cd.n := by rw [cellsL_len hm, List.length_take, Nat.min_eq_left (by omega)]
  have hmul : (i + 1) * cd.n ≤ xs.length * cd.n := Nat.mul_le_mul_right _ hi
  rw [Nat.add_mul, Nat.one_mul] at hmul
  have hfit : a.off + i * cd.n + cd.n ≤ (pre ++ (cellsL cd xs ++ (rest ++ post))).length := by
    simp only [List.length_append, hpre, hcl]; omega
  rw [addr_add' hsp]
  refine ⟨Hp.sub_may (o.2 c (by simp)) (may_block' hb hfit fun k h1 h2 => hfz k (by omega) (by omega)), ?_⟩
  have o' := o.wrs hb (i := a.off + i * cd.n) (vs := (cd.enc x).cells.toList) (by rw [hxl]; exact hfit)
  refine hK _ _ o' ⟨by rw [w.1]; simp, ?_⟩
  rw [ha]
  refine ⟨hsp, pre, rest, post, e, fz, ?_, hpre, ?_, hfz⟩
  · have hset : setL (pre ++ (cellsL cd xs ++ (rest ++ post))) (a.off + i * cd.n) (cd.enc x).cells.toList = pre ++ (cellsL cd (xs.set i x) ++ (rest ++ post)) := by
      have e1 : pre ++ (cellsL cd xs ++ (rest ++ post)) = (pre ++ cellsL cd (xs.take i)) ++ ((cd.enc xs[i]).cells.toList ++ (cellsL cd (xs.drop (i + 1)) ++ (rest ++ post))) := by
        rw [hsplit]; simp only [List.append_assoc]
      have e2 : a.off + i * cd.n = (pre ++ cellsL cd (xs.take i)).length := by rw [List.length_append, hpre, htl]
      have e3 : cellsL cd (xs.set i x) = cellsL cd (xs.take i) ++ ((cd.enc x).cells.toList ++ cellsL cd (xs.drop (i + 1))) := by
        rw [List.set_eq_take_append_cons_drop, if_pos hi, cellsL_append, cellsL_cons]
      rw [e1, e2, setL_mid _ _ _ _ (by rw [hol, hxl]), e3]
      simp only [List.append_assoc]
    rw [← hset]
    simp [Hp.upd]
  · rw [List.length_set]; exact hroom
theorem On.at' {h : Hp} {cs l : List Hp} (o : On h (cs ++ l)) (i : Nat) {c : Hp} (hc : cs[i]? = some c) : On h (c :: (cs.eraseIdx i ++ l)) := by
  have hlt : i < cs.length := (List.getElem?_eq_some_iff.1 hc).1
  have := o.pull i (c := c) (by rw [List.getElem?_append_left hlt]; exact hc)
  rwa [List.eraseIdx_append_of_lt_length hlt] at this
theorem erase_perm {α : Type} : ∀ (cs : List α) (i : Nat) (c : α), i < cs.length → (c :: cs.eraseIdx i).Perm (cs.set i c)
  | [], _, _, h => by simp at h
  | x :: cs, 0, c, _ => List.Perm.refl _
  | x :: cs, i + 1, c, h => (List.Perm.swap x c _).trans (List.Perm.cons x (erase_perm cs i c (by simpa using h)))
theorem On.back' {h : Hp} {cs l : List Hp} {i : Nat} {c : Hp} (o : On h (c :: (cs.eraseIdx i ++ l))) (hi : i < cs.length) : On h (cs.set i c ++ l) := by
  refine o.perm ?_
  exact (erase_perm cs i c hi).append_right l

end Go.Eng
