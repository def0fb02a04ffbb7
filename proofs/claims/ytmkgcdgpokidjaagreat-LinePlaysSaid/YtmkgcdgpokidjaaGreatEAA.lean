/- More on slices of one's own: a part of an element; parts picked. -/
import Derived.Test.YtmkgcdgpokidjaaGreatEZ
set_option linter.unusedVariables false
namespace Go.Eng
variable {cd cf : Cdc} {g h c : Hp} {s t : Sl} {xs ys : List cd.T} {l : List Hp}

/-- A part of an element of one's own is stored. -/
theorem store_part (o : On h (c :: l)) (hm : cd.mem = true) (hmf : cf.mem = true) (w : Own cd c s xs) {a : Addr} (ha : s.a = some a) {i : Nat} {x0 : cd.T} (hx0 : xs[i]? = some x0) {m k : Nat} (hn : i * cd.n = m) {y : cf.T} {x' : cd.T}
    (hx : setL (cd.enc x0).cells.toList k (cf.enc y).cells.toList = (cd.enc x').cells.toList) (hk : k + cf.n ≤ cd.n) {K : Hp → Prop}
    (hK : ∀ c' h', On h' (c' :: l) → Own cd c' s (xs.set i x') → K h') : storeP cf ((a.add m).add k) y h K := by
  subst hn
  have hi : i < xs.length := (List.getElem?_eq_some_iff.1 hx0).1
  have hxi : xs[i] = x0 := by have := List.getElem?_eq_getElem hi; rw [hx0] at this; exact (Option.some.inj this).symm
  have hr := w.2
  rw [ha] at hr
  obtain ⟨hsp, pre, rest, post, e, fz, hb, hpre, hroom, hfz⟩ := hr
  have hyl : ((cf.enc y).cells.toList).length = cf.n := by simpa using (enc_cells hmf y).1
  have hol : ((cd.enc x0).cells.toList).length = cd.n := by simpa using (enc_cells hm x0).1
  have hcl : (cellsL cd xs).length = xs.length * cd.n := cellsL_len hm xs
  have hsplit : cellsL cd xs = cellsL cd (xs.take i) ++ ((cd.enc x0).cells.toList ++ cellsL cd (xs.drop (i + 1))) := by
    rw [← hxi, ← cellsL_cons, ← cellsL_append, ← List.drop_eq_getElem_cons hi, List.take_append_drop]
  have htl : (cellsL cd (xs.take i)).length = i * cd.n := by rw [cellsL_len hm, List.length_take, Nat.min_eq_left (by omega)]
  have hmul : (i + 1) * cd.n ≤ xs.length * cd.n := Nat.mul_le_mul_right _ hi
  rw [Nat.add_mul, Nat.one_mul] at hmul
  have hadd : (a.add (i * cd.n)).add k = ⟨a.block, a.off + i * cd.n + k, none⟩ := by rw [addr_add' hsp, addr_add]
  have hfit : a.off + i * cd.n + k + cf.n ≤ (pre ++ (cellsL cd xs ++ (rest ++ post))).length := by
    simp only [List.length_append, hpre, hcl]; omega
  rw [hadd]
  refine ⟨Hp.sub_may (o.2 c (by simp)) (may_block' hb hfit fun j h1 h2 => hfz j (by omega) (by omega)), ?_⟩
  have o' := o.wrs hb (i := a.off + i * cd.n + k) (vs := (cf.enc y).cells.toList) (by rw [hyl]; exact hfit)
  refine hK _ _ o' ⟨by rw [w.1]; simp, ?_⟩
  rw [ha]
  refine ⟨hsp, pre, rest, post, e, fz, ?_, hpre, ?_, hfz⟩
  · have hset : setL (pre ++ (cellsL cd xs ++ (rest ++ post))) (a.off + i * cd.n + k) (cf.enc y).cells.toList = pre ++ (cellsL cd (xs.set i x') ++ (rest ++ post)) := by
      have e0 : (cd.enc x0).cells.toList = (cd.enc x0).cells.toList.take k ++ (((cd.enc x0).cells.toList.drop k).take cf.n ++ (cd.enc x0).cells.toList.drop (k + cf.n)) := by
        rw [← List.drop_drop, List.take_append_drop, List.take_append_drop]
      have e1 : pre ++ (cellsL cd xs ++ (rest ++ post)) = (pre ++ (cellsL cd (xs.take i) ++ (cd.enc x0).cells.toList.take k)) ++ (((cd.enc x0).cells.toList.drop k).take cf.n ++ ((cd.enc x0).cells.toList.drop (k + cf.n) ++ (cellsL cd (xs.drop (i + 1)) ++ (rest ++ post)))) := by
        rw [hsplit]
        conv => lhs; rw [e0]
        simp only [List.append_assoc]
      have e2 : a.off + i * cd.n + k = (pre ++ (cellsL cd (xs.take i) ++ (cd.enc x0).cells.toList.take k)).length := by
        simp only [List.length_append, hpre, htl, List.length_take, hol]; omega
      have e3 : cellsL cd (xs.set i x') = cellsL cd (xs.take i) ++ ((cd.enc x').cells.toList ++ cellsL cd (xs.drop (i + 1))) := by
        rw [List.set_eq_take_append_cons_drop, if_pos hi, cellsL_append, cellsL_cons]
      rw [e1, e2, setL_mid _ _ _ _ (by simp [hol, hyl]; omega), e3, ← hx]
      unfold setL
      rw [hyl]
      simp only [List.append_assoc]
    rw [← hset]
    simp [Hp.upd]
  · rw [List.length_set]; exact hroom

/-- What is left of one's own behind the first ones. -/
theorem Own.from (w : Own cd c s xs) (hm : cd.mem = true) (hn : 0 < cd.n) {k : Nat} (hk : k ≤ xs.length) {z : Nat} (hz : z = cd.n) : Own cd c ⟨cutA s.a k s.cap z, s.len - k, s.cap - k⟩ (xs.drop k) := by
  subst hz
  have hcap := w.le_cap hn
  refine ⟨by simp [w.1], ?_⟩
  have hr := w.2
  show match cutA s.a k s.cap cd.n with
    | none => _
    | some a => _
  cases ha : s.a with
  | none =>
    rw [ha] at hr
    have : cutA none k s.cap cd.n = none := by unfold cutA; split <;> rfl
    rw [this]
    exact ⟨by have := hr.1; show s.cap - k = 0; omega, by rw [hr.2]; simp⟩
  | some a =>
    rw [ha] at hr
    obtain ⟨hsp, pre, rest, post, e, fz, hb, hpre, hroom, hfz⟩ := hr
    unfold cutA
    by_cases hck : s.cap = k
    · rw [if_pos hck]
      have hnil : xs.drop k = [] := List.drop_eq_nil_of_le (by omega)
      rw [hnil]
      refine ⟨hsp, pre, [], cellsL cd xs ++ (rest ++ post), e, fz, hb, hpre, ?_, fun j h1 h2 => ?_⟩
      · show 0 * cd.n + 0 = (s.cap - k) * cd.n
        rw [hck, Nat.sub_self]; simp
      · have h0 : (s.cap - k) * cd.n = 0 := by rw [hck, Nat.sub_self, Nat.zero_mul]
        dsimp only at h2
        rw [h0] at h2
        omega
    · rw [if_neg hck]
      rw [show (some a).map (fun x => x.add (k * cd.n)) = some ⟨a.block, a.off + k * cd.n, none⟩ by rw [Option.map_some, addr_add' hsp]]
      have htl : (cellsL cd (xs.take k)).length = k * cd.n := by rw [cellsL_len hm, List.length_take, Nat.min_eq_left hk]
      have hsub : (s.cap - k) * cd.n = s.cap * cd.n - k * cd.n := Nat.sub_mul ..
      have hsub2 : (xs.length - k) * cd.n = xs.length * cd.n - k * cd.n := Nat.sub_mul ..
      have hle : k * cd.n ≤ xs.length * cd.n := Nat.mul_le_mul_right _ hk
      refine ⟨rfl, pre ++ cellsL cd (xs.take k), rest, post, e, fz, ?_, ?_, ?_, fun j h1 h2 => hfz j ?_ ?_⟩
      · rw [hb]
        have : cellsL cd xs = cellsL cd (xs.take k) ++ cellsL cd (xs.drop k) := by rw [← cellsL_append, List.take_append_drop]
        rw [this]
        simp only [List.append_assoc]
      · show (pre ++ cellsL cd (xs.take k)).length = a.off + k * cd.n
        rw [List.length_append, hpre, htl]
      · rw [List.length_drop]; dsimp only; omega
      · dsimp only at h1; omega
      · dsimp only at h2; omega

/-- Parts picked by their places, of the first 'k' ones; the others stay. -/
theorem On.pick {l : List Hp} (o : On h l) (is : List Nat) (k : Nat) (hn : is.Nodup) (hi : ∀ i ∈ is, i < k) : On h (is.filterMap (fun i => l[i]?) ++ l.drop k) := by
  have key : ∀ (i j : Nat) (a b : Hp), i ≠ j → l[i]? = some a → l[j]? = some b → a.dj b := by
    intro i j a b hne ha hb
    obtain ⟨hi', rfl⟩ := List.getElem?_eq_some_iff.1 ha
    obtain ⟨hj', rfl⟩ := List.getElem?_eq_some_iff.1 hb
    have hp := List.pairwise_iff_getElem.1 o.1
    rcases Nat.lt_or_gt_of_ne hne with h' | h'
    · exact hp i j hi' hj' h'
    · exact Hp.dj_symm (hp j i hj' hi' h')
  refine ⟨List.pairwise_append.2 ⟨?_, o.1.sublist (List.drop_sublist _ _), ?_⟩, ?_⟩
  · exact List.pairwise_filterMap.2 (hn.imp fun hne b hb b' hb' => key _ _ _ _ hne hb hb')
  · intro a ha b hb
    obtain ⟨i, hi', ha'⟩ := List.mem_filterMap.1 ha
    obtain ⟨j, hj⟩ := List.getElem?_of_mem hb
    rw [List.getElem?_drop] at hj
    exact key i (k + j) a b (by have := hi i hi'; omega) ha' hj
  · intro c hc
    rcases List.mem_append.1 hc with hc | hc
    · obtain ⟨i, _, h'⟩ := List.mem_filterMap.1 hc
      exact o.2 c (List.mem_of_getElem? h')
    · exact o.2 c (List.mem_of_mem_drop hc)
end Go.Eng
