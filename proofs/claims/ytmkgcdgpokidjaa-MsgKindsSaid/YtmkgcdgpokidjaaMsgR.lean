/- Chapter 5: reading. -/
import Derived.Test.YtmkgcdgpokidjaaMsgQ
set_option linter.unusedVariables false
namespace Go.Proofs.Ytmkgcdgpokidjaa
open Go.Eng

/-- The frame whose bytes these are. -/
def readV (bs : List Int) : Option Frame :=
  match firstV bs with
  | none => none
  | some (s, k) => match firstV (bs.drop k) with
    | none => none
    | some (t, k2) => if s < 0 ∨ manyV t < 0 then none else (getV ((bs.drop k).drop k2) (manyV t)).map fun ns => mkF s (mkM t ns)
def zeroF : Frame := ⟨0, 0, 0, 0, 0, 0, 0, 0⟩
def readR (bs : List Int) : Frame × Int :=
  match readV bs with
  | none => (zeroF, 2)
  | some x => (x, 0)
theorem readR_none {bs : List Int} (h : readV bs = none) : readR bs = (zeroF, 2) := by unfold readR; rw [h]
theorem readR_some {bs : List Int} {x : Frame} (h : readV bs = some x) : readR bs = (x, 0) := by unfold readR; rw [h]
theorem readV_0 {bs : List Int} (h : firstV bs = none) : readV bs = none := by unfold readV; rw [h]
theorem readV_1 {bs : List Int} {s : Int} {k : Nat} (h : firstV bs = some (s, k)) (h2 : firstV (bs.drop k) = none) : readV bs = none := by unfold readV; rw [h]; dsimp only; rw [h2]
theorem readV_2 {bs : List Int} {s t : Int} {k k2 : Nat} (h : firstV bs = some (s, k)) (h2 : firstV (bs.drop k) = some (t, k2)) : readV bs = if s < 0 ∨ manyV t < 0 then none else (getV ((bs.drop k).drop k2) (manyV t)).map fun ns => mkF s (mkM t ns) := by
  conv => lhs; unfold readV
  rw [h]; dsimp only; rw [h2]
theorem getV_two {bs : List Int} {s t : Int} {k k2 : Nat} (h : firstV bs = some (s, k)) (h2 : firstV (bs.drop k) = some (t, k2)) {n : Int} (hn : 0 ≤ n) : getV bs (2 + n) = (getV ((bs.drop k).drop k2) n).map fun ns => s :: t :: ns := by
  unfold getV
  rw [if_neg (by omega), if_neg (by omega), show (2 + n).toNat = n.toNat + 1 + 1 by omega, getN_succ_some h, getN_succ_some h2, Option.map_map]
  rfl

theorem copy_ob {b : Nat} {vs : List Value} {e : TypeId} {h g : Hp} {l : List Hp} {s : Sl} {xs : List Int} {len i n : Nat} (o : On h (ob b vs e :: l)) (r : Row (cI .i64) g s xs) (hg : g.sub h) (hn : n = s.len) (hlen : n ≤ len) (hfit : i + xs.length ≤ vs.length)
    {K : Int → Hp → Prop} (hk : ∀ h', On h' (ob b (setL vs i (xs.map fun x => Value.int .i64 x)) e :: l) → K (n : Nat) h') : copyP (cI .i64) (some ⟨b, i, none⟩) len s.a n h K := by
  unfold copyP
  have hl := r.1
  rw [Nat.min_eq_left hlen]
  have e1 : cellsL (cI .i64) xs = xs.map fun x => Value.int .i64 x := by
    clear hk r hfit hl
    induction xs with
    | nil => rfl
    | cons x xs ih => rw [cellsL_cons, ih]; rfl
  have he : elemsP (cI .i64) s.a s.len h fun ys => match some (⟨b, i, none⟩ : Addr) with
    | some ad => h.may ad (n * (cI .i64).n) ∧ K (n : Nat) (h.wrs ad 0 (cellsL (cI .i64) ys))
    | none => K (n : Nat) h := by
    refine elems_row r hg ⟨?_, ?_⟩
    · refine Hp.sub_may (o.2 _ (by simp)) (may_block' (ob_at b vs e) (by simp; omega) (by intro k _ _; omega))
    · have := o.wrs (ob_at b vs e) (i := i) (vs := cellsL (cI .i64) xs) (by rw [e1, List.length_map]; exact hfit)
      rw [e1] at this ⊢
      unfold ob at this hk
      rw [one_upd] at this
      exact hk _ this
  rw [hn] at he ⊢
  exact he
theorem short5_ok {k1 k2 : Nat} {vs : List Value} {v : Value} {h : Hp} {l : List Hp} (o : On h (ob k2 [v] 71 :: ob k1 vs 48 :: l)) (hv : vs.length = 8) {Q : Frame × Int → Hp → Prop} (hq : ∀ h', On h' l → Q (zeroF, 2) h') :
    deferP Try.prog 136 [Value.pointer (some ⟨k1, 0, none⟩), Value.pointer (some ⟨k2, 0, none⟩)] (some (.iface 164 (.agg #[]))) h fun h13 =>
      loadP cFrame ⟨k1, 0, none⟩ h13 fun x3 => loadP (cI .i64) ⟨k2, 0, none⟩ h13 fun n4 => Q (x3, n4) h13 := by
  refine c136_1 ?_
  unfold F136_1
  refine join_i (fun _ h' => h' = h) ?_ fun J hJ => hJ _ _ rfl
  rintro _ h' rfl
  refine store_ob (vs' := (cFrame.enc zeroF).cells.toList) (cd := cFrame) (i := 0) (x := zeroF) o.swap rfl ?_ (by rw [hv]; exact Nat.le_refl 8) fun h1 o1 => ?_
  · match vs, hv with
    | [_, _, _, _, _, _, _, _], _ => rfl
  refine store_ob (vs' := [Value.int .i64 2]) (cd := cI .i64) (i := 0) (x := (2 : Int)) o1.swap rfl rfl (Nat.le_refl 1) fun h2 o2 => ?_
  refine load_ob (x := zeroF) o2 1 rfl rfl ?_
  refine load_ob (cd := cI .i64) (x := (2 : Int)) o2 0 rfl rfl ?_
  exact hq h2 o2.tail.tail
theorem must5_ok {p0 : Sl} {g h : Hp} {bs : List Int} (hg : g.sub h) (r : Row (cI .u8) g p0 bs) (hb : Bytes bs) (hcap : bs.length ≤ p0.cap) (hl : bs.length ≤ 1000000) {Q : Int × Sl → Hp → Prop} {S : Value → Hp → Prop}
    (hq : ∀ v k, firstV bs = some (v, k) → Q (v, ⟨cutA p0.a k p0.cap 1, p0.len - k, p0.cap - k⟩) h) (hs : firstV bs = none → S (.iface 164 (.agg #[])) h) :
    callXP Try.prog 137 [Value.slice p0.a p0.len p0.cap] (tupC [cI .i64, cSl]) h Q S := by
  refine c137 ?_
  unfold F137
  refine first_ok hg r hb hcap hl ?_
  cases hv : firstV bs with
  | none =>
    rw [firstR_none hv]
    refine join_i (fun _ _ => False) (fun _ _ h => h.elim) fun J hJ => ?_
    exact cond_t rfl (hs hv)
  | some x =>
    obtain ⟨v, k⟩ := x
    obtain ⟨_, _, _, hk, _⟩ := firstV_inv hb hv
    rw [firstR_some hv]
    refine join_i (fun _ h' => h' = h) ?_ fun J hJ => cond_f rfl (hJ _ _ rfl)
    rintro _ h' rfl
    refine ⟨Int.natCast_nonneg k, by have := r.1; dsimp only; omega, ?_⟩
    rw [show ((v, (k : Int), true).2.1).toNat = k by simp]
    exact hq v k hv
theorem enc_mk (s t : Int) {ns : List Int} (h : ns.length ≤ 6) : setL (cFrame.enc ⟨s, t, 0, 0, 0, 0, 0, 0⟩).cells.toList 2 (ns.map fun x => Value.int .i64 x) = (cFrame.enc (mkF s (mkM t ns))).cells.toList := by
  match ns, h with
  | [], _ => rfl
  | [_], _ => rfl
  | [_, _], _ => rfl
  | [_, _, _], _ => rfl
  | [_, _, _, _], _ => rfl
  | [_, _, _, _, _], _ => rfl
  | [_, _, _, _, _, _], _ => rfl
theorem read5_ok {p0 : Sl} {g h : Hp} {l : List Hp} {bs : List Int} (o : On h l) (hg : g ∈ l) (r : Row (cI .u8) g p0 bs) (hb : Bytes bs) (hcap : bs.length ≤ p0.cap) (hl : bs.length ≤ 1000000) {Q : Frame × Int → Hp → Prop} (hq : ∀ h', On h' l → Q (readR bs) h') :
    callP Try.prog 94 [Value.slice p0.a p0.len p0.cap] (tupC [cFrame, cI .i64]) h Q := by
  refine c94 ?_
  unfold F94
  refine alloc_ob o fun k1 h1 o1 => ?_
  refine alloc_ob o1 fun k2 h2 o2 => ?_
  refine must5_ok (o2.mem (by simp [hg])) r hb hcap hl (fun s k hs => ?_) fun hs => ?_
  · obtain ⟨_, _, _, hk, _⟩ := firstV_inv hb hs
    refine must5_ok (p0 := ⟨cutA p0.a k p0.cap 1, p0.len - k, p0.cap - k⟩) (o2.mem (by simp [hg])) (row_from r hcap hk) (hb.drop k) (by simp; omega) (by simp; omega) (fun t k2' ht => ?_) fun ht => ?_
    · have hread := readV_2 hs ht
      have hr := manyV_range t
      refine many_ok ?_
      refine join_i (fun _ h' => h' = h2 ∧ 0 ≤ s ∧ 0 ≤ manyV t) ?_ fun J2 hJ2 => ?_
      · rintro _ h5 ⟨rfl, h0, hn0⟩
        rw [if_neg (by omega)] at hread
        dsimp only
        rw [w64 (by omega) (by omega)]
        refine get_ok o2 (g := g) (by simp [hg]) r hb hcap hl (fun hn h6 o6 => ?_) fun ns hns s6 d6 h6 o6 w6 => ?_
        · refine join_i (fun _ _ => False) (fun _ _ h => h.elim) fun J hJ => cond_t rfl ?_
          rw [getV_two hs ht hn0, Option.map_eq_none_iff] at hn
          rw [hn] at hread
          exact short5_ok o6 rfl fun h' o' => by have := hq h' o'; rw [readR_none hread] at this; exact this
        · rw [getV_two hs ht hn0, Option.map_eq_some_iff] at hns
          obtain ⟨ns, hns, rfl⟩ := hns
          rw [hns] at hread
          have hlen : ns.length = (manyV t).toNat := by
            unfold getV at hns
            rw [if_neg (by omega)] at hns
            exact (getN_inv _ _ _ ((hb.drop k).drop k2') hns).1
          have hsl : s6.len = ns.length + 2 := w6.1
          have hcap6 : ns.length + 2 ≤ s6.cap := w6.le_cap (by decide)
          refine join_i (fun _ h' => h' = h6) ?_ fun J hJ => cond_f rfl (hJ _ _ rfl)
          rintro _ h7 rfl
          have o7 : On h7 (ob k1 [Value.int .i64 0, Value.int .i64 0, Value.int .i64 0, Value.int .i64 0, Value.int .i64 0, Value.int .i64 0, Value.int .i64 0, Value.int .i64 0] 48 :: ob k2 [Value.int .i64 0] 71 :: d6 :: l) := o6.pick [2, 1, 0] 3 (by decide) (by decide)
          refine store_ob (vs' := (cFrame.enc ⟨s, t, 0, 0, 0, 0, 0, 0⟩).cells.toList) (cd := cFrame) (i := 0) (x := (⟨s, t, 0, 0, 0, 0, 0, 0⟩ : Frame)) o7 rfl rfl (Nat.le_refl 8) fun h8 o8 => ?_
          refine ⟨by omega, by dsimp only; omega, ?_⟩
          have rc := w6.row.cut (k := 2) (m := ns.length + 2) (cap' := 0) (by omega) (Nat.le_refl (ns.length + 2)) hcap6 rfl (z := 1) rfl
          have rc : Row (cI .i64) d6 ⟨cutA s6.a 2 s6.cap 1, ns.length, 0⟩ ns := by
            have e : ((s :: t :: ns).drop 2).take (ns.length + 2 - 2) = ns := by
              show ns.take (ns.length + 2 - 2) = ns
              exact List.take_of_length_le (by omega)
            rw [e] at rc
            exact rc
          refine copy_ob (s := ⟨cutA s6.a 2 s6.cap 1, ns.length, 0⟩) (n := s6.len - 2) o8 rc (o8.mem (by simp)) (by dsimp only; omega) (by omega) (by show 2 + ns.length ≤ 8; omega) fun h9 o9 => ?_
          rw [enc_mk s t (by omega)] at o9
          refine load_ob (x := mkF s (mkM t ns)) o9 0 rfl rfl ?_
          refine store_ob (vs' := (cFrame.enc (mkF s (mkM t ns))).cells.toList) (cd := cFrame) (i := 0) (x := mkF s (mkM t ns)) o9 rfl rfl (Nat.le_refl 8) fun ha oa => ?_
          refine store_ob (vs' := [Value.int .i64 0]) (cd := cI .i64) (i := 0) (x := (0 : Int)) oa.swap rfl rfl (Nat.le_refl 1) fun hb' ob' => ?_
          refine c136_0 ?_
          unfold F136_0
          refine load_ob (x := mkF s (mkM t ns)) ob' 1 rfl rfl ?_
          refine load_ob (cd := cI .i64) (x := (0 : Int)) ob' 0 rfl rfl ?_
          have := hq hb' ob'.tail.tail.tail
          rw [readR_some hread] at this
          exact this
      · refine join_i (fun b h' => h' = h2 ∧ (b = true → s < 0 ∨ manyV t < 0) ∧ (b = false → 0 ≤ s ∧ 0 ≤ manyV t)) ?_ fun J3 hJ3 => ?_
        · rintro b h' ⟨rfl, hT, hF⟩
          refine cond_i (fun e => ?_) fun e => hJ2 _ _ ⟨rfl, hF e⟩
          rw [if_pos (hT e)] at hread
          exact short5_ok o2 rfl fun h' o' => by have := hq h' o'; rw [readR_none hread] at this; exact this
        · refine cond_d (fun h0 => hJ3 _ _ ⟨rfl, fun _ => .inl h0, fun h => (by cases h)⟩) fun h0 => hJ3 _ _ ⟨rfl, fun h => .inr (of_decide_eq_true h), fun h => ?_⟩
          have := of_decide_eq_false h
          dsimp only at h0 this
          omega
    · have hread := readV_1 hs ht
      exact short5_ok o2 rfl fun h' o' => by have := hq h' o'; rw [readR_none hread] at this; exact this
  · have hread := readV_0 hs
    exact short5_ok o2 rfl fun h' o' => by have := hq h' o'; rw [readR_none hread] at this; exact this
end Go.Proofs.Ytmkgcdgpokidjaa
