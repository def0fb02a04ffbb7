/- Slices: what may be read, what is one's own. -/
import Derived.Test.YtmkgcdgpokidjaaGreatEU
set_option linter.unusedVariables false
namespace Go.Eng

/-- The slice reads as 'xs' in the part 'g'. -/
def Row (cd : Cdc) (g : Hp) (s : Sl) (xs : List cd.T) : Prop :=
  s.len = xs.length ∧ match s.a with
    | none => xs = []
    | some a => g.rds a (cellsL cd xs)
/-- The slice reads as 'xs', and it may be written up to its room. -/
def Own (cd : Cdc) (c : Hp) (s : Sl) (xs : List cd.T) : Prop :=
  s.len = xs.length ∧ match s.a with
    | none => s.cap = 0 ∧ xs = []
    | some a => a.spot = none ∧ ∃ pre rest post e fz, c a.block = some (.cells (pre ++ (cellsL cd xs ++ (rest ++ post))).toArray e fz) ∧ pre.length = a.off ∧
        xs.length * cd.n + rest.length = s.cap * cd.n ∧ ∀ k, a.off ≤ k → k < a.off + s.cap * cd.n → ¬ (fz.1 ≤ k ∧ k < fz.2)

variable {cd : Cdc} {g h c : Hp} {s t : Sl} {xs ys : List cd.T} {l : List Hp}

theorem Row.sub (r : Row cd g s xs) (hs : g.sub h) : Row cd h s xs := by
  refine ⟨r.1, ?_⟩
  have := r.2
  split at this
  · exact this
  · exact Hp.sub_rds hs this
theorem Own.sub (r : Own cd g s xs) (hs : g.sub h) : Own cd h s xs := by
  refine ⟨r.1, ?_⟩
  have := r.2
  split at this
  · exact this
  · obtain ⟨h1, pre, rest, post, e, fz, hb, h2⟩ := this
    exact ⟨h1, pre, rest, post, e, fz, hs _ _ hb, h2⟩
theorem Row.nil (g : Hp) : Row cd g ⟨none, 0, 0⟩ [] := ⟨rfl, rfl⟩
theorem Own.nil (g : Hp) : Own cd g ⟨none, 0, 0⟩ [] := ⟨rfl, rfl, rfl⟩

theorem rds_block {c : Hp} {b i : Nat} {cs : List Value} {e : TypeId} {fz : Nat × Nat} (hb : c b = some (.cells cs.toArray e fz)) {vs : List Value} (hv : (cs.drop i).take vs.length = vs) : c.rds ⟨b, i, none⟩ vs := by
  intro j v hj
  rw [addr_add]
  have hlt : j < vs.length := by
    rcases Nat.lt_or_ge j vs.length with h | h
    · exact h
    · rw [List.getElem?_eq_none h] at hj; cases hj
  rw [← hv, List.getElem?_take_of_lt hlt, List.getElem?_drop] at hj
  simp [Hp.cell?, hb, hj]
theorem addr_eta {a : Addr} (ha : a.spot = none) : a = ⟨a.block, a.off, none⟩ := by obtain ⟨b, i, s⟩ := a; cases ha; rfl

theorem Own.row (r : Own cd g s xs) : Row cd g s xs := by
  refine ⟨r.1, ?_⟩
  have := r.2
  split at this
  · exact this.2
  · obtain ⟨h1, pre, rest, post, e, fz, hb, h2, h3, _⟩ := this
    rename_i a ha
    rw [addr_eta h1]
    refine rds_block hb ?_
    rw [← h2, List.drop_append_of_le_length (Nat.le_refl _), List.drop_length, List.nil_append, List.take_append_of_le_length (Nat.le_refl _), List.take_length]

theorem cellsL_cons (cd : Cdc) (x : cd.T) (xs : List cd.T) : cellsL cd (x :: xs) = (cd.enc x).cells.toList ++ cellsL cd xs := rfl
theorem cellsL_append (cd : Cdc) (xs ys : List cd.T) : cellsL cd (xs ++ ys) = cellsL cd xs ++ cellsL cd ys := by simp [cellsL]

theorem cellsL_part (hm : cd.mem = true) : ∀ (xs : List cd.T) (i : Nat) (x : cd.T), xs[i]? = some x → ((cellsL cd xs).drop (i * cd.n)).take cd.n = (cd.enc x).cells.toList := by
  intro xs
  induction xs with
  | nil => intro i x h; cases h
  | cons y xs ih =>
    intro i x h
    have hy : ((cd.enc y).cells.toList).length = cd.n := by simpa using (enc_cells hm y).1
    cases i with
    | zero =>
      simp only [List.getElem?_cons_zero, Option.some.injEq] at h
      subst h
      rw [Nat.zero_mul, List.drop_zero, cellsL_cons, List.take_append_of_le_length (by omega), ← hy, List.take_length]
    | succ i =>
      simp only [List.getElem?_cons_succ] at h
      rw [cellsL_cons, Nat.add_mul, Nat.one_mul, Nat.add_comm, ← List.drop_drop, ← hy, List.drop_append_of_le_length (Nat.le_refl _), List.drop_length, List.nil_append, hy]
      exact ih i x h

theorem Hp.rds_add {g : Hp} {a : Addr} {cs : List Value} (r : g.rds a cs) (k : Nat) {vs : List Value} (hv : (cs.drop k).take vs.length = vs) : g.rds (a.add k) vs := by
  intro j v hj
  have hlt : j < vs.length := by
    rcases Nat.lt_or_ge j vs.length with h | h
    · exact h
    · rw [List.getElem?_eq_none h] at hj; cases hj
  rw [← hv, List.getElem?_take_of_lt hlt, List.getElem?_drop] at hj
  have := r (k + j) v hj
  rw [show (a.add k).add j = a.add (k + j) by
    obtain ⟨b, i, sp⟩ := a
    unfold Addr.add
    by_cases h1 : k = 0 <;> by_cases h2 : j = 0 <;> simp [h1, h2, Nat.add_assoc]]
  exact this

/-- An index is in range. -/
theorem idx_row (r : Row cd g s xs) {i : Int} (h0 : 0 ≤ i) (h1 : i < xs.length) {K : Addr → Prop} (h2 : ∀ a, s.a = some a → K a) : idxP s.a s.len i K := by
  refine ⟨h0, by rw [r.1]; exact h1, ?_⟩
  cases ha : s.a with
  | none => have := r.2; rw [ha] at this; subst this; simp at h1; omega
  | some a => exact h2 a ha
/-- An element is loaded. -/
theorem load_row (r : Row cd g s xs) (hs : g.sub h) (hm : cd.mem = true) {a : Addr} (ha : s.a = some a) {i : Nat} {x : cd.T} (hx : xs[i]? = some x) {m : Nat} (hn : i * cd.n = m) {K : cd.T → Prop} (h2 : K x) : loadP cd (a.add m) h K := by
  refine ⟨x, ?_, h2⟩
  have hr := r.2
  rw [ha] at hr
  subst hn
  have hl : ((cd.enc x).cells.toList).length = cd.n := by simpa using (enc_cells hm x).1
  exact Hp.sub_rds hs (Hp.rds_add hr _ (by rw [hl]; exact cellsL_part hm xs i x hx))

theorem elems_row (r : Row cd g s xs) (hs : g.sub h) {K : List cd.T → Prop} (h2 : K xs) : elemsP cd s.a s.len h K := by
  have hr := r.2
  unfold elemsP
  split at hr
  · rename_i ha; rw [ha]; subst hr; exact ⟨r.1, h2⟩
  · rename_i a ha; rw [ha]; exact ⟨xs, r.1.symm, Hp.sub_rds hs hr, h2⟩

theorem bytesV_cells (xs : List Int) : bytesV xs = cellsL (cI .u8) xs := by
  induction xs with
  | nil => rfl
  | cons x xs ih =>
    show Value.int .u8 x :: bytesV xs = Value.int .u8 x :: cellsL (cI .u8) xs
    rw [ih]
/-- Bytes as a text. -/
theorem str_row {xs : List Int} (r : Row (cI .u8) g s xs) (hs : g.sub h) {K : ByteArray → Prop} (h2 : K (mkStr xs)) : strP s.a s.len h K := by
  have hr := r.2
  unfold strP
  split at hr
  · rename_i ha; rw [ha]
    have : xs = [] := hr
    subst this; exact h2
  · rename_i a ha; rw [ha]; exact ⟨xs, r.1.symm, by rw [bytesV_cells]; exact Hp.sub_rds hs hr, h2⟩

/-- A part of a slice. -/
theorem Row.cut (r : Row cd g s xs) {k m : Nat} (hkm : k ≤ m) (hml : m ≤ xs.length) {cap' : Nat} (hc : xs.length ≤ s.cap) (hm : cd.mem = true) {z : Nat} (hz : z = cd.n) :
    Row cd g ⟨cutA s.a k s.cap z, m - k, cap'⟩ ((xs.drop k).take (m - k)) := by
  subst hz
  refine ⟨by simp; omega, ?_⟩
  have hr := r.2
  show match cutA s.a k s.cap cd.n with
    | none => _
    | some a => _
  cases ha : s.a with
  | none =>
    rw [ha] at hr
    have : xs = [] := hr
    subst this
    have : cutA none k s.cap cd.n = none := by unfold cutA; split <;> rfl
    rw [this]
    simp
  | some a =>
    rw [ha] at hr
    have key : g.rds (a.add (k * cd.n)) (cellsL cd ((xs.drop k).take (m - k))) := by
      refine Hp.rds_add hr _ ?_
      have e : cellsL cd xs = cellsL cd (xs.take k) ++ (cellsL cd ((xs.drop k).take (m - k)) ++ cellsL cd ((xs.drop k).drop (m - k))) := by
        rw [← cellsL_append, ← cellsL_append, List.take_append_drop, List.take_append_drop]
      have hlen : (cellsL cd (xs.take k)).length = k * cd.n := by
        rw [cellsL_len hm, List.length_take, Nat.min_eq_left (by omega)]
      rw [e, ← hlen, List.drop_append_of_le_length (Nat.le_refl _), List.drop_length, List.nil_append, List.take_append_of_le_length (Nat.le_refl _), List.take_length]
    unfold cutA
    by_cases hk : s.cap = k
    · rw [if_pos hk]
      have : m - k = 0 := by omega
      rw [this]
      intro i v hv
      simp [cellsL] at hv
    · rw [if_neg hk]
      exact key

/-- Blocks of one's own: new ones. -/
theorem own_ob {b : Nat} {e : TypeId} {n cap : Nat} {vs rest : List Value} (hv : vs = cellsL cd xs ++ rest) (hn : n = xs.length) (hc : xs.length * cd.n + rest.length = cap * cd.n) : Own cd (ob b vs e) ⟨some ⟨b, 0, none⟩, n, cap⟩ xs := by
  refine ⟨hn, rfl, [], rest, [], e, (0, 0), ?_, rfl, hc, ?_⟩
  · simp [ob_at, hv]
  · intro k h1 h2; simp
theorem row_ob {b : Nat} {e : TypeId} {n cap : Nat} {vs : List Value} (hv : vs = cellsL cd xs) (hn : n = xs.length) : Row cd (ob b vs e) ⟨some ⟨b, 0, none⟩, n, cap⟩ xs := by
  refine ⟨hn, ?_⟩
  subst hv
  exact rds_block (ob_at b _ e) (by simp)

/-- 'append' to what is one's own. -/
theorem append_own {e : TypeId} {bytes : Nat} (o : On h (c :: l)) (hm : cd.mem = true) (w : Own cd c s xs) (hn : 0 < cd.n) (hy : Row cd g t ys) (hg : g.sub h) (room : (xs.length + ys.length) * bytes ≤ roomP)
    {K : Option Addr → Nat → Nat → Hp → Prop} (hK : ∀ (c' : Hp) (p : Option Addr) (n m : Nat) (h' : Hp), On h' (c' :: l) → Own cd c' ⟨p, n, m⟩ (xs ++ ys) → K p n m h') :
    appendP cd e bytes s.a s.len s.cap t.a t.len h K := by
  unfold appendP
  refine elems_row hy hg ?_
  have hx1 := w.1
  have hy1 := hy.1
  refine ⟨fun hle => ?_, fun hlt => ?_⟩
  · have hr := w.2
    cases ha : s.a with
    | none =>
      rw [ha] at hr
      obtain ⟨h1, h2⟩ := hr
      dsimp only
      have : ys = [] := by
        cases ys with
        | nil => rfl
        | cons y ys => rw [h2] at hx1; simp at hx1 hy1; omega
      subst this
      refine hK c none _ _ h o ?_
      rw [List.append_nil]
      exact ⟨by rw [hx1, hy1]; simp, h1, h2⟩
    | some a =>
      rw [ha] at hr
      obtain ⟨hsp, pre, rest, post, e', fz, hb, hpre, hroom, hfz⟩ := hr
      dsimp only
      have hyl : (cellsL cd ys).length = ys.length * cd.n := cellsL_len hm ys
      have hxl : (cellsL cd xs).length = xs.length * cd.n := cellsL_len hm xs
      have hfit : ys.length * cd.n ≤ rest.length := by
        have : (xs.length + ys.length) * cd.n ≤ s.cap * cd.n := Nat.mul_le_mul_right _ (by omega)
        rw [Nat.add_mul] at this
        omega
      have hmul : (s.len + t.len) * cd.n ≤ s.cap * cd.n := Nat.mul_le_mul_right _ hle
      have hadd : a.add (s.len * cd.n) = ⟨a.block, a.off + s.len * cd.n, none⟩ := addr_add' hsp _
      have hlen : a.off + s.len * cd.n + t.len * cd.n ≤ (pre ++ (cellsL cd xs ++ (rest ++ post))).length := by
        simp only [List.length_append, hpre, hxl, hx1, hy1]; omega
      rw [hadd]
      refine ⟨Hp.sub_may (o.2 c (by simp)) (may_block' hb hlen fun k h1 h2 => hfz k (by omega) ?_), ?_⟩
      · rw [Nat.add_mul] at hmul; omega
      · have o' := o.wrs hb (i := a.off + s.len * cd.n) (vs := cellsL cd ys) (by rw [hyl, ← hy1]; exact hlen)
        refine hK _ (some a) _ _ _ o' ?_
        have hset : setL (pre ++ (cellsL cd xs ++ (rest ++ post))) (a.off + s.len * cd.n) (cellsL cd ys) = pre ++ (cellsL cd (xs ++ ys) ++ (rest.drop (ys.length * cd.n) ++ post)) := by
          have hp : (pre ++ cellsL cd xs).length = a.off + s.len * cd.n := by simp [hpre, hxl, hx1]
          unfold setL
          rw [← List.append_assoc pre, ← hp, List.take_append_of_le_length (Nat.le_refl _), List.take_length, ← List.drop_drop, List.drop_append_of_le_length (Nat.le_refl _), List.drop_length, List.nil_append, hyl,
            List.drop_append_of_le_length hfit, cellsL_append]
          simp [List.append_assoc]
        rw [hset]
        refine ⟨by rw [hx1, hy1]; simp, hsp, pre, rest.drop (ys.length * cd.n), post, e', fz, by simp [Hp.upd], hpre, ?_, hfz⟩
        simp only [List.length_append, List.length_drop, Nat.add_mul]
        omega
  · refine ⟨by rw [hx1, hy1]; exact room, elems_row w.row (o.2 c (by simp)) ?_⟩
    intro nc pad hnc hpad b hbn
    have o' := o.tail.new hbn (.cells (cellsL cd xs ++ (cellsL cd ys ++ pad)).toArray e (0, 0))
    refine hK _ (some ⟨b, 0, none⟩) _ _ _ o' ?_
    refine own_ob (rest := pad) (by rw [cellsL_append, List.append_assoc]) (by rw [hx1, hy1]; simp) ?_
    rw [hpad, ← Nat.add_mul]
    congr 1
    rw [hx1, hy1] at hnc ⊢
    simp; omega
end Go.Eng
