/- The heap in parts: a row of disjoint parts, each of them below the heap; what loads, stores, new blocks do to them. -/
import Derived.Test.YtmkgcdgpokidjaaGreatES
set_option linter.unusedVariables false
namespace Go.Eng

/-- 'h' holds the parts of 'l', one apart from the other. -/
def On (h : Hp) (l : List Hp) : Prop := l.Pairwise Hp.dj ∧ ∀ c ∈ l, c.sub h

theorem On.mem {h : Hp} {l : List Hp} (o : On h l) {c : Hp} (hc : c ∈ l) : c.sub h := o.2 c hc
theorem On.get {h : Hp} {l : List Hp} (o : On h l) {i : Nat} {c : Hp} (hc : l[i]? = some c) : c.sub h := o.2 c (List.mem_of_getElem? hc)
theorem On.nil (h : Hp) : On h [] := ⟨List.Pairwise.nil, fun _ h => by cases h⟩
theorem On.self (h : Hp) : On h [h] := ⟨List.pairwise_singleton _ _, fun c hc => by rw [List.mem_singleton] at hc; subst hc; exact Hp.sub_refl _⟩
theorem On.perm {h : Hp} {l l' : List Hp} (o : On h l) (p : l.Perm l') : On h l' :=
  ⟨(p.pairwise_iff fun hd => Hp.dj_symm hd).1 o.1, fun c hc => o.2 c (p.mem_iff.2 hc)⟩
theorem On.sublist {h : Hp} {l l' : List Hp} (o : On h l) (s : l'.Sublist l) : On h l' := ⟨o.1.sublist s, fun c hc => o.2 c (s.subset hc)⟩
theorem On.tail {h : Hp} {c : Hp} {l : List Hp} (o : On h (c :: l)) : On h l := o.sublist (List.sublist_cons_self c l)
theorem On.swap {h : Hp} {c d : Hp} {l : List Hp} (o : On h (c :: d :: l)) : On h (d :: c :: l) := o.perm (List.Perm.swap d c l)
theorem On.rot3 {h : Hp} {a b c : Hp} {l : List Hp} (o : On h (a :: b :: c :: l)) : On h (c :: a :: b :: l) :=
  o.perm ((List.Perm.cons a (List.Perm.swap c b l)).trans (List.Perm.swap c a _))
/-- The part of that place comes first. -/
theorem On.pull {h : Hp} {l : List Hp} (o : On h l) (i : Nat) {c : Hp} (hc : l[i]? = some c) : On h (c :: l.eraseIdx i) := by
  have : l.Perm (c :: l.eraseIdx i) := by
    induction l generalizing i with
    | nil => cases hc
    | cons x l ih =>
      cases i with
      | zero => simp at hc; subst hc; exact List.Perm.refl _
      | succ i =>
        simp only [List.getElem?_cons_succ] at hc
        exact (List.Perm.cons x (ih (o.tail) i hc)).trans (List.Perm.swap c x _)
  exact o.perm this
theorem On.apart {h : Hp} {c d : Hp} {l : List Hp} (o : On h (c :: l)) (hd : d ∈ l) : c.dj d := (List.pairwise_cons.1 o.1).1 d hd

theorem Hp.sub_dj {c c' d : Hp} (s : c'.sub c) (hd : c.dj d) : c'.dj d := by
  intro b
  rcases hd b with e | e
  · left
    cases hc : c' b with
    | none => rfl
    | some o => rw [s _ _ hc] at e; cases e
  · exact .inr e
theorem Hp.sub_trans {a b c : Hp} (h1 : a.sub b) (h2 : b.sub c) : a.sub c := fun _ _ h => h2 _ _ (h1 _ _ h)
/-- A part in parts. -/
theorem On.split {h : Hp} {c : Hp} {l cs : List Hp} (o : On h (c :: l)) (oc : On c cs) : On h (cs ++ l) := by
  refine ⟨List.pairwise_append.2 ⟨oc.1, o.tail.1, fun x hx y hy => Hp.sub_dj (oc.2 x hx) (o.apart hy)⟩, fun x hx => ?_⟩
  rcases List.mem_append.1 hx with hx | hx
  · exact Hp.sub_trans (oc.2 x hx) (o.2 c (by simp))
  · exact o.2 x (by simp [hx])
theorem Hp.sub_un_l (a b : Hp) : a.sub (a.un b) := fun k o h => by simp [Hp.un, h]
theorem Hp.sub_un_r {a b : Hp} (d : a.dj b) : b.sub (a.un b) := fun k o h => by
  rcases d k with e | e
  · simp [Hp.un, e, h]
  · rw [h] at e; cases e
/-- Parts as one. -/
def allOf : List Hp → Hp
  | [] => Hp.emp
  | c :: l => c.un (allOf l)
theorem On.joined {h : Hp} : ∀ {cs l : List Hp}, On h (cs ++ l) → On h (allOf cs :: l) ∧ On (allOf cs) cs := by
  intro cs
  induction cs with
  | nil =>
    intro l o
    refine ⟨⟨List.pairwise_cons.2 ⟨fun d _ b => .inl rfl, o.1⟩, fun c hc => ?_⟩, On.nil _⟩
    rcases List.mem_cons.1 hc with rfl | hc
    · intro b o h; cases h
    · exact o.2 c hc
  | cons c cs ih =>
    intro l o
    obtain ⟨h1, h2⟩ := ih o.tail
    have hcd : c.dj (allOf cs) := by
      have : ∀ {cs' : List Hp}, (∀ d ∈ cs', c.dj d) → c.dj (allOf cs') := by
        intro cs'
        induction cs' with
        | nil => intro _ b; exact .inr rfl
        | cons x cs' ih => intro hx; exact Hp.dj_un (hx x (by simp)) (ih fun d hd => hx d (by simp [hd]))
      exact this fun d hd => o.apart (by simp [hd])
    refine ⟨⟨List.pairwise_cons.2 ⟨fun d hd => Hp.un_dj (o.apart (by simp [hd])) (h1.apart hd), h1.tail.1⟩, fun d hd => ?_⟩, ⟨List.pairwise_cons.2 ⟨fun d hd => o.apart (by simp [hd]), h2.1⟩, fun d hd => ?_⟩⟩
    · rcases List.mem_cons.1 hd with rfl | hd
      · intro k ob hk
        unfold allOf Hp.un at hk
        split at hk
        · rename_i o' e; cases hk; exact o.2 c (by simp) _ _ e
        · exact h1.2 (allOf cs) (by simp) _ _ hk
      · exact h1.2 d (by simp [hd])
    · rcases List.mem_cons.1 hd with rfl | hd
      · exact Hp.sub_un_l _ _
      · exact Hp.sub_trans (h2.2 d hd) (Hp.sub_un_r hcd)

/-- A block is turned in the first part. -/
theorem On.upd {h : Hp} {c : Hp} {l : List Hp} (o : On h (c :: l)) {b : Nat} {ob : Obj} (hb : c b = some ob) (o' : Obj) : On (h.upd b o') (c.upd b o' :: l) := by
  have hd : ∀ d ∈ l, d b = none := fun d hd => by
    rcases o.apart hd b with e | e
    · rw [hb] at e; cases e
    · exact e
  refine ⟨List.pairwise_cons.2 ⟨fun d hd' => Hp.upd_dj (o.apart hd') (hd d hd') o', o.tail.1⟩, fun d hm => ?_⟩
  rcases List.mem_cons.1 hm with rfl | hl
  · intro k ob hk
    unfold Hp.upd at hk ⊢
    split at hk
    · rename_i e; rw [if_pos e]; exact hk
    · rename_i e; rw [if_neg e]; exact o.2 c (by simp) _ _ hk
  · intro k ob hk
    unfold Hp.upd
    by_cases e : k = b
    · subst e; rw [hd d hl] at hk; cases hk
    · rw [if_neg e]; exact o.2 d (by simp [hl]) _ _ hk
/-- A new block is a new part. -/
theorem On.new {h : Hp} {l : List Hp} (o : On h l) {b : Nat} (hb : h b = none) (ob : Obj) : On (h.upd b ob) (Hp.one b ob :: l) := by
  have hd : ∀ d ∈ l, d b = none := fun d hd => by
    cases e : d b with
    | none => rfl
    | some x => rw [o.2 d hd _ _ e] at hb; cases hb
  refine ⟨List.pairwise_cons.2 ⟨fun d hd' k => ?_, o.1⟩, fun d hd' => ?_⟩
  · by_cases e : k = b
    · subst e; exact .inr (hd d hd')
    · left; simp [Hp.one, e]
  · rcases List.mem_cons.1 hd' with rfl | hd'
    · intro k ob' hk
      unfold Hp.one at hk
      split at hk
      · rename_i e; subst e; simpa [Hp.upd] using hk
      · cases hk
    · exact Hp.sub_trans (o.2 d hd') (Hp.sub_upd hb ob)

/-! ### blocks -/
/-- A block of cells, by itself. -/
def ob (b : Nat) (vs : List Value) (e : TypeId) : Hp := Hp.one b (.cells vs.toArray e (0, 0))
theorem ob_at (b : Nat) (vs : List Value) (e : TypeId) : ob b vs e b = some (.cells vs.toArray e (0, 0)) := by simp [ob, Hp.one]
theorem ob_cell (b : Nat) (vs : List Value) (e : TypeId) (i : Nat) : (ob b vs e).cell? ⟨b, i, none⟩ = vs[i]? := by simp [Hp.cell?, ob_at]
theorem one_upd (b : Nat) (o o' : Obj) : (Hp.one b o).upd b o' = Hp.one b o' := by
  funext k; unfold Hp.one Hp.upd; by_cases e : k = b <;> simp [e]
theorem addr_add (b i n : Nat) : (⟨b, i, none⟩ : Addr).add n = ⟨b, i + n, none⟩ := by
  unfold Addr.add; by_cases h : n = 0 <;> simp [h]
theorem addr_add' {a : Addr} (ha : a.spot = none) (n : Nat) : a.add n = ⟨a.block, a.off + n, none⟩ := by
  obtain ⟨b, i, s⟩ := a; cases ha; exact addr_add b i n
@[simp] theorem addr_add0 (a : Addr) : a.add 0 = a := rfl

theorem ob_rds {b : Nat} {vs : List Value} {e : TypeId} {i : Nat} {cs : List Value} (hc : (vs.drop i).take cs.length = cs) : (ob b vs e).rds ⟨b, i, none⟩ cs := by
  intro j v hj
  rw [addr_add, ob_cell]
  have hlt : j < cs.length := by
    rcases Nat.lt_or_ge j cs.length with h | h
    · exact h
    · rw [List.getElem?_eq_none h] at hj; cases hj
  rw [← hc, List.getElem?_take_of_lt hlt, List.getElem?_drop] at hj
  exact hj

/-- A load from a block. -/
theorem load_ob {h : Hp} {l : List Hp} (o : On h l) (k : Nat) {b : Nat} {vs : List Value} {e : TypeId} (hk : l[k]? = some (ob b vs e)) {cd : Cdc} {i : Nat} {x : cd.T} {K : cd.T → Prop}
    (hx : (vs.drop i).take (cd.enc x).cells.toList.length = (cd.enc x).cells.toList) (h2 : K x) : loadP cd ⟨b, i, none⟩ h K :=
  ⟨x, Hp.sub_rds (o.get hk) (ob_rds hx), h2⟩

theorem setCell_block {c : Hp} {b i : Nat} {cs : List Value} {e : TypeId} {fz : Nat × Nat} (hb : c b = some (.cells cs.toArray e fz)) (v : Value) :
    c.setCell ⟨b, i, none⟩ v = c.upd b (.cells (cs.set i v).toArray e fz) := by
  funext k
  unfold Hp.setCell Hp.upd
  by_cases hk : k = b
  · subst hk; simp [hb, objSet]
  · simp [hk]
theorem upd_upd (c : Hp) (b : Nat) (o o' : Obj) : (c.upd b o).upd b o' = c.upd b o' := by
  funext k; unfold Hp.upd; by_cases e : k = b <;> simp [e]
theorem setL_nil (cs : List Value) (i : Nat) : setL cs i [] = cs := by simp [setL]
theorem set_setL (cs : List Value) (i : Nat) (v : Value) (l : List Value) (hi : i + (l.length + 1) ≤ cs.length) : setL (cs.set i v) (i + 1) l = setL cs i (v :: l) := by
  unfold setL
  rw [List.take_set, List.drop_set_of_lt (by omega)]
  rw [List.take_succ_eq_append_getElem (by omega), List.set_append_right _ _ (by simp; omega)]
  simp only [List.length_take, Nat.min_eq_left (show i ≤ cs.length by omega), Nat.sub_self, List.set_cons_zero, List.append_assoc, List.cons_append, List.nil_append, List.length_cons]
  rw [show i + 1 + l.length = i + (l.length + 1) by omega]
/-- Cells written into a block. -/
theorem wrs_block {b : Nat} {e : TypeId} {fz : Nat × Nat} : ∀ (vs : List Value) (c : Hp) (i j : Nat) (cs : List Value), c b = some (.cells cs.toArray e fz) → i + j + vs.length ≤ cs.length →
    c.wrs ⟨b, i, none⟩ j vs = c.upd b (.cells (setL cs (i + j) vs).toArray e fz) := by
  intro vs
  induction vs with
  | nil =>
    intro c i j cs hb _
    rw [setL_nil]
    funext k
    unfold Hp.wrs Hp.upd
    by_cases hk : k = b
    · subst hk; rw [if_pos rfl, hb]
    · rw [if_neg hk]
  | cons v l ih =>
    intro c i j cs hb hl
    simp only [List.length_cons] at hl
    show (c.setCell ((⟨b, i, none⟩ : Addr).add j) v).wrs ⟨b, i, none⟩ (j + 1) l = _
    rw [addr_add, setCell_block hb]
    rw [ih _ i (j + 1) (cs.set (i + j) v) (by simp [Hp.upd]) (by simp; omega), upd_upd, show i + (j + 1) = i + j + 1 by omega, set_setL cs (i + j) v l (by omega)]

theorem may_block' {c : Hp} {b i n : Nat} {cs : List Value} {e : TypeId} {fz : Nat × Nat} (hb : c b = some (.cells cs.toArray e fz)) (hl : i + n ≤ cs.length) (hf : ∀ k, i ≤ k → k < i + n → ¬ (fz.1 ≤ k ∧ k < fz.2)) :
    c.may ⟨b, i, none⟩ n := by
  intro k hk
  rw [addr_add]
  obtain ⟨lo, hi⟩ := fz
  have hlt : i + k < cs.length := by omega
  have hf := hf (i + k) (by omega) (by omega)
  refine ⟨⟨cs[i + k], by simp [Hp.cell?, hb, hlt]⟩, ?_⟩
  simp only [Hp.frozen?, hb]
  simpa using hf
theorem Hp.sub_may {c h : Hp} (s : c.sub h) {a : Addr} {n : Nat} (m : c.may a n) : h.may a n := by
  intro i hi
  obtain ⟨⟨v, hv⟩, hf⟩ := m i hi
  refine ⟨⟨v, Hp.sub_cell s hv⟩, ?_⟩
  unfold Hp.cell? at hv
  unfold Hp.frozen? at hf ⊢
  cases hb : c (a.add i).block with
  | none => rw [hb] at hv; cases hv
  | some o => rw [hb] at hf; rw [s _ _ hb]; exact hf
/-- Cells written into the heap are written into the part. -/
theorem On.wrs {h : Hp} {c : Hp} {l : List Hp} (o : On h (c :: l)) {b i : Nat} {cs : List Value} {e : TypeId} {fz : Nat × Nat} (hb : c b = some (.cells cs.toArray e fz)) {vs : List Value} (hl : i + vs.length ≤ cs.length) :
    On (h.wrs ⟨b, i, none⟩ 0 vs) (c.upd b (.cells (setL cs i vs).toArray e fz) :: l) := by
  rw [wrs_block vs h i 0 cs (o.2 c (by simp) _ _ hb) (by omega), Nat.add_zero]
  exact o.upd hb _
/-- A store into a block. -/
theorem store_ob {h : Hp} {l : List Hp} {b : Nat} {vs : List Value} {e : TypeId} (o : On h (ob b vs e :: l)) {cd : Cdc} {i : Nat} {x : cd.T} {K : Hp → Prop} {vs' : List Value} (hm : cd.mem = true)
    (hv : setL vs i (cd.enc x).cells.toList = vs') (hl : i + cd.n ≤ vs.length) (h2 : ∀ h', On h' (ob b vs' e :: l) → K h') : storeP cd ⟨b, i, none⟩ x h K := by
  have hn := (enc_cells hm x).1
  refine ⟨Hp.sub_may (o.2 _ (by simp)) (may_block' (ob_at b vs e) hl (by omega)), h2 _ ?_⟩
  have := o.wrs (ob_at b vs e) (i := i) (vs := (cd.enc x).cells.toList) (by simpa [hn] using hl)
  rw [hv] at this
  unfold ob at this ⊢
  rw [one_upd] at this
  exact this
theorem alloc_ob {h : Hp} {l : List Hp} (o : On h l) {vs : List Value} {e : TypeId} {K : Nat → Hp → Prop} (h2 : ∀ b h', On h' (ob b vs e :: l) → K b h') : allocP (.cells vs.toArray e (0, 0)) h K :=
  fun b hb => h2 b _ (o.new hb _)
end Go.Eng
