/- A region that draws its order: one order stands for all. -/
import Derived.Test.YtmkgcdgpokidjaaGreatEN
import Derived.Orders
set_option linter.unusedVariables false
namespace Go.Eng

/-- 'i' must come up before 'j'. -/
inductive Dep (ops : Array Oper) : Nat → Nat → Prop
  | edge {j : Nat} {o : Oper} {e : Edge} (ho : ops[j]? = some o) (he : e ∈ o.after) (hb : Region.binds .any e = true) : Dep ops e.on j
  | trans {i k j : Nat} (h1 : Dep ops i k) (h2 : Dep ops k j) : Dep ops i j

def maskO (acc : List Nat) : List Edge → Nat
  | [] => 0
  | e :: l => bif Region.binds .any e then (2 ^ e.on ||| (acc.getD e.on 0 ||| maskO acc l)) else maskO acc l
/-- For each operation, as a row of digits, those that must come up before it. -/
def befs : List Oper → List Nat → List Nat
  | [], acc => acc
  | o :: l, acc => befs l (acc ++ [maskO acc o.after.toList])

theorem testBit_pow {i j : Nat} (h : (2 ^ i).testBit j = true) : i = j := by
  rw [Nat.testBit_two_pow] at h
  simpa using h

theorem maskO_dep {ops : Array Oper} {acc : List Nat} (hacc : ∀ j i, (acc.getD j 0).testBit i = true → Dep ops i j) {n : Nat} {o : Oper} (hn : ops[n]? = some o) :
    ∀ l : List Edge, (∀ e ∈ l, e ∈ o.after) → ∀ i, (maskO acc l).testBit i = true → Dep ops i n := by
  intro l
  induction l with
  | nil => intro _ i hi; simp [maskO] at hi
  | cons e l ih =>
    intro hl i hi
    unfold maskO at hi
    cases hb : Region.binds .any e with
    | false => rw [hb] at hi; exact ih (fun x hx => hl x (List.mem_cons_of_mem _ hx)) i hi
    | true =>
      rw [hb] at hi
      simp only [cond_true, Nat.testBit_or, Bool.or_eq_true] at hi
      rcases hi with h | h | h
      · rw [← testBit_pow h]; exact .edge hn (hl e (by simp)) hb
      · exact .trans (hacc _ _ h) (.edge hn (hl e (by simp)) hb)
      · exact ih (fun x hx => hl x (List.mem_cons_of_mem _ hx)) i h

theorem befs_dep {ops : Array Oper} : ∀ (l : List Oper) (acc : List Nat), (∀ k o, l[k]? = some o → ops[acc.length + k]? = some o) → (∀ j i, (acc.getD j 0).testBit i = true → Dep ops i j) →
    ∀ j i, ((befs l acc).getD j 0).testBit i = true → Dep ops i j := by
  intro l
  induction l with
  | nil => intro acc _ h; exact h
  | cons o l ih =>
    intro acc hl h
    refine ih (acc ++ [maskO acc o.after.toList]) ?_ ?_
    · intro k o' hk
      have := hl (k + 1) o' (by simpa using hk)
      simp only [List.length_append, List.length_cons, List.length_nil, Nat.zero_add]
      rw [show acc.length + 1 + k = acc.length + (k + 1) by omega]; exact this
    · intro j i hi
      by_cases h1 : j < acc.length
      · rw [List.getD_eq_getElem?_getD, List.getElem?_append_left h1, ← List.getD_eq_getElem?_getD] at hi
        exact h j i hi
      · by_cases h2 : j = acc.length
        · subst h2
          simp [List.getD_eq_getElem?_getD] at hi
          exact maskO_dep (n := acc.length) (o := o) h (by simpa using hl 0 o rfl) o.after.toList (fun e he => by simpa using he) i (by simpa using hi)
        · rw [List.getD_eq_getElem?_getD, List.getElem?_eq_none (by simp; omega)] at hi
          simp at hi

abbrev Seq := List (Nat × List Nat)

section
variable {A : Ann} {P : Program} {N : Nat} {ops : Array Oper}

def selfB (A : Ann) (ops : Array Oper) (x : Oper) : Bool := (writesO A x).all fun d => !(readsO A ops x).contains d
def isR (cl : Cls) : Bool := match cl with | .r => true | _ => false
def pairB (A : Ann) (P : Program) (ops : Array Oper) (i : Nat) (ki : List Nat) (j : Nat) (ks : List Nat) : Bool :=
  match ops[i]?, ops[j]? with
  | some x, some y => ki.isEmpty && (apartB A ops x y && (swapCls (cls A P x) (cls A P y) || (isR (cls A P x) && (ks.contains i && selfB A ops x))))
  | _, _ => false
/-- The turns of 'i' leave alone what says that 'k' reads as it did. -/
def keepB (A : Ann) (ops : Array Oper) (i k : Nat) : Bool :=
  match ops[i]?, ops[k]? with
  | some x, some z => (writesO A x).all fun d => !(readsO A ops z).contains d && (writesO A z).all fun e => slotsApart A d e
  | _, _ => false
def depB (bef : List Nat) (i j : Nat) : Bool := (bef.getD j 0).testBit i

def chkPre (A : Ann) (P : Program) (ops : Array Oper) (bef : List Nat) (j : Nat) (ks : List Nat) : Seq → Bool
  | [] => true
  | (i, ki) :: m => (depB bef i j || pairB A P ops i ki j ks) && ((!ks.contains i || m.all fun q => keepB A ops q.1 i || depB bef q.1 j) && chkPre A P ops bef j ks m)
def chkAll (A : Ann) (P : Program) (ops : Array Oper) (bef : List Nat) : Seq → Seq → Bool
  | _, [] => true
  | pre, (j, ks) :: l => (match ops[j]? with
      | some o => o.after.toList.all fun e => !Region.binds .any e || pre.any fun q => Nat.beq q.1 e.on
      | none => false) && (!(pre.any fun q => Nat.beq q.1 j) && (chkPre A P ops bef j ks pre && chkAll A P ops bef (pre ++ [(j, ks)]) l))
def canonOk (A : Ann) (P : Program) (ops : Array Oper) (seq : Seq) : Bool :=
  Nat.beq seq.length ops.size && chkAll A P ops (befs ops.toList []) [] seq

structure SeqOk (A : Ann) (P : Program) (ops : Array Oper) (L : Seq) : Prop where
  nd : (L.map Prod.fst).Nodup
  pair2 : ∀ p q, List.Sublist [p, q] L → Dep ops p.1 q.1 ∨ pairB A P ops p.1 p.2 q.1 q.2 = true
  pair3 : ∀ p q r, List.Sublist [p, q, r] L → p.1 ∈ r.2 → keepB A ops q.1 p.1 = true ∨ Dep ops q.1 r.1

theorem chkPre_spec {bef : List Nat} (hb : ∀ j i, (bef.getD j 0).testBit i = true → Dep ops i j) {j : Nat} {ks : List Nat} : ∀ {m : Seq}, chkPre A P ops bef j ks m = true →
    (∀ p ∈ m, Dep ops p.1 j ∨ pairB A P ops p.1 p.2 j ks = true) ∧ (∀ p q, List.Sublist [p, q] m → p.1 ∈ ks → keepB A ops q.1 p.1 = true ∨ Dep ops q.1 j) := by
  intro m
  induction m with
  | nil => intro _; exact ⟨fun p hp => (by cases hp), fun p q h => (by cases h)⟩
  | cons x m ih =>
    intro h
    obtain ⟨i, ki⟩ := x
    simp only [chkPre, Bool.and_eq_true] at h
    obtain ⟨h1, h2, h3⟩ := h
    obtain ⟨g1, g2⟩ := ih h3
    constructor
    · intro p hp
      rcases List.mem_cons.1 hp with rfl | hp
      · rw [Bool.or_eq_true] at h1
        exact h1.imp (hb _ _) id
      · exact g1 p hp
    · intro p q hs hk
      cases hs with
      | cons _ hs => exact g2 p q hs hk
      | cons_cons _ hs =>
        have hq : q ∈ m := List.singleton_sublist.1 hs
        simp only [Bool.or_eq_true, Bool.not_eq_true', List.contains_eq_mem, decide_eq_false_iff_not, List.all_eq_true] at h2
        rcases h2 with h2 | h2
        · exact absurd hk h2
        · exact (h2 q hq).imp id (hb _ _)

theorem chkAll_spec {bef : List Nat} (hb : ∀ j i, (bef.getD j 0).testBit i = true → Dep ops i j) : ∀ (l pre : Seq), chkAll A P ops bef pre l = true → SeqOk A P ops pre →
    (∀ q ∈ pre, q.1 < ops.size) → (∀ q ∈ pre, ∀ o, ops[q.1]? = some o → ∀ e ∈ o.after, Region.binds .any e = true → ∃ p, p.1 = e.on ∧ List.Sublist [p, q] pre) →
    SeqOk A P ops (pre ++ l) ∧ (∀ q ∈ pre ++ l, q.1 < ops.size) ∧ (∀ q ∈ pre ++ l, ∀ o, ops[q.1]? = some o → ∀ e ∈ o.after, Region.binds .any e = true → ∃ p, p.1 = e.on ∧ List.Sublist [p, q] (pre ++ l)) := by
  intro l
  induction l with
  | nil => intro pre _ h1 h2 h3; rw [List.append_nil]; exact ⟨h1, h2, h3⟩
  | cons y l ih =>
    intro pre h h1 h2 h3
    obtain ⟨j, ks⟩ := y
    simp only [chkAll, Bool.and_eq_true] at h
    obtain ⟨he, hn, hp, hl⟩ := h
    cases ho : ops[j]? with
    | none => rw [ho] at he; cases he
    | some o =>
      rw [ho] at he
      simp only [List.all_eq_true, Bool.or_eq_true, Bool.not_eq_true', List.any_eq_true, beqT] at he
      obtain ⟨p1, p2⟩ := chkPre_spec (A := A) (P := P) hb hp
      have hnot : ∀ q ∈ pre, q.1 ≠ j := by
        intro q hq e
        have : pre.any (fun q => Nat.beq q.1 j) = true := List.any_eq_true.2 ⟨q, hq, beqT.2 e⟩
        rw [this] at hn; cases hn
      have hlt : j < ops.size := (Array.getElem?_eq_some_iff.1 ho).1
      have := ih (pre ++ [(j, ks)]) hl ⟨?_, ?_, ?_⟩ ?_ ?_
      · rw [List.append_assoc] at this; exact this
      · rw [List.map_append, List.nodup_append]
        refine ⟨h1.nd, by simp, ?_⟩
        intro a ha b hb' e
        simp only [List.map_cons, List.map_nil, List.mem_singleton] at hb'
        obtain ⟨q, hq, rfl⟩ := List.mem_map.1 ha
        exact hnot q hq (e.trans hb')
      · intro p q hs
        obtain ⟨a, b, e, ha, hb'⟩ := List.sublist_append_iff.1 hs
        match a, e with
        | [], e => simp at e; subst e; have := hb'.length_le; simp at this
        | [x], e =>
          simp at e
          obtain ⟨rfl, rfl⟩ := e
          have hq := List.singleton_sublist.1 hb'
          simp only [List.mem_singleton] at hq
          subst hq
          exact p1 p (List.singleton_sublist.1 ha)
        | [x, y], e => simp at e; obtain ⟨rfl, rfl, _⟩ := e; exact h1.pair2 _ _ ha
        | x :: y :: z :: a, e => simp at e
      · intro p q r hs hk
        obtain ⟨a, b, e, ha, hb'⟩ := List.sublist_append_iff.1 hs
        match a, e with
        | [], e => simp at e; subst e; have := hb'.length_le; simp at this
        | [x], e => simp at e; obtain ⟨rfl, rfl⟩ := e; have := hb'.length_le; simp at this
        | [x, y], e =>
          simp at e
          obtain ⟨rfl, rfl, rfl⟩ := e
          have hq := List.singleton_sublist.1 hb'
          simp only [List.mem_singleton] at hq
          subst hq
          exact p2 _ _ ha hk
        | [x, y, z], e => simp at e; obtain ⟨rfl, rfl, rfl, _⟩ := e; exact h1.pair3 _ _ _ ha hk
        | x :: y :: z :: u :: a, e => simp at e
      · intro q hq
        rcases List.mem_append.1 hq with hq | hq
        · exact h2 q hq
        · simp only [List.mem_singleton] at hq; subst hq; exact hlt
      · intro q hq o' ho' e he' hbnd
        rcases List.mem_append.1 hq with hq | hq
        · obtain ⟨p, hp1, hp2⟩ := h3 q hq o' ho' e he' hbnd
          exact ⟨p, hp1, hp2.trans (List.sublist_append_left _ _)⟩
        · simp only [List.mem_singleton] at hq
          subst hq
          rw [ho] at ho'
          cases ho'
          rcases he e (by simpa using he') with h | ⟨p, hp1, hp2⟩
          · rw [hbnd] at h; cases h
          · exact ⟨p, hp2, List.Sublist.append (List.singleton_sublist.2 hp1) (List.Sublist.refl [(j, ks)])⟩

/-! ### a list of operations, said -/
theorem opsD_cons {i : Nat} {ks : List Nat} {l : Seq} {env : Env} {h : Hp} {K : Env → Hp → Prop} :
    opsD A P N ops ((i, ks) :: l) env h K ↔ ∃ o, ops[i]? = some o ∧ stepD A P N ops o env h fun e h => keptAll A ops e h ks ∧ opsD A P N ops l e h K := by
  cases ks with
  | nil =>
    simp only [opsD]
    cases ho : ops[i]? with
    | none => simp
    | some o =>
      simp only [Option.some.injEq, exists_eq_left', keptAll]
      exact ⟨fun hk => stepD_mono hk fun _ _ h => ⟨trivial, h⟩, fun hk => stepD_mono hk fun _ _ h => h.2⟩
  | cons k ks =>
    simp only [opsD]
    cases ho : ops[i]? with
    | none => simp
    | some o => simp

theorem opsD_mono {l : Seq} : ∀ {env : Env} {h : Hp} {K K' : Env → Hp → Prop}, (∀ e h, K e h → K' e h) → opsD A P N ops l env h K → opsD A P N ops l env h K' := by
  induction l with
  | nil => intro env h K K' hK hk; exact hK _ _ hk
  | cons y l ih =>
    intro env h K K' hK hk
    obtain ⟨i, ks⟩ := y
    rw [opsD_cons] at hk ⊢
    obtain ⟨o, ho, hk⟩ := hk
    exact ⟨o, ho, stepD_mono hk fun e h' ⟨h1, h2⟩ => ⟨h1, ih hK h2⟩⟩

theorem keptAll_sub {env : Env} {h : Hp} : ∀ {ks S : List Nat}, (∀ i ∈ S, i ∈ ks) → keptAll A ops env h ks → keptAll A ops env h S := by
  intro ks S hs hk
  have all : ∀ {l : List Nat}, keptAll A ops env h l → ∀ i ∈ l, (match ops[i]? with | some o => keptD A o env h | none => False) := by
    intro l
    induction l with
    | nil => intro _ i hi; cases hi
    | cons x l ih =>
      intro hk i hi
      rcases List.mem_cons.1 hi with rfl | hi
      · exact hk.1
      · exact ih hk.2 i hi
  induction S with
  | nil => trivial
  | cons x S ih => exact ⟨all hk x (hs x (by simp)), ih fun i hi => hs i (List.mem_cons_of_mem _ hi)⟩

theorem keptD_put (hA : A.good) {z : Oper} {env : Env} {h : Hp} {d : Option Tmp} {u : EV} (hd : ∀ k, d = some k → k ∉ readsO A ops z ∧ ∀ e ∈ writesO A z, slotsApart A k e = true)
    (hk : keptD A z (put A env d u) h) : keptD A z env h := by
  cases d with
  | none => exact hk
  | some d =>
    obtain ⟨h1, h2⟩ := hd d rfl
    unfold keptD at hk ⊢
    split at hk
    · rename_i t x hop
      have hl : look A (put A env (some d) u) x = look A env x := (agree_put (ops := ops) hA h1 u).1 x (by rw [hop]; simp [Op.operands])
      split at hk
      · rename_i e hds
        have := h2 e (by unfold writesO; simp [hds])
        obtain ⟨n1, n2, n3⟩ := slotsApart_iff.1 this
        have he : put A env (some d) u e = env e := by
          rcases put_ne (A := A) (env := env) u (Ne.symm n1) with h | ⟨_, _, h4⟩
          · exact h
          · exact absurd h4 n3
        rw [he, hl] at hk
        exact hk
      · exact hk.elim
    · rename_i t1 t2 x hop
      have hl : look A (put A env (some d) u) x = look A env x := (agree_put (ops := ops) hA h1 u).1 x (by rw [hop]; simp [Op.operands])
      split at hk
      · rename_i e hds
        have := h2 e (by unfold writesO; simp [hds])
        obtain ⟨n1, n2, n3⟩ := slotsApart_iff.1 this
        have he : put A env (some d) u e = env e := by
          rcases put_ne (A := A) (env := env) u (Ne.symm n1) with h | ⟨_, _, h4⟩
          · exact h
          · exact absurd h4 n3
        rw [he, hl] at hk
        exact hk
      · exact hk.elim
    · exact hk.elim

theorem keptAll_put (hA : A.good) {x : Oper} {env : Env} {h : Hp} {d : Option Tmp} {u : EV} (hdx : d = x.dst ∨ d = effDst A x) : ∀ {S : List Nat},
    (∀ k ∈ S, ∀ z, ops[k]? = some z → ∀ d ∈ writesO A x, d ∉ readsO A ops z ∧ ∀ e ∈ writesO A z, slotsApart A d e = true) → keptAll A ops (put A env d u) h S → keptAll A ops env h S := by
  intro S
  induction S with
  | nil => intro _ _; trivial
  | cons k S ih =>
    intro hS hk
    refine ⟨?_, ih (fun k hk => hS k (List.mem_cons_of_mem _ hk)) hk.2⟩
    have := hk.1
    cases hz : ops[k]? with
    | none => rw [hz] at this; exact this
    | some z =>
      rw [hz] at this
      refine keptD_put (ops := ops) hA (fun k' hk' => ?_) this
      subst hk'
      exact hS k (by simp) z hz k' (mem_writes hdx)

/-- An operation that may come up now is brought to the front. -/
theorem bubble (hA : A.good) {j : Nat} {ks : List Nat} {y : Oper} (hy : ops[j]? = some y) {l2 : Seq} : ∀ (l1 : Seq) (S : List Nat) (env : Env) (h : Hp) (K : Env → Hp → Prop),
    (∀ p ∈ l1, pairB A P ops p.1 p.2 j ks = true) → (∀ k ∈ S, k ∈ ks) → (∀ k ∈ S, ∀ p ∈ l1, keepB A ops p.1 k = true) →
    (∀ p q, List.Sublist [p, q] l1 → p.1 ∈ ks → keepB A ops q.1 p.1 = true) →
    opsD A P N ops (l1 ++ (j, ks) :: l2) env h K → stepD A P N ops y env h fun e h => keptAll A ops e h S ∧ opsD A P N ops (l1 ++ l2) e h K := by
  intro l1
  induction l1 with
  | nil =>
    intro S env h K _ hS _ _ hk
    rw [List.nil_append, opsD_cons] at hk
    obtain ⟨o, ho, hk⟩ := hk
    rw [hy] at ho; cases ho
    exact stepD_mono hk fun e h ⟨h1, h2⟩ => ⟨keptAll_sub hS h1, h2⟩
  | cons p l1 ih =>
    intro S env h K hp hS hkeep h3 hk
    obtain ⟨i, ki⟩ := p
    rw [List.cons_append, opsD_cons] at hk
    obtain ⟨x, hx, hk⟩ := hk
    have hpair := hp (i, ki) (by simp)
    unfold pairB at hpair
    dsimp only at hpair
    rw [hx, hy] at hpair
    simp only [Bool.and_eq_true, Bool.or_eq_true, List.isEmpty_iff] at hpair
    obtain ⟨hki, hap, hcase⟩ := hpair
    subst hki
    have hkS : ∀ k ∈ S, ∀ z, ops[k]? = some z → ∀ d ∈ writesO A x, d ∉ readsO A ops z ∧ ∀ e ∈ writesO A z, slotsApart A d e = true := by
      intro k hkS z hz d hd
      have := hkeep k hkS (i, []) (by simp)
      unfold keepB at this
      dsimp only at this
      rw [hx, hz] at this
      simp only [List.all_eq_true, Bool.and_eq_true, Bool.not_eq_true', List.contains_eq_mem, decide_eq_false_iff_not] at this
      exact this d hd
    have rest : ∀ q ∈ l1, pairB A P ops q.1 q.2 j ks = true := fun q hq => hp q (List.mem_cons_of_mem _ hq)
    have h3' : ∀ p q, List.Sublist [p, q] l1 → p.1 ∈ ks → keepB A ops q.1 p.1 = true := fun p q hs => h3 p q (hs.cons _)
    -- the end: what is kept stays said ahead of x
    have fin : isLin (cls A P x) = true → stepD A P N ops y env h (fun e2 h2 => stepD A P N ops x e2 h2 fun e3 h3 => keptAll A ops e3 h3 S ∧ opsD A P N ops (l1 ++ l2) e3 h3 K) →
        stepD A P N ops y env h fun e h => keptAll A ops e h S ∧ opsD A P N ops ((i, []) :: l1 ++ l2) e h K := by
      intro hlin hk
      refine stepD_mono hk fun e2 h2 hk => ⟨?_, ?_⟩
      · obtain ⟨d, u, hd, ⟨hkk, _⟩, _⟩ := stepD_lin hlin hk
        exact keptAll_put hA hd hkS hkk
      · rw [List.cons_append, opsD_cons]
        exact ⟨x, hx, stepD_mono hk fun e3 h3 ⟨_, hk⟩ => ⟨trivial, hk⟩⟩
    rcases hcase with hsw | ⟨hr, hin, hself⟩
    · have hlin : isLin (cls A P x) = true := by
        cases hc : cls A P x <;> rw [hc] at hsw <;> first | rfl | cases hsw
      have hk' := stepD_mono hk fun e1 h1 ⟨_, hk⟩ => ih S e1 h1 K rest hS (fun k hk q hq => hkeep k hk q (List.mem_cons_of_mem _ hq)) h3' hk
      exact fin hlin (swap hA hsw hap hk')
    · have hc : cls A P x = .r := by
        cases hc : cls A P x <;> rw [hc] at hr <;> first | rfl | cases hr
      have hin : i ∈ ks := by simpa using hin
      have hk' := stepD_mono hk fun e1 h1 ⟨_, hk⟩ => ih (i :: S) e1 h1 K rest
        (fun k hk => by
          rcases List.mem_cons.1 hk with rfl | hk
          · exact hin
          · exact hS k hk)
        (fun k hk q hq => by
          rcases List.mem_cons.1 hk with rfl | hk
          · exact h3 (k, []) q (List.Sublist.cons_cons _ (List.singleton_sublist.2 hq)) hin
          · exact hkeep k hk q (List.mem_cons_of_mem _ hq)) h3' hk
      refine fin (by rw [hc]; rfl) (swapKept hA hc hap hself (stepD_mono hk' fun e1 h1 hk => stepD_mono hk fun e2 h2 ⟨hkk, hk⟩ => ?_))
      have hkx := hkk.1
      rw [hx] at hkx
      exact ⟨hkx, hkk.2, hk⟩

/-! ### from the machine's side -/
def ListGo (P : Program) (ops : Array Oper) (l : List Nat) (a : Act) (w : World) (K : Act → World → Prop) : Prop :=
  ∀ (b : Frame) (k : List Item) (cs : List Frame), ∃ a' w', K a' w' ∧ Steps P (lone (b.at a (.inRegion ops l :: k)) cs w) (lone (b.at a' k) cs w')

theorem listGo_nil {a : Act} {w : World} {K : Act → World → Prop} (hk : K a w) : ListGo P ops [] a w K :=
  fun _ _ _ => ⟨a, w, hk, .one step_region_end⟩
theorem listGo_cons {i : Nat} {l : List Nat} {a : Act} {w : World} {K : Act → World → Prop} (h : OpGo P ops i a w fun a' w' => ListGo P ops l a' w' K) : ListGo P ops (i :: l) a w K := by
  intro b k cs
  obtain ⟨a', w', h1, s1⟩ := h b l k cs
  obtain ⟨a'', w'', h2, s2⟩ := h1 b k cs
  exact ⟨a'', w'', h2, s1.trans s2⟩
theorem OpGo.mono {i : Nat} {a : Act} {w : World} {K K' : Act → World → Prop} (hK : ∀ a w, K a w → K' a w) (h : OpGo P ops i a w K) : OpGo P ops i a w K' := by
  intro b rest k cs
  obtain ⟨a', w', h1, s1⟩ := h b rest k cs
  exact ⟨a', w', hK _ _ h1, s1⟩

theorem sound_ops (hP : Prem P A) {fr : Hp} {w0 : World} : ∀ (l : Seq) {bx : Nat → Nat} {env : Env} {a : Act} {h : Hp} {w : World} {K : Env → Hp → Prop},
    Rel A N bx env a h fr w0 w → opsD A P N ops l env h K → ListGo P ops (l.map Prod.fst) a w (St A N fr w0 K) := by
  intro l
  induction l with
  | nil => intro bx env a h w K R hk; exact listGo_nil ⟨_, _, _, R, hk⟩
  | cons y l ih =>
    intro bx env a h w K R hk
    obtain ⟨i, ks⟩ := y
    rw [opsD_cons] at hk
    obtain ⟨o, ho, hk⟩ := hk
    refine listGo_cons ((sound_step hP R ho hk).mono ?_)
    rintro a' w' ⟨bx', env', h', R', _, hk'⟩
    exact ih R' hk'

theorem filter_mem_split {L : Seq} (hn : (L.map Prod.fst).Nodup) {i : Nat} (hi : i ∈ L.map Prod.fst) : ∃ l1 ks l2, L = l1 ++ (i, ks) :: l2 ∧ L.filter (fun p => p.1 != i) = l1 ++ l2 := by
  obtain ⟨⟨j, ks⟩, hq, rfl⟩ := List.mem_map.1 hi
  obtain ⟨l1, l2, rfl⟩ := List.append_of_mem hq
  refine ⟨l1, ks, l2, rfl, ?_⟩
  rw [List.map_append, List.map_cons, List.nodup_append] at hn
  obtain ⟨h1, h2, h3⟩ := hn
  rw [List.nodup_cons] at h2
  have e1 : l1.filter (fun p => p.1 != j) = l1 := List.filter_eq_self.2 fun p hp => by
    have := h3 p.1 (List.mem_map.2 ⟨p, hp, rfl⟩) j (by simp)
    simpa using this
  have e2 : l2.filter (fun p => p.1 != j) = l2 := List.filter_eq_self.2 fun p hp => by
    have : p.1 ≠ j := by rintro e; exact h2.1 (List.mem_map.2 ⟨p, hp, e⟩)
    simpa using this
  rw [List.filter_append, List.filter_cons]
  simp [e1, e2]

theorem sound_any (hP : Prem P A) {fr : Hp} {w0 : World} : ∀ (fuel t : Nat) (listed : Array Bool) (rem : Seq) {bx : Nat → Nat} {env : Env} {a : Act} {h : Hp} {w : World} {K : Env → Hp → Prop},
    Rel A N bx env a h fr w0 w → SeqOk A P ops rem → listed.size = ops.size → rem.length ≤ fuel →
    (∀ j, j ∈ rem.map Prod.fst ↔ j < ops.size ∧ listed.getD j true = false) →
    (∀ i j, Dep ops i j → listed.getD j false = true → listed.getD i false = true) →
    (∀ q ∈ rem, ∀ o, ops[q.1]? = some o → ∀ e ∈ o.after, Region.binds .any e = true → listed.getD e.on false = true ∨ ∃ p, p.1 = e.on ∧ List.Sublist [p, q] rem) →
    opsD A P N ops rem env h K → ListGo P ops (Region.linearise.go .any ops fuel t listed []) a w (St A N fr w0 K) := by
  intro fuel
  induction fuel with
  | zero =>
    intro t listed rem bx env a h w K R hok hsz hlen hmem hcl hed hk
    have : rem = [] := List.eq_nil_of_length_eq_zero (by omega)
    subst this
    simp only [Region.linearise.go, List.reverse_nil]
    exact listGo_nil ⟨_, _, _, R, hk⟩
  | succ fuel ih =>
    intro t listed rem bx env a h w K R hok hsz hlen hmem hcl hed hk
    simp only [Region.linearise.go]
    change ListGo P ops (match (Region.ready .any ops listed)[t % (Region.ready .any ops listed).length]? with
      | some i => Region.linearise.go .any ops fuel (t / (Region.ready .any ops listed).length) (listed.setIfInBounds i true) [i]
      | none => [].reverse) a w (St A N fr w0 K)
    cases hi : (Region.ready .any ops listed)[t % (Region.ready .any ops listed).length]? with
    | none =>
      have hnil : Region.ready .any ops listed = [] := by
        cases hr : Region.ready .any ops listed with
        | nil => rfl
        | cons x xs =>
          rw [hr] at hi
          have hlt : t % (x :: xs).length < (x :: xs).length := Nat.mod_lt _ (by simp)
          simp at hi
          simp at hlt
          omega
      have : rem = [] := by
        cases rem with
        | nil => rfl
        | cons q l =>
          exfalso
          obtain ⟨h1, h2⟩ := (hmem q.1).1 (by simp)
          have : q.1 ∈ Region.ready .any ops listed := by
            rw [mem_ready]
            refine ⟨h2, ops[q.1], by simp [h1], fun e he hb => ?_⟩
            rcases hed q (by simp) ops[q.1] (by simp [h1]) e he hb with h | ⟨p, hp, hs⟩
            · exact h
            · exfalso
              have hnd := hok.nd
              rw [List.map_cons, List.nodup_cons] at hnd
              cases hs with
              | cons _ hs =>
                exact hnd.1 (List.mem_map.2 ⟨q, hs.subset (by simp), rfl⟩)
              | cons_cons _ hs => exact hnd.1 (List.mem_map.2 ⟨q, hs.subset (by simp), rfl⟩)
          rw [hnil] at this; cases this
      subst this
      exact listGo_nil ⟨_, _, _, R, hk⟩
    | some i =>
      simp only []
      have hir := List.mem_of_getElem? hi
      obtain ⟨hun, o, ho, hall⟩ := mem_ready.1 hir
      have hilt : i < ops.size := (Array.getElem?_eq_some_iff.1 ho).1
      have him : i ∈ rem.map Prod.fst := (hmem i).2 ⟨hilt, hun⟩
      obtain ⟨l1, ks, l2, hrem, hfil⟩ := filter_mem_split hok.nd him
      rw [linearise_go_acc, List.reverse_singleton, List.singleton_append]
      refine listGo_cons ?_
      -- nothing ahead of i in the order must come up before it
      have hnodep : ∀ p, List.Sublist [p, (i, ks)] rem → ¬ Dep ops p.1 i := by
        intro p hs hd
        have hp : p.1 ∈ rem.map Prod.fst := List.mem_map.2 ⟨p, hs.subset (by simp), rfl⟩
        have hpu := ((hmem p.1).1 hp)
        have : listed.getD p.1 false = true := by
          clear hs hp
          have key : ∀ x y, Dep ops x y → y = i → listed.getD x false = true := by
            intro x y hd
            induction hd with
            | edge ho' he hb =>
              rintro rfl
              rw [ho] at ho'; cases ho'
              exact hall _ he hb
            | trans h1 h2 ih1 ih2 =>
              rintro rfl
              exact hcl _ _ h1 (ih2 rfl)
          exact key _ _ hd rfl
        have h3 := hpu.2
        simp only [Array.getD, hsz, hpu.1, dif_pos] at this h3
        rw [this] at h3; cases h3
      have sub1 : ∀ p ∈ l1, List.Sublist [p, (i, ks)] rem := by
        intro p hp
        rw [hrem]
        exact List.Sublist.append (List.singleton_sublist.2 hp) (List.singleton_sublist.2 (by simp))
      have hb := bubble (N := N) hP.good (j := i) (ks := ks) ho (l2 := l2) l1 [] env h K
        (fun p hp => (hok.pair2 p (i, ks) (sub1 p hp)).resolve_left (hnodep p (sub1 p hp))) (fun k hk => by cases hk) (fun k hk => by cases hk)
        (fun p q hs hk => by
          have hs3 : List.Sublist [p, q, (i, ks)] rem := by
            rw [hrem]; exact List.Sublist.append hs (List.singleton_sublist.2 (by simp))
          refine (hok.pair3 p q (i, ks) hs3 hk).resolve_right (hnodep q (sub1 q (hs.subset (by simp)))))
        (by rw [← hrem]; exact hk)
      refine (sound_step hP R ho hb).mono ?_
      rintro a' w' ⟨bx', env', h', R', _, hk'⟩
      rw [← hfil] at hk'
      have hsub : List.Sublist (rem.filter fun p => p.1 != i) rem := List.filter_sublist
      refine ih _ _ (rem.filter fun p => p.1 != i) R' ⟨?_, ?_, ?_⟩ (by simpa using hsz) ?_ ?_ ?_ ?_ hk'
      · exact hok.nd.sublist (hsub.map _)
      · exact fun p q hs => hok.pair2 p q (hs.trans hsub)
      · exact fun p q r hs => hok.pair3 p q r (hs.trans hsub)
      · rw [hfil]
        have := congrArg List.length hrem
        simp at this ⊢; omega
      · intro j
        constructor
        · intro hj
          obtain ⟨q, hq, rfl⟩ := List.mem_map.1 hj
          obtain ⟨hq1, hq2⟩ := List.mem_filter.1 hq
          have hne : q.1 ≠ i := by simpa using hq2
          have := (hmem q.1).1 (List.mem_map.2 ⟨q, hq1, rfl⟩)
          exact ⟨this.1, by rw [getD_set_ne true (Ne.symm hne)]; exact this.2⟩
        · rintro ⟨h1, h2⟩
          have hne : j ≠ i := by
            rintro rfl
            have hlt : j < listed.size := by rw [hsz]; exact h1
            simp [hlt] at h2
          rw [getD_set_ne true (Ne.symm hne)] at h2
          obtain ⟨q, hq, rfl⟩ := List.mem_map.1 ((hmem j).2 ⟨h1, h2⟩)
          exact List.mem_map.2 ⟨q, List.mem_filter.2 ⟨hq, by simpa using hne⟩, rfl⟩
      · intro x y hd hy
        by_cases e : y = i
        · subst e
          apply getD_set_true
          have key : ∀ x z, Dep ops x z → z = y → listed.getD x false = true := by
            intro x z hd
            induction hd with
            | edge ho' he hb =>
              rintro rfl
              rw [ho] at ho'; cases ho'
              exact hall _ he hb
            | trans h1 h2 ih1 ih2 =>
              rintro rfl
              exact hcl _ _ h1 (ih2 rfl)
          exact key _ _ hd rfl
        · rw [getD_set_ne false (Ne.symm e)] at hy
          exact getD_set_true (hcl _ _ hd hy)
      · intro q hq o' ho' e he hb'
        obtain ⟨hq1, hq2⟩ := List.mem_filter.1 hq
        rcases hed q hq1 o' ho' e he hb' with h | ⟨p, hp, hs⟩
        · exact .inl (getD_set_true h)
        · by_cases hpi : p.1 = i
          · left
            rw [← hp, hpi]
            have hlt : i < listed.size := by rw [hsz]; exact hilt
            simp [hlt]
          · right
            refine ⟨p, hp, ?_⟩
            have := hs.filter (fun p => p.1 != i)
            have hq2' : (q.1 != i) = true := hq2
            have hp2' : (p.1 != i) = true := by simpa using hpi
            rw [List.filter_cons, if_pos hp2', List.filter_cons, if_pos hq2'] at this
            exact this

theorem nodup_len : ∀ (n : Nat) (l : List Nat), l.Nodup → (∀ x ∈ l, x < n) → l.length ≤ n := by
  intro n
  induction n with
  | zero =>
    intro l _ h
    cases l with
    | nil => simp
    | cons x l => have := h x (by simp); omega
  | succ n ih =>
    intro l hn h
    by_cases hm : n ∈ l
    · have := ih (l.erase n) (hn.erase n) (fun x hx => by
        have h1 := h x (List.mem_of_mem_erase hx)
        have h2 : x ≠ n := by rintro rfl; exact (List.Nodup.not_mem_erase hn) hx
        omega)
      rw [List.length_erase_of_mem hm] at this
      omega
    · have := ih l hn (fun x hx => by
        have h1 := h x hx
        have h2 : x ≠ n := by rintro rfl; exact hm hx
        omega)
      omega

/-- The whole region, in whatever order. -/
theorem sound_draw (hP : Prem P A) {fr : Hp} {w0 : World} {seq : Seq} (hc : canonOk A P ops seq = true) {bx : Nat → Nat} {env : Env} {a : Act} {h : Hp} {w : World} {K : Env → Hp → Prop}
    (R : Rel A N bx env a h fr w0 w) (hk : opsD A P N ops seq env h K) (t : Nat) : ListGo P ops (Region.linearise .any ops t) a w (St A N fr w0 K) := by
  simp only [canonOk, Bool.and_eq_true, beqT] at hc
  obtain ⟨hlen, hchk⟩ := hc
  have hdep := befs_dep (ops := ops) ops.toList [] (fun k o hk => by simpa using hk) (fun j i hi => by simp at hi)
  obtain ⟨h1, h2, h3⟩ := chkAll_spec (A := A) (P := P) (ops := ops) hdep seq [] hchk ⟨by simp, fun p q hs => (by cases hs), fun p q r hs => (by cases hs)⟩ (fun q hq => by cases hq) (fun q hq => by cases hq)
  simp only [List.nil_append] at h1 h2 h3
  have hfull : ∀ j, j < ops.size → j ∈ seq.map Prod.fst := by
    intro j hj
    apply Classical.byContradiction
    intro hn
    have hsub : (j :: seq.map Prod.fst).Nodup := List.nodup_cons.2 ⟨hn, h1.nd⟩
    have := nodup_len ops.size (j :: seq.map Prod.fst) hsub (fun x hx => by
      rcases List.mem_cons.1 hx with rfl | hx
      · exact hj
      · obtain ⟨q, hq, rfl⟩ := List.mem_map.1 hx; exact h2 q hq)
    simp at this; omega
  refine sound_any hP ops.size t _ seq R h1 (by simp) (by omega) ?_ ?_ ?_ hk
  · intro j
    constructor
    · intro hj
      obtain ⟨q, hq, rfl⟩ := List.mem_map.1 hj
      have := h2 q hq
      exact ⟨this, by simp [this]⟩
    · rintro ⟨hj, _⟩; exact hfull j hj
  · intro i j _ hj
    exfalso
    by_cases hlt : j < ops.size <;> simp [hlt] at hj
  · intro q hq o ho e he hb
    exact .inr (h3 q hq o ho e he hb)
end
end Go.Eng
