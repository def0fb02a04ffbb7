/- How what is known stands to the frame and the world. -/
import Derived.Test.YtmkgcdgpokidjaaGreatEC
set_option linter.unusedVariables false
namespace Go.Eng

def slotOk (A : Ann) (bx : Nat → Nat) (env : Env) (a : Act) (h fr : Hp) (w : World) (s : Nat) : EV → Prop
  | .val v => a.tmps[s]? = some v
  | .box cs => a.tmps[s]? = some (.pointer (some ⟨bx s, 0, none⟩)) ∧ (∃ e, w.heap[bx s]? = some (.cells cs.toArray e (0, 0))) ∧ h (bx s) = none ∧ fr (bx s) = none
  | .ref off => ∃ t, A.refOf s = some t ∧ a.tmps[s]? = some (.pointer (some ⟨bx t, off, none⟩)) ∧ ∃ cs, env t = .box cs
  | .unk => True

structure Rel (A : Ann) (N : Nat) (bx : Nat → Nat) (env : Env) (a : Act) (h fr : Hp) (w0 w : World) : Prop where
  size : a.tmps.size = N
  defers : a.defers = A.defs
  hle : h.le w
  frle : fr.le w
  dj : h.dj fr
  same : Same w0 w
  slot : ∀ s, slotOk A bx env a h fr w s (env s)
  prom : ∀ s cs, env s = .box cs → A.isProm s = true
  inj : ∀ s t cs ds, env s = .box cs → env t = .box ds → bx s = bx t → s = t

/-- The hints are of one mind: no slot that holds the address of a variable is told to hold an address in one. -/
def Ann.good (A : Ann) : Prop := ∀ s t, A.refOf s = some t → A.isProm s = false

section
variable {A : Ann} {N : Nat} {bx : Nat → Nat} {env : Env} {a : Act} {h fr : Hp} {w0 w : World}

theorem beqT {a b : Nat} : Nat.beq a b = true ↔ a = b := Nat.beq_eq ▸ Iff.rfl
theorem beqF {a b : Nat} : Nat.beq a b = false ↔ a ≠ b := by
  constructor
  · intro h e; rw [beqT.2 e] at h; cases h
  · intro h; cases e : Nat.beq a b with
    | false => rfl
    | true => exact absurd (beqT.1 e) h

theorem isSomeEq_iff {o : Option Nat} {b : Nat} : isSomeEq o b = true ↔ o = some b := by
  cases o with
  | none => simp [isSomeEq]
  | some a => simp [isSomeEq]

theorem Rel.eval_v (R : Rel A N bx env a h fr w0 w) {x : Operand} {v : Value} (e : look A env x = .v v) : a.eval x = v := by
  cases x with
  | tmp t =>
    have hs := R.slot t
    simp only [look] at e
    cases he : env t with
    | val u =>
      rw [he] at e hs; simp at e; subst e
      simp only [slotOk] at hs
      simp [Act.eval, hs]
    | box cs => rw [he] at e; simp at e
    | ref off =>
      rw [he] at e; simp only at e
      cases hr : A.refOf t with
      | none => rw [hr] at e; cases e
      | some t' =>
        rw [hr] at e; simp only at e
        cases hp : A.isProm t' with
        | false => rw [hp] at e; cases e
        | true => rw [hp] at e; simp only [cond_true] at e; cases h' : env t' <;> rw [h'] at e <;> cases e
    | unk => rw [he] at e; cases e
  | const u => simp [look] at e; subst e; rfl
  | func f => simp [look] at e; subst e; rfl
  | global g => cases e

theorem Rel.eval_r (R : Rel A N bx env a h fr w0 w) {x : Operand} {t off : Nat} {cs : List Value} (e : look A env x = .r t off cs) :
    a.eval x = .pointer (some ⟨bx t, off, none⟩) ∧ env t = .box cs ∧ ∃ s, x = .tmp s ∧ ((s = t ∧ off = 0 ∧ A.isProm s = true) ∨ (A.refOf s = some t ∧ A.isProm t = true)) := by
  cases x with
  | tmp s =>
    have hs := R.slot s
    simp only [look] at e
    cases he : env s with
    | val u => rw [he] at e; cases e
    | box ds =>
      rw [he] at e hs; simp at e; obtain ⟨rfl, rfl, rfl⟩ := e
      obtain ⟨h1, _⟩ := hs
      exact ⟨by simp [Act.eval, h1], he, s, rfl, .inl ⟨rfl, rfl, R.prom _ _ he⟩⟩
    | ref o =>
      rw [he] at e hs; simp only at e
      obtain ⟨t', hr, h1, ds, hb⟩ := hs
      rw [hr] at e; simp only at e; rw [hb, R.prom _ _ hb] at e; simp [lookBox] at e; obtain ⟨rfl, rfl, rfl⟩ := e
      exact ⟨by simp [Act.eval, h1], hb, s, rfl, .inr ⟨hr, R.prom _ _ hb⟩⟩
    | unk => rw [he] at e; cases e
  | const u => cases e
  | func f => cases e
  | global g => cases e

theorem put_same (d : Nat) (e : EV) : put A env (some d) e d = e := by simp [put]
theorem put_ne {d s : Nat} (e : EV) (hs : s ≠ d) : put A env (some d) e s = env s ∨ (put A env (some d) e s = .unk ∧ A.isProm d = true ∧ A.refOf s = some d) := by
  simp only [put, beqF.2 hs, cond_false]
  cases hc : (A.isProm d && isSomeEq (A.refOf s) d) with
  | false => left; rfl
  | true =>
    right
    simp only [Bool.and_eq_true] at hc
    exact ⟨rfl, hc.1, isSomeEq_iff.1 hc.2⟩

theorem put_ne_box {d s : Nat} {e : EV} (hA : A.good) (hs : s ≠ d) {cs : List Value} (hp : A.isProm s = true) : (put A env (some d) e s = .box cs ↔ env s = .box cs) := by
  rcases put_ne (A := A) (env := env) e hs with h | ⟨_, _, h2⟩
  · rw [h]
  · rw [hA _ _ h2] at hp; cases hp

theorem act_put_size (a : Act) (d : Option Tmp) (v : Value) : (a.put d v).tmps.size = a.tmps.size := by
  cases d <;> simp [Act.put]
theorem act_put_defers (a : Act) (d : Option Tmp) (v : Value) : (a.put d v).defers = a.defers := by cases d <;> rfl
theorem act_put_same (a : Act) {d : Nat} (v : Value) (hd : d < a.tmps.size) : (a.put (some d) v).tmps[d]? = some v := by
  simp [Act.put, hd]
theorem act_put_ne (a : Act) {d s : Nat} (v : Value) (hs : s ≠ d) : (a.put (some d) v).tmps[s]? = a.tmps[s]? := by
  simp only [Act.put]
  rw [Array.getElem?_setIfInBounds_ne (Ne.symm hs)]

/-- What an EV says of the value in its slot. -/
def evOk (A : Ann) (bx : Nat → Nat) (env : Env) (d : Option Tmp) (ev : EV) (v : Value) : Prop :=
  match ev with
  | .val u => u = v
  | .ref off => ∃ s t, d = some s ∧ A.refOf s = some t ∧ (∃ cs, env t = .box cs) ∧ v = .pointer (some ⟨bx t, off, none⟩)
  | .unk => True
  | .box _ => False

theorem Rel.put (R : Rel A N bx env a h fr w0 w) (hA : A.good) {d : Option Tmp} (hd : ∀ k, d = some k → k < N) {ev : EV} {v : Value} (hv : evOk A bx env d ev v) :
    Rel A N bx (Eng.put A env d ev) (a.put d v) h fr w0 w := by
  cases d with
  | none => exact R
  | some d =>
    have hd := hd d rfl
    have hds : d < a.tmps.size := by rw [R.size]; exact hd
    have nb : ∀ s cs, Eng.put A env (some d) ev s = .box cs → s ≠ d ∧ env s = .box cs := by
      intro s cs hs
      by_cases e : s = d
      · subst e; rw [put_same] at hs; subst hs; exact hv.elim
      · refine ⟨e, ?_⟩
        rcases put_ne (A := A) (env := env) ev e with h' | ⟨h', _, _⟩
        · rw [h'] at hs; exact hs
        · rw [h'] at hs; cases hs
    refine ⟨by rw [act_put_size]; exact R.size, by rw [act_put_defers]; exact R.defers, R.hle, R.frle, R.dj, R.same, ?_, ?_, ?_⟩
    · intro s
      by_cases e : s = d
      · subst e
        rw [put_same]
        cases ev with
        | val u => simp only [evOk] at hv; subst hv; exact act_put_same a _ hds
        | box cs => exact hv.elim
        | ref off =>
          obtain ⟨s', t, hs', hr, ⟨cs, hb⟩, rfl⟩ := hv
          cases hs'
          refine ⟨t, hr, act_put_same a _ hds, cs, ?_⟩
          have hts : t ≠ s := by
            rintro rfl
            have := hA _ _ hr
            rw [R.prom _ _ hb] at this; cases this
          rcases put_ne (A := A) (env := env) (EV.ref off) hts with h' | ⟨_, _, h2⟩
          · rw [h']; exact hb
          · have := hA _ _ h2; rw [R.prom _ _ hb] at this; cases this
        | unk => trivial
      · rcases put_ne (A := A) (env := env) ev e with h' | ⟨h', _, _⟩
        · rw [h']
          have hs := R.slot s
          cases hes : env s with
          | val u => rw [hes] at hs; simp only [slotOk] at hs ⊢; rw [act_put_ne a v e]; exact hs
          | box cs => rw [hes] at hs; simp only [slotOk] at hs ⊢; rw [act_put_ne a v e]; exact hs
          | ref off =>
            rw [hes] at hs; simp only [slotOk] at hs ⊢; rw [act_put_ne a v e]
            obtain ⟨t, hr, ht, cs, hb⟩ := hs
            refine ⟨t, hr, ht, cs, ?_⟩
            have htd : t ≠ d := by
              rintro rfl
              rcases put_ne (A := A) (env := env) ev e with h2 | ⟨h2, _, _⟩
              · have hp := R.prom _ _ hb
                have : Eng.put A env (some t) ev s = .unk := by
                  simp only [Eng.put, beqF.2 e, cond_false, hp, hr, isSomeEq, beqT.2 rfl, Bool.and_self, cond_true]
                rw [this] at h2; rw [← h2] at hes; cases hes
              · rw [h'] at h2; rw [h2] at hes; cases hes
            rcases put_ne (A := A) (env := env) ev htd with h2 | ⟨_, _, h3⟩
            · rw [h2]; exact hb
            · have := hA _ _ h3; rw [R.prom _ _ hb] at this; cases this
          | unk => trivial
        · rw [h']; trivial
    · intro s cs hs; exact R.prom s cs (nb s cs hs).2
    · intro s t cs ds hs ht he; exact R.inj s t cs ds (nb s cs hs).2 (nb t ds ht).2 he

/-- A step of the world that leaves the frame's own variables alone. -/
theorem Rel.world (R : Rel A N bx env a h fr w0 w) {h' : Hp} {w' : World} (hle : h'.le w') (frle : fr.le w') (dj : h'.dj fr) (same : Same w w')
    (keep : ∀ b, b < w.heap.size → h b = none → fr b = none → w'.heap[b]? = w.heap[b]? ∧ h' b = none) : Rel A N bx env a h' fr w0 w' := by
  refine ⟨R.size, R.defers, hle, frle, dj, R.same.trans same, ?_, R.prom, R.inj⟩
  intro s
  have hs := R.slot s
  cases hes : env s with
  | val u => rw [hes] at hs; exact hs
  | box cs =>
    rw [hes] at hs
    obtain ⟨h1, ⟨e, h2⟩, h3, h4⟩ := hs
    have hlt : bx s < w.heap.size := by
      rcases Nat.lt_or_ge (bx s) w.heap.size with h' | h'
      · exact h'
      · rw [Array.getElem?_eq_none h'] at h2; cases h2
    obtain ⟨k1, k2⟩ := keep _ hlt h3 h4
    exact ⟨h1, ⟨e, by rw [k1]; exact h2⟩, k2, h4⟩
  | ref off => rw [hes] at hs; exact hs
  | unk => trivial

/-- The frame's own variables, as a part of the heap. -/
noncomputable def boxes (bx : Nat → Nat) (env : Env) (w : World) : Hp := fun b =>
  open Classical in if ∃ s cs, env s = .box cs ∧ bx s = b then w.heap[b]? else none

theorem Rel.boxes_le (_R : Rel A N bx env a h fr w0 w) : (boxes bx env w).le w := by
  intro b o hb
  unfold boxes at hb
  split at hb
  · exact hb
  · cases hb
theorem Rel.boxes_dj (R : Rel A N bx env a h fr w0 w) : h.dj (boxes bx env w) := by
  intro b
  unfold boxes
  split
  · rename_i hx
    obtain ⟨s, cs, he, rfl⟩ := hx
    have hs := R.slot s
    rw [he] at hs
    exact .inl hs.2.2.1
  · exact .inr rfl
theorem Rel.boxes_dj' (R : Rel A N bx env a h fr w0 w) : (boxes bx env w).dj fr := by
  intro b
  unfold boxes
  split
  · rename_i hx
    obtain ⟨s, cs, he, rfl⟩ := hx
    have hs := R.slot s
    rw [he] at hs
    exact .inr hs.2.2.2
  · exact .inl rfl

/-- Behind a call that was given 'h' alone. -/
theorem Rel.called (R : Rel A N bx env a h fr w0 w) {h' : Hp} {w' : World} (hle : h'.le w') (frle : ((boxes bx env w).un fr).le w') (dj : h'.dj ((boxes bx env w).un fr)) (same : Same w w') :
    Rel A N bx env a h' fr w0 w' := by
  have dj' := R.boxes_dj'
  have fl := Hp.le_un_right dj' frle
  have bl := Hp.le_un_left frle
  have d1 := Hp.dj_symm (Hp.dj_un_left (Hp.dj_symm dj))
  have d2 := Hp.dj_symm (Hp.dj_un_right (Hp.dj_symm dj))
  refine ⟨R.size, R.defers, hle, fl, d2, R.same.trans same, ?_, R.prom, R.inj⟩
  intro s
  have hs := R.slot s
  cases hes : env s with
  | val u => rw [hes] at hs; exact hs
  | box cs =>
    rw [hes] at hs
    obtain ⟨h1, ⟨e, h2⟩, h3, h4⟩ := hs
    have hb : boxes bx env w (bx s) = some (.cells cs.toArray e (0, 0)) := by
      unfold boxes
      rw [if_pos ⟨s, cs, hes, rfl⟩]; exact h2
    refine ⟨h1, ⟨e, bl _ _ hb⟩, ?_, h4⟩
    rcases d1 (bx s) with k | k
    · exact k
    · rw [hb] at k; cases k
  | ref off => rw [hes] at hs; exact hs
  | unk => trivial

/-- A new variable of the frame's own. -/
theorem Rel.newBox (R : Rel A N bx env a h fr w0 w) (hA : A.good) {d : Nat} (hd : d < N) (hp : A.isProm d = true) (cs : List Value) (e : TypeId) :
    Rel A N (fun s => if s = d then w.heap.size else bx s) (Eng.put A env (some d) (.box cs)) (a.put (some d) (.pointer (some ⟨w.heap.size, 0, none⟩))) h fr w0 (w.alloc (.cells cs.toArray e)) := by
  have hds : d < a.tmps.size := by rw [R.size]; exact hd
  have ob : ∀ s ds, s ≠ d → Eng.put A env (some d) (.box cs) s = .box ds → env s = .box ds := by
    intro s ds hs he
    rcases put_ne (A := A) (env := env) (EV.box cs) hs with h' | ⟨h', _, _⟩
    · rw [h'] at he; exact he
    · rw [h'] at he; cases he
  have lt : ∀ s ds, env s = .box ds → bx s < w.heap.size := by
    intro s ds he
    have hs := R.slot s
    rw [he] at hs
    obtain ⟨_, ⟨e, h2⟩, _, _⟩ := hs
    rcases Nat.lt_or_ge (bx s) w.heap.size with h' | h'
    · exact h'
    · rw [Array.getElem?_eq_none h'] at h2; cases h2
  have old : ∀ k, k < w.heap.size → (w.alloc (.cells cs.toArray e)).heap[k]? = w.heap[k]? := by
    intro k hk
    show (w.heap.push _)[k]? = _
    rw [Array.getElem?_push, if_neg (by omega)]
  refine ⟨by rw [act_put_size]; exact R.size, by rw [act_put_defers]; exact R.defers, Hp.le_alloc R.hle _, Hp.le_alloc R.frle _, R.dj, R.same.trans ⟨rfl, rfl, rfl⟩, ?_, ?_, ?_⟩
  · intro s
    by_cases es : s = d
    · subst es
      rw [put_same]
      refine ⟨by rw [act_put_same a _ hds]; simp, ⟨e, ?_⟩, ?_, ?_⟩
      · simp only [if_true]
        show (w.heap.push _)[w.heap.size]? = _
        simp
      · simp only [if_true]; exact Hp.le_lt R.hle (Nat.le_refl _)
      · simp only [if_true]; exact Hp.le_lt R.frle (Nat.le_refl _)
    · rcases put_ne (A := A) (env := env) (EV.box cs) es with h' | ⟨h', _, _⟩
      · rw [h']
        have hs := R.slot s
        cases hes : env s with
        | val u => rw [hes] at hs; simp only [slotOk] at hs ⊢; rw [act_put_ne a _ es]; exact hs
        | box ds =>
          rw [hes] at hs
          obtain ⟨h1, ⟨e', h2⟩, h3, h4⟩ := hs
          simp only [slotOk, if_neg es]
          rw [act_put_ne a _ es]
          exact ⟨h1, ⟨e', by rw [old _ (lt _ _ hes)]; exact h2⟩, h3, h4⟩
        | ref off =>
          rw [hes] at hs
          obtain ⟨t, hr, ht, ds, hb⟩ := hs
          have htd : t ≠ d := by
            rintro rfl
            have : Eng.put A env (some t) (.box cs) s = .unk := by
              simp only [Eng.put, beqF.2 es, cond_false, hp, hr, isSomeEq, beqT.2 rfl, Bool.and_self, cond_true]
            rw [this] at h'; rw [← h'] at hes; cases hes
          simp only [slotOk]
          rw [act_put_ne a _ es]
          refine ⟨t, hr, by rw [if_neg htd]; exact ht, ds, ?_⟩
          rcases put_ne (A := A) (env := env) (EV.box cs) htd with h2 | ⟨_, _, h3⟩
          · rw [h2]; exact hb
          · have := hA _ _ h3; rw [R.prom _ _ hb] at this; cases this
        | unk => trivial
      · rw [h']; trivial
  · intro s ds hs
    by_cases es : s = d
    · subst es; exact hp
    · exact R.prom s ds (ob s ds es hs)
  · intro s t cs' ds hs ht he
    by_cases es : s = d
    · by_cases et : t = d
      · rw [es, et]
      · simp only [es, if_true, if_neg et] at he
        have := lt t ds (ob t ds et ht); omega
    · by_cases et : t = d
      · simp only [et, if_true, if_neg es] at he
        have := lt s cs' (ob s cs' es hs); omega
      · simp only [if_neg es, if_neg et] at he
        exact R.inj s t cs' ds (ob s cs' es hs) (ob t ds et ht) he

/-- A store into a variable of the frame's own. -/
theorem Rel.setBox (R : Rel A N bx env a h fr w0 w) {t : Nat} {cs cs' : List Value} (_hA : A.good) (ht : env t = .box cs) {w' : World}
    (hw : ∃ e, w'.heap[bx t]? = some (.cells cs'.toArray e (0, 0))) (hold : ∀ k, k ≠ bx t → w'.heap[k]? = w.heap[k]?) (same : Same w w') :
    ∃ env', env' = (fun s => if s = t then EV.box cs' else env s) ∧ Rel A N bx env' a h fr w0 w' := by
  refine ⟨_, rfl, ?_⟩
  have hst := R.slot t
  rw [ht] at hst
  obtain ⟨t1, t2, t3, t4⟩ := hst
  have keep : ∀ g : Hp, g.le w → g (bx t) = none → g.le w' := by
    intro g hg h0 k o hk
    rw [hold k (by rintro rfl; rw [h0] at hk; cases hk)]; exact hg k o hk
  have ob : ∀ s ds, (if s = t then EV.box cs' else env s) = .box ds → ∃ ds', env s = .box ds' := by
    intro s ds hs
    by_cases e : s = t
    · subst e; exact ⟨_, ht⟩
    · rw [if_neg e] at hs; exact ⟨_, hs⟩
  refine ⟨R.size, R.defers, keep h R.hle t3, keep fr R.frle t4, R.dj, R.same.trans same, ?_, ?_, ?_⟩
  · intro s
    by_cases e : s = t
    · subst e; simp only [if_true]; exact ⟨t1, hw, t3, t4⟩
    · simp only [if_neg e]
      have hs := R.slot s
      cases hes : env s with
      | val u => rw [hes] at hs; exact hs
      | box ds =>
        rw [hes] at hs
        obtain ⟨h1, ⟨e', h2⟩, h3, h4⟩ := hs
        exact ⟨h1, ⟨e', by rw [hold _ (fun hb => e (R.inj _ _ _ _ hes ht hb))]; exact h2⟩, h3, h4⟩
      | ref off =>
        rw [hes] at hs
        obtain ⟨u, hr, hu, ds, hb⟩ := hs
        refine ⟨u, hr, hu, ?_⟩
        by_cases eu : u = t
        · exact ⟨cs', if_pos eu⟩
        · exact ⟨ds, by show (if u = t then _ else _) = _; rw [if_neg eu]; exact hb⟩
      | unk => trivial
  · intro s ds hs
    obtain ⟨ds', h'⟩ := ob s ds hs
    exact R.prom s ds' h'
  · intro s u ds es hs hu he
    obtain ⟨ds', h1⟩ := ob s ds hs
    obtain ⟨es', h2⟩ := ob u es hu
    exact R.inj s u ds' es' h1 h2 he
end
end Go.Eng
