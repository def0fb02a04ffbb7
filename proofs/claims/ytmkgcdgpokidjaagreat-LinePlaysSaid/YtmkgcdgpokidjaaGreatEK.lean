/- One operation of a region; a region. -/
import Derived.Test.YtmkgcdgpokidjaaGreatEJ
set_option linter.unusedVariables false
namespace Go.Eng

def runD (A : Ann) (P : Program) (o : Oper) (env : Env) (h : Hp) (K : Env → Hp → Prop) : Prop :=
  match cls A P o with
  | .p => opP A P o (look A env) fun e => K (put A env (effDst A o) e) h
  | .c => opC A P o (look A env) fun e => K (put A env o.dst e) h
  | .r => opR A P o (look A env) h fun e => K (put A env o.dst e) h
  | .a => opA P o (look A env) fun ob f => allocP ob h fun b h' => K (put A env o.dst (.val (f b))) h'
  | .w => opW A P o (look A env) h fun e h' => K (put A env o.dst e) h'

def dstOk (N : Nat) (o : Oper) : Bool :=
  match o.dst with
  | some d => Nat.ble (d + 1) N
  | none => true

def setG (env : Env) (s : Nat) (b : Bool) : Env := fun k => bif Nat.beq k s then .val (.bool b) else env k
/-- Where an operation is carried out, or not. -/
def gateD (want : Bool) (run skip : Prop) (b : Bool) : Prop :=
  match want with
  | true => cond b run skip
  | false => cond b skip run

def guardSlot (ops : Array Oper) (o : Oper) : Option (Nat × Bool) :=
  match o.guard with
  | none => none
  | some (g, want) => match ops[g]? with
    | some og => match og.dst with
      | some s => some (s, want)
      | none => none
    | none => none

def stepD (A : Ann) (P : Program) (N : Nat) (ops : Array Oper) (o : Oper) (env : Env) (h : Hp) (K : Env → Hp → Prop) : Prop :=
  bif dstOk N o then
    match o.guard with
    | none => runD A P o env h K
    | some _ => match guardSlot ops o with
      | some (s, want) => match env s with
        | .val (.bool b) => condP b
            (cond want (runD A P o (setG env s true) h K) (K (put A (setG env s true) o.dst (.val undef)) h))
            (cond want (K (put A (setG env s false) o.dst (.val undef)) h) (runD A P o (setG env s false) h K))
        | .val (.tuple ⟨[]⟩) => K (put A env o.dst (.val undef)) h
        | _ => False
      | none => False
  else False

/-- A load that may come behind a write reads as it did. -/
def keptD (A : Ann) (o : Oper) (env : Env) (h : Hp) : Prop :=
  match o.op with
  | .load t x => match o.dst with
    | some d => match env d with
      | .val v => match v with
        | .tuple ⟨[]⟩ => True
        | v => match A.cdc t, look A env x with
          | some c, .v (.pointer (some a)) => match c.dec v with
            | some y => h.rds a (c.enc y).cells.toList
            | none => False
          | _, _ => False
      | _ => False
    | none => False
  | .convert _ _ x => match o.dst with
    | some d => match env d with
      | .val v => match v with
        | .tuple ⟨[]⟩ => True
        | .string s => match look A env x with
          | .v (.slice a len _) => strP a len h fun s' => s' = s
          | _ => False
        | _ => False
      | _ => False
    | none => False
  | _ => False
def keptAll (A : Ann) (ops : Array Oper) (env : Env) (h : Hp) : List Nat → Prop
  | [] => True
  | i :: l => (match ops[i]? with | some o => keptD A o env h | none => False) ∧ keptAll A ops env h l

def opsD (A : Ann) (P : Program) (N : Nat) (ops : Array Oper) : List (Nat × List Nat) → Env → Hp → (Env → Hp → Prop) → Prop
  | [], env, h, K => K env h
  | (i, []) :: l, env, h, K => match ops[i]? with
    | some o => stepD A P N ops o env h fun e h => opsD A P N ops l e h K
    | none => False
  | (i, ks) :: l, env, h, K => match ops[i]? with
    | some o => stepD A P N ops o env h fun e h => keptAll A ops e h ks ∧ opsD A P N ops l e h K
    | none => False

section
variable {P : Program} {A : Ann} {N : Nat} {bx : Nat → Nat} {env : Env} {a : Act} {h fr : Hp} {w0 w : World} {ops : Array Oper}

/-- From one state of a region to the next. -/
def OpGo (P : Program) (ops : Array Oper) (i : Nat) (a : Act) (w : World) (K : Act → World → Prop) : Prop :=
  ∀ (b : Frame) (rest : List Nat) (k : List Item) (cs : List Frame), ∃ a' w', K a' w' ∧
    Steps P (lone (b.at a (.inRegion ops (i :: rest) :: k)) cs w) (lone (b.at a' (.inRegion ops rest :: k)) cs w')

def St (A : Ann) (N : Nat) (fr : Hp) (w0 : World) (K : Env → Hp → Prop) (a : Act) (w : World) : Prop :=
  ∃ bx env h, Rel A N bx env a h fr w0 w ∧ K env h

theorem opGo_skip {i : Nat} {o : Oper} {K : Act → World → Prop} (hi : ops[i]? = some o) (hw : Region.wanted o (yielded ops a.tmps) = false) (hk : K (a.put o.dst undef) w) :
    OpGo P ops i a w K := by
  intro b rest k cs
  refine ⟨_, _, hk, .one ?_⟩
  have hs := step_op_skip (P := P) (b := b) (a := a) (k := k) (cs := cs) (w := w) (ops := ops) (i := i) (rest := rest) (by simp [hi, hw])
  simpa [hi] using hs

theorem opGo_did {i : Nat} {o : Oper} {K : Act → World → Prop} {a' : Act} {w' : World} (hi : ops[i]? = some o) (hw : Region.wanted o (yielded ops a.tmps) = true)
    (hd : Did P o a w a' w') (hk : K a' w') : OpGo P ops i a w K := by
  intro b rest k cs
  have hg := stepG_op (P := P) (b := b) (k := k) (cs := cs) (w := w) (rest := rest) hi hw
  have hfin : ∀ v, (b.at a (.inRegion ops (i :: rest) :: k)).finish v = b.at (a.put o.dst v) (.inRegion ops rest :: k) := by
    intro v; rw [Frame.finish_at, hi]; rfl
  rcases hd with ⟨v, hr, rfl⟩ | ⟨hr, rfl⟩
  · refine ⟨_, _, hk, .one (step_lone_go ?_)⟩
    rw [hg, ← hfin]; simp [stepG.apply, hr]
  · refine ⟨_, _, hk, .one (step_lone_go ?_)⟩
    rw [hg, ← hfin]; simp [stepG.apply, hr]

theorem opGo_call {i : Nat} {o : Oper} {K : Act → World → Prop} {f : FuncId} {args : Array Value} (hi : ops[i]? = some o) (hw : Region.wanted o (yielded ops a.tmps) = true)
    (hr : (execOp a.eval o).run P w = .ok (.enter f args) w) (hc : Calls P f args w fun e w' => ∃ v, e = .returned v ∧ K (a.put o.dst v) w') : OpGo P ops i a w K := by
  intro b rest k cs
  have hg := stepG_op (P := P) (b := b) (k := k) (cs := cs) (w := w) (rest := rest) hi hw
  have hfin : ∀ v, (b.at a (.inRegion ops (i :: rest) :: k)).finish v = b.at (a.put o.dst v) (.inRegion ops rest :: k) := by
    intro v; rw [Frame.finish_at, hi]; rfl
  obtain ⟨e, w'', fr', ⟨v, rfl, hk⟩, hsteps, _, hleave⟩ := hc (b.at a (.inRegion ops (i :: rest) :: k) :: cs)
  have henter : step P (lone (b.at a (.inRegion ops (i :: rest) :: k)) cs w) =
      .next (lone (Frame.enter P f args .normal) (b.at a (.inRegion ops (i :: rest) :: k) :: cs) w) :=
    step_lone_go (by rw [hg]; simp [stepG.apply, hr, Frame.at])
  refine ⟨_, _, hk, .head henter (Steps.trans hsteps (.one ?_))⟩
  rw [← hfin]; exact step_leave_returned hleave

theorem opGo_comm {i : Nat} {o : Oper} {K : Act → World → Prop} {v : Value} {w' : World} {ccs : Array CommCase} (hi : ops[i]? = some o) (hw : Region.wanted o (yielded ops a.tmps) = true)
    (hr : (execOp a.eval o).run P w = .ok (.comm ccs false .select) w)
    (hst : ∀ (f : Frame) (l : List Frame) (es : Array Event), stepG P true (Conc.G f l) w = .comm (Conc.G f l) ccs false .select w es → step P (Conc.solo (Conc.G f l) w) = .next (Conc.solo (Conc.G (f.finish v) l) w'))
    (hk : K (a.put o.dst v) w') : OpGo P ops i a w K := by
  intro b rest k cs
  have hg := stepG_op (P := P) (b := b) (k := k) (cs := cs) (w := w) (rest := rest) hi hw
  have hfin : ∀ v, (b.at a (.inRegion ops (i :: rest) :: k)).finish v = b.at (a.put o.dst v) (.inRegion ops rest :: k) := by
    intro v; rw [Frame.finish_at, hi]; rfl
  have hg' : ∃ es, stepG P true { frame := b.at a (.inRegion ops (i :: rest) :: k), callers := cs, status := .running, dying := none } w =
      .comm (Conc.G (b.at a (.inRegion ops (i :: rest) :: k)) cs) ccs false .select w es := by
    have e1 : stepG.apply P true (b.at a (.inRegion ops (i :: rest) :: k)) cs none (execOp a.eval o) w =
        GStep.after (seen P (b.at a (.inRegion ops (i :: rest) :: k)).fn (if (b.at a (.inRegion ops (i :: rest) :: k)).kind = .early then #[] else Sem.events P (execOp a.eval o) w #[]))
          (GStep.comm { frame := b.at a (.inRegion ops (i :: rest) :: k), callers := cs, status := .running, dying := none } ccs false .select w) := by
      simp [stepG.apply, hr]
    exact ⟨_, (hg.trans e1).trans rfl⟩
  obtain ⟨es, hg'⟩ := hg'
  refine ⟨_, _, hk, .one ?_⟩
  rw [← hfin]
  exact hst (b.at a (.inRegion ops (i :: rest) :: k)) cs es hg'

theorem Hp.emp_le (w : World) : Hp.emp.le w := fun b o h => by cases h
theorem Hp.emp_dj (g : Hp) : Hp.emp.dj g := fun _ => .inl rfl

theorem sound_run (hP : Prem P A) (R : Rel A N bx env a h fr w0 w) {i : Nat} {o : Oper} (hi : ops[i]? = some o) (hd : ∀ k, o.dst = some k → k < N) (hw : Region.wanted o (yielded ops a.tmps) = true)
    {K : Env → Hp → Prop} (hk : runD A P o env h K) : OpGo P ops i a w (St A N fr w0 K) := by
  unfold runD at hk
  cases hc : cls A P o with
  | p =>
    rw [hc] at hk
    obtain ⟨ev, bx', a', w', hk, R', hdid⟩ := soundP hP R hd hc hk
    exact opGo_did hi hw hdid ⟨_, _, _, R', hk⟩
  | c =>
    rw [hc] at hk
    obtain ⟨dst, op, type, pos, after, guard⟩ := o
    simp only [opC] at hk
    cases op <;> simp only at hk <;> try exact hk.elim
    rename_i c
    obtain ⟨callee, args, ats⟩ := c
    dsimp only at hk
    split at hk
    · rename_i g
      split at hk
      · rename_i l r fn hl hr hfn
        split at hk
        · rename_i body hbody
          obtain ⟨x, hs, hk⟩ := hk
          have hargs : args.map a.eval = l.toArray := Array.ext' (by simpa using vals_eval R hl)
          refine opGo_call (f := g) (args := l.toArray) hi hw ?_ ?_
          · have hng := hP.noNG g fn hfn
            simp only [execOp, resolve, Deferred.ofValue, Act.eval, hargs, Sem.run_bind, Sem.run_pure, Result.andThen_ok, invoke, callFunc, run_program, hfn, hng, Bool.false_eq_true, if_false, hbody, Option.isNone_some]
            congr 2
            simp
          · refine (hs w (h.un ((boxes bx env w).un fr)) (Hp.emp_le w) (Hp.un_le R.hle (Hp.un_le R.boxes_le R.frle)) (Hp.emp_dj _)).mono ?_
            rintro e w' ⟨v, h', rfl, ⟨rfl, rfl⟩, _, hfr, _, sm⟩
            have dj1 := Hp.dj_un R.boxes_dj R.dj
            have R' := R.called (h' := h) (Hp.le_un_left hfr) (Hp.le_un_right dj1 hfr) dj1 sm
            exact ⟨_, rfl, _, _, _, R'.put hP.good hd (ev := .val (r.enc x)) rfl, hk⟩
        · exact hk.elim
      · exact hk.elim
    · exact hk.elim
  | r =>
    rw [hc] at hk
    obtain ⟨v, hk, hr⟩ := soundR hP R hk
    exact opGo_did hi hw (.inl ⟨v, hr, rfl⟩) ⟨_, _, _, R.put hP.good hd (ev := .val v) rfl, hk⟩
  | a =>
    rw [hc] at hk
    obtain ⟨ob, f, hk, hr⟩ := soundA hP R hk
    have hs := HStep.alloc R.hle R.frle R.dj ob
    have R' := R.world hs.hle hs.frle hs.dj hs.same hs.keep
    exact opGo_did hi hw (.inl ⟨_, hr, rfl⟩) ⟨_, _, _, R'.put hP.good hd (ev := .val (f w.heap.size)) rfl, hk w.heap.size (Hp.le_lt R.hle (Nat.le_refl _))⟩
  | w =>
    rw [hc] at hk
    rcases soundW hP R hk with ⟨ev, v, h', w', hk, hev, hr, hs⟩ | ⟨h', w', hk, hr, hs⟩ | ⟨f, args, hr, hs⟩ | ⟨v, h', w', ccs, hk, hr, hs, hst⟩
    · have R' := R.world hs.hle hs.frle hs.dj hs.same hs.keep
      have hev' : evOk A bx env o.dst ev v := by rcases hev with rfl | rfl <;> simp [evOk]
      exact opGo_did hi hw (.inl ⟨_, hr, rfl⟩) ⟨_, _, _, R'.put hP.good hd hev', hk⟩
    · have R' := R.world hs.hle hs.frle hs.dj hs.same hs.keep
      exact opGo_did hi hw (.inr ⟨hr, rfl⟩) ⟨_, _, _, R'.put hP.good hd (ev := .unk) trivial, hk⟩
    · refine opGo_call hi hw hr ?_
      refine (hs w ((boxes bx env w).un fr) R.hle (Hp.un_le R.boxes_le R.frle) (Hp.dj_un R.boxes_dj R.dj)).mono ?_
      rintro e w' ⟨v, h', rfl, hk, hle', hfr, hdj, sm⟩
      have R' := R.called hle' hfr hdj sm
      exact ⟨_, rfl, _, _, _, R'.put hP.good hd (ev := .val v) rfl, hk⟩
    · have R' := R.world hs.hle hs.frle hs.dj hs.same hs.keep
      exact opGo_comm hi hw hr hst ⟨_, _, _, R'.put hP.good hd (ev := .val v) rfl, hk⟩

theorem setG_eq {s : Nat} {b : Bool} (he : env s = .val (.bool b)) : setG env s b = env := by
  funext k
  unfold setG
  cases hk : Nat.beq k s with
  | true => rw [beqT.1 hk, he]; rfl
  | false => rfl

/-- What a guard says. -/
inductive Gate (ops : Array Oper) (o : Oper) (env : Env) : Bool → Prop
  | free (h : o.guard = none) : Gate ops o env true
  | at_ (s : Nat) (want b : Bool) (g : Nat) (hg : o.guard = some (g, want)) (hs : guardSlot ops o = some (s, want)) (he : env s = .val (.bool b)) : Gate ops o env (b == want)
  | not_ (s : Nat) (want : Bool) (g : Nat) (hg : o.guard = some (g, want)) (hs : guardSlot ops o = some (s, want)) (he : env s = .val undef) : Gate ops o env false

theorem stepD_gate {o : Oper} {K : Env → Hp → Prop} (hk : stepD A P N ops o env h K) :
    dstOk N o = true ∧ ∃ g, Gate ops o env g ∧ (g = true → runD A P o env h K) ∧ (g = false → K (put A env o.dst (.val undef)) h) := by
  unfold stepD at hk
  cases hdo : dstOk N o with
  | false => rw [hdo] at hk; exact hk.elim
  | true =>
    rw [hdo] at hk
    refine ⟨rfl, ?_⟩
    simp only [cond_true] at hk
    cases hg : o.guard with
    | none => rw [hg] at hk; exact ⟨true, .free hg, fun _ => hk, fun h => by cases h⟩
    | some gw =>
      obtain ⟨g, want'⟩ := gw
      rw [hg] at hk
      dsimp only at hk
      cases hs : guardSlot ops o with
      | none => rw [hs] at hk; exact hk.elim
      | some sw =>
        obtain ⟨s, want⟩ := sw
        have hww : want = want' := by
          unfold guardSlot at hs
          rw [hg] at hs
          dsimp only at hs
          split at hs
          · split at hs
            · cases hs; rfl
            · cases hs
          · cases hs
        subst hww
        rw [hs] at hk
        dsimp only at hk
        split at hk
        · rename_i b he
          refine ⟨b == want, .at_ s want b g hg hs he, ?_, ?_⟩
          · intro hb
            cases b <;> cases want <;> simp at hb <;> simp only [cond_true, cond_false, setG_eq he] at hk <;> exact hk
          · intro hb
            cases b <;> cases want <;> simp at hb <;> simp only [cond_true, cond_false, setG_eq he] at hk <;> exact hk
        · rename_i he
          exact ⟨false, .not_ s want g hg hs he, (fun e => by cases e), fun _ => hk⟩
        · exact hk.elim

theorem stepD_of_gate {o : Oper} {K : Env → Hp → Prop} {g : Bool} (hd : dstOk N o = true) (hg : Gate ops o env g) (h1 : g = true → runD A P o env h K) (h2 : g = false → K (put A env o.dst (.val undef)) h) :
    stepD A P N ops o env h K := by
  unfold stepD
  rw [hd]
  simp only [cond_true]
  cases hg with
  | free hg => rw [hg]; exact h1 rfl
  | at_ s want b g hg hs he =>
    rw [hg]
    simp only [hs, he]
    cases b <;> cases want <;> simp only [cond_true, cond_false, setG_eq he] <;> first | exact h1 rfl | exact h2 rfl
  | not_ s want g hg hs he =>
    rw [hg]
    simp only [hs, he, undef]
    exact h2 rfl

theorem dstOk_lt {o : Oper} (h : dstOk N o = true) : ∀ k, o.dst = some k → k < N := by
  intro k hk
  unfold dstOk at h
  rw [hk] at h
  exact Nat.le_of_ble_eq_true h

theorem gate_wanted (R : Rel A N bx env a h fr w0 w) {o : Oper} {g : Bool} (hg : Gate ops o env g) : Region.wanted o (yielded ops a.tmps) = g := by
  cases hg with
  | free hg => simp [Region.wanted, hg]
  | at_ s want b g hg hs he =>
    have hsl := R.slot s
    rw [he] at hsl
    simp only [slotOk] at hsl
    unfold guardSlot at hs
    rw [hg] at hs
    dsimp only at hs
    split at hs
    · rename_i og hog
      split at hs
      · rename_i s' hds
        cases hs
        simp only [Region.wanted, hg, yielded, hog, Option.bind_some, hds, hsl]
        cases b <;> cases want <;> rfl
      · cases hs
    · cases hs
  | not_ s want g hg hs he =>
    have hsl := R.slot s
    rw [he] at hsl
    simp only [slotOk] at hsl
    unfold guardSlot at hs
    rw [hg] at hs
    dsimp only at hs
    split at hs
    · rename_i og hog
      split at hs
      · rename_i s' hds
        cases hs
        simp only [Region.wanted, hg, yielded, hog, Option.bind_some, hds, hsl, undef]
        rfl
      · cases hs
    · cases hs

theorem sound_step (hP : Prem P A) (R : Rel A N bx env a h fr w0 w) {i : Nat} {o : Oper} (hi : ops[i]? = some o) {K : Env → Hp → Prop} (hk : stepD A P N ops o env h K) :
    OpGo P ops i a w (St A N fr w0 K) := by
  obtain ⟨hdo, g, hg, h1, h2⟩ := stepD_gate hk
  have hw := gate_wanted R hg
  cases g with
  | true => exact sound_run hP R hi (dstOk_lt hdo) hw (h1 rfl)
  | false => exact opGo_skip hi hw ⟨_, _, _, R.put hP.good (dstOk_lt hdo) (ev := .val undef) rfl, h2 rfl⟩
end
end Go.Eng
