/- Code: soundness; a function's contract out of its code. -/
import Derived.Test.YtmkgcdgpokidjaaGreatEP
set_option linter.unusedVariables false
namespace Go.Eng
section
variable {A : Ann} {P : Program} {N : Nat} {fr : Hp} {w0 : World}

/-- What holds where code ends. -/
def post (A : Ann) (N : Nat) (fr : Hp) (w0 : World) (C : Ct) : Exit → Act → World → Prop
  | .normal, a, w => St A N fr w0 C.n a w
  | .exit id, a, w => St A N fr w0 (C.x id) a w
  | .ret, a, w => St A N fr w0 (C.r none) a w
  | .panic ch, a, w => ∃ v, ch = [{ v, recovered := false }] ∧ St A N fr w0 (C.r (some v)) a w
  | _, _, _ => False

theorem getJ_look : ∀ {js : JS} {env : Env} {x : JT js}, getJ js env = some x → ∀ s e, lookJ js x s = some e → env s = e := by
  intro js
  have g1 : ∀ {b : Bool} {c : Cdc} {ev : EV} {x : c.T}, get1 b c ev = some x → ev = ev1 b c x := by
    intro b c ev x h
    cases ev with
    | val v => cases b with
      | true => cases h
      | false => simp only [get1] at h; simp [ev1, c.law _ _ h]
    | box cs => cases b with
      | false => cases h
      | true =>
        simp only [get1, decB] at h
        cases hg : c.agg with
        | true =>
          rw [hg] at h
          simp [ev1, c.law _ _ h, Value.cells]
        | false =>
          rw [hg] at h
          dsimp only at h
          split at h
          · rename_i v
            cases ho : isOne v with
            | false => rw [ho] at h; cases h
            | true =>
              rw [ho] at h
              simp [ev1, c.law _ _ h, cells_one ho]
          · cases h
    | ref o => cases h
    | unk => cases h
  match js with
  | [] => intro env x _ s e h; cases h
  | [(t, b, c)] =>
    intro env x h s e hl
    simp only [lookJ] at hl
    simp only [getJ] at h
    cases hb : Nat.beq s t with
    | false => rw [hb] at hl; cases hl
    | true =>
      rw [hb] at hl
      simp only [cond_true, Option.some.injEq] at hl
      rw [beqT.1 hb, g1 h, hl]
  | (t, b, c) :: y :: l =>
    intro env x h s e hl
    simp only [getJ] at h
    split at h
    · rename_i z hz
      split at h
      · rename_i r hr
        cases h
        simp only [lookJ] at hl
        cases hb : Nat.beq s t with
        | true =>
          rw [hb] at hl
          simp only [cond_true, Option.some.injEq] at hl
          rw [beqT.1 hb, g1 hz, hl]
        | false =>
          rw [hb] at hl
          exact getJ_look (js := y :: l) hr s e hl
      · cases h
    · cases h

theorem lookJ_noref : ∀ {js : JS} {x : JT js} {s : Nat} {e : EV}, lookJ js x s = some e → ∀ o, e ≠ .ref o := by
  intro js
  have k1 : ∀ (b : Bool) (c : Cdc) (x : c.T) (o : Nat), ev1 b c x ≠ .ref o := by intro b c x o; cases b <;> simp [ev1]
  match js with
  | [] => intro x s e h; cases h
  | [(t, b, c)] =>
    intro x s e h o
    simp only [lookJ] at h
    cases hb : Nat.beq s t with
    | false => rw [hb] at h; cases h
    | true => rw [hb] at h; simp only [cond_true, Option.some.injEq] at h; rw [← h]; exact k1 _ _ _ _
  | (t, b, c) :: y :: l =>
    intro x s e h o
    simp only [lookJ] at h
    cases hb : Nat.beq s t with
    | true => rw [hb] at h; simp only [cond_true, Option.some.injEq] at h; rw [← h]; exact k1 _ _ _ _
    | false => rw [hb] at h; exact lookJ_noref (js := y :: l) h o

theorem Rel.weaken {bx : Nat → Nat} {env env' : Env} {a : Act} {h : Hp} {w : World} (R : Rel A N bx env a h fr w0 w) (hw : ∀ s, env' s = .unk ∨ (env' s = env s ∧ ∀ o, env s ≠ .ref o)) :
    Rel A N bx env' a h fr w0 w := by
  have back : ∀ s cs, env' s = .box cs → env s = .box cs := by
    intro s cs h
    rcases hw s with e | ⟨e, _⟩
    · rw [e] at h; cases h
    · rw [← e]; exact h
  refine ⟨R.size, R.defers, R.hle, R.frle, R.dj, R.same, ?_, fun s cs h => R.prom s cs (back s cs h), fun s t cs ds h1 h2 => R.inj s t cs ds (back s cs h1) (back t ds h2)⟩
  intro s
  have hs := R.slot s
  rcases hw s with e | ⟨e, hne⟩
  · rw [e]; trivial
  · rw [e]
    cases hes : env s with
    | val v => rw [hes] at hs; exact hs
    | box cs => rw [hes] at hs; exact hs
    | ref o => exact absurd hes (hne o)
    | unk => trivial

theorem Rel.envJ {js : JS} {m : Nat} {bx : Nat → Nat} {env env' : Env} {a : Act} {h : Hp} {w : World} (R : Rel A N bx env' a h fr w0 w) (hag : Agr A m env env') {x : JT js} (hx : getJ js env' = some x) :
    Rel A N bx (envJ A js m env x) a h fr w0 w := by
  refine R.weaken fun s => ?_
  unfold Eng.envJ
  cases hl : lookJ js x s with
  | some e =>
    right
    have := getJ_look hx s e hl
    refine ⟨this.symm, fun o ho => ?_⟩
    -- what is handed on is a value or a variable
    rw [this] at ho
    exact lookJ_noref hl o ho
  | none =>
    cases hb : (m.testBit s || (A.refOf s).isSome) with
    | true => left; rfl
    | false =>
      right
      simp only [Bool.or_eq_false_iff] at hb
      have hr : A.refOf s = none := by cases hr : A.refOf s with
        | none => rfl
        | some t => rw [hr] at hb; cases hb.2
      have e := hag s hb.1 hr
      refine ⟨by simp only [cond_false]; exact e.symm, fun o ho => ?_⟩
      have hs := R.slot s
      rw [ho] at hs
      obtain ⟨t, ht, _⟩ := hs
      rw [hr] at ht; cases ht

theorem Rel.of_heap {bx : Nat → Nat} {env : Env} {a : Act} {h : Hp} {w w' : World} (R : Rel A N bx env a h fr w0 w) (hh : w'.heap = w.heap) (hs : Same w w') : Rel A N bx env a h fr w0 w' :=
  R.world (fun b o hb => by rw [hh]; exact R.hle b o hb) (fun b o hb => by rw [hh]; exact R.frle b o hb) R.dj hs (fun b _ h1 _ => ⟨by rw [hh], h1⟩)

theorem arr_of_list {ops : Array Oper} {l : List Nat} {a : Act} {w : World} {K : Act → World → Prop} {Q : Exit → Act → World → Prop} (hl : ListGo P ops l a w K) (hK : ∀ a w, K a w → Q .normal a w)
    (b : Frame) (k : List Item) (cs : List Frame) : ∃ e a' w', Q e a' w' ∧ Arrives P (lone (b.at a (.inRegion ops l :: k)) cs w) b k cs e a' w' := by
  obtain ⟨a', w', hk, hs⟩ := hl b k cs
  exact ⟨.normal, a', w', hK _ _ hk, hs⟩

theorem eqIn_iface (d : Nat) {t : TypeId} {ms : Array (String × TypeId)} (hu : P.underlying t = some (.interface ms)) (t' : TypeId) (v : Value) (w : World) : (Op.equalIn (d + 1) t (.iface t' v) .nilIface).run P w = .ok false w := by
  simp [Op.equalIn, r_under hu]
theorem eqIn_nil (d : Nat) {t : TypeId} {ms : Array (String × TypeId)} (hu : P.underlying t = some (.interface ms)) (w : World) : (Op.equalIn (d + 1) t .nilIface .nilIface).run P w = .ok true w := by
  simp [Op.equalIn, r_under hu]
theorem valX_run {bx : Nat → Nat} {env : Env} {a : Act} {h : Hp} {w1 : World} (R : Rel A N bx env a h fr w0 w1) {o : Oper} {v : Value} (hv : valX A P o env = some v) (w : World) : (execOp a.eval o).run P w = .ok (.value v) w := by
  obtain ⟨dst, op, type, pos, after, guard⟩ := o
  unfold valX at hv
  dsimp only at hv
  split at hv
  · rename_i x xt t
    split at hv
    · rename_i t' u fs hl hu
      have e := R.eval_v hl
      cases hb : Nat.beq t' t with
      | true =>
        rw [hb] at hv
        simp only [cond_true, Option.some.injEq] at hv
        subst hv
        have : t' = t := beqT.1 hb
        subst this
        simp [execOp, e, Instr.typeAssert, r_under hu]
      | false =>
        rw [hb] at hv
        simp only [cond_false] at hv
        split at hv
        · rename_i z hz
          simp only [Option.some.injEq] at hv
          subst hv
          have : t' ≠ t := beqF.1 hb
          simp [execOp, e, Instr.typeAssert, r_under hu, this, r_zero hz]
        · cases hv
    · cases hv
  · rename_i t x ty
    split at hv
    · rename_i t' u ms hl hu
      have e := R.eval_v hl
      simp only [Option.some.injEq] at hv
      subst hv
      have hq := eqIn_iface (P := P) 9999 hu t' u w
      simp only [execOp, e, show a.eval (.const .nilIface) = Value.nilIface from rfl, Sem.run_bind, eqGuard, binOp, Op.equal, Op.maxDepth]
      simp [hq]
    · rename_i ms hl hu
      have e := R.eval_v hl
      simp only [Option.some.injEq] at hv
      subst hv
      have hq := eqIn_nil (P := P) 9999 hu w
      simp only [execOp, e, show a.eval (.const .nilIface) = Value.nilIface from rfl, Sem.run_bind, eqGuard, binOp, Op.equal, Op.maxDepth]
      simp [hq]
    · cases hv
  · rename_i c
    obtain ⟨callee, args, ats⟩ := c
    dsimp only at hv
    split at hv
    · rename_i t p len n ht hl
      split at hv
      · rename_i e hu
        simp only [Option.some.injEq] at hv
        subst hv
        have hargs : args.map a.eval = #[.slice p len n] := Array.ext' (by simpa using vals_eval R hl)
        simp [execOp, resolve, invoke, builtin, hargs, Builtin.cap_, ht, r_under hu, goInt]
      · cases hv
    · cases hv
  · cases hv

theorem sound_opsX (hP : Prem P A) {ops : Array Oper} : ∀ (l : List Nat) {bx : Nat → Nat} {env : Env} {a : Act} {h : Hp} {w : World} {K : Env → Hp → Prop} {S : Value → Env → Hp → Prop}, Rel A N bx env a h fr w0 w → opsX A P N ops l env h K S →
    ∀ (b : Frame) (k : List Item) (cs : List Frame), ∃ e a' w', ((e = Exit.normal ∧ St A N fr w0 K a' w') ∨ ∃ v, e = .panic [{ v, recovered := false }] ∧ St A N fr w0 (S v) a' w') ∧
      Arrives P (lone (b.at a (.inRegion ops l :: k)) cs w) b k cs e a' w' := by
  intro l
  induction l with
  | nil => intro bx env a h w K S R hk b k cs; exact ⟨.normal, a, w, .inl ⟨rfl, _, _, _, R, hk⟩, .one step_region_end⟩
  | cons i l ih =>
    intro bx env a h w K S R hk b k cs
    unfold opsX at hk
    split at hk
    · rename_i o ho
      unfold stepX at hk
      cases hx : isX A P o with
      | false =>
        rw [hx] at hk
        obtain ⟨a', w', ⟨bx', env', h', R', hk'⟩, hs⟩ := sound_step hP R ho hk b l k cs
        obtain ⟨e, a2, w2, hq, harr⟩ := ih R' hk' b k cs
        exact ⟨e, a2, w2, hq, .of_steps hs harr⟩
      | true =>
      rw [hx] at hk
      simp only [cond_true] at hk
      have hg := isX_guard hx
      have hw := gate_wanted (ops := ops) R (Gate.free hg)
      have hsg := stepG_op (P := P) (b := b) (k := k) (cs := cs) (w := w) (rest := l) ho hw
      have hfin : ∀ v, (b.at a (.inRegion ops (i :: l) :: k)).finish v = b.at (a.put o.dst v) (.inRegion ops l :: k) := by
        intro v; rw [Frame.finish_at, ho]; rfl
      rcases panX_cases hk with ⟨hd, v, hv, hk'⟩ | ⟨hv, ⟨x, t, v, hop, hl, hS⟩ | ⟨c, hop, hd, ⟨g, l', r, fn, bd, hcal, hl, hr, hfn, hb, hc⟩ | ⟨t, u, p, len, cap, kk, n, e, k', cd, zv, z, hcal, ht, hu, hl, ht', hu', hcd, hzv, hf, hb, hz, hgr⟩⟩⟩
      · obtain ⟨a', w', ⟨bx', env', h', R', hk2⟩, hs⟩ := opGo_did (a' := a.put o.dst v) (K := St A N fr w0 fun e h => opsX A P N ops l e h K S) ho hw (.inl ⟨v, valX_run R hv w, rfl⟩) ⟨_, _, _, R.put hP.good (dstOk_lt hd) (ev := .val v) rfl, hk'⟩ b l k cs
        obtain ⟨e, a2, w2, hq, harr⟩ := ih R' hk2 b k cs
        exact ⟨e, a2, w2, hq, .of_steps hs harr⟩
      · have hrun : (execOp a.eval o).run P w = .halt (.panic (.iface t v)) w := by
          obtain ⟨dst, op, type, pos, after, guard⟩ := o
          cases hop
          simp only [execOp, R.eval_v hl]
          rfl
        refine ⟨.panic [{ v := .iface t v, recovered := false }], a, w, .inr ⟨_, rfl, _, _, _, R, hS⟩, .inRegion ops (i :: l) :: k, .one (step_lone_go ?_)⟩
        rw [hsg, ← Frame.raise_at]; simp [stepG.apply, hrun]
      · have hrun : (execOp a.eval o).run P w = .ok (.enter g l'.toArray) w := by
          obtain ⟨dst, op, type, pos, after, guard⟩ := o
          cases hop
          obtain ⟨callee, args, ats⟩ := c
          cases hcal
          have hargs : args.map a.eval = l'.toArray := Array.ext' (by simpa using vals_eval R hl)
          have hng := hP.noNG g fn hfn
          simp only [execOp, resolve, Deferred.ofValue, Act.eval, hargs, Sem.run_bind, Sem.run_pure, Result.andThen_ok, invoke, callFunc, run_program, hfn, hng, Bool.false_eq_true, if_false, hb, Option.isNone_some]
          congr 2
          simp
        obtain ⟨e, w'', fr', ⟨v, h', he, hle', hfr, hdj, sm⟩, hsteps, _, hleave⟩ := hc w ((boxes bx env w).un fr) R.hle (Hp.un_le R.boxes_le R.frle) (Hp.dj_un R.boxes_dj R.dj) (b.at a (.inRegion ops (i :: l) :: k) :: cs)
        have R' := R.called hle' hfr hdj sm
        have henter : step P (lone (b.at a (.inRegion ops (i :: l) :: k)) cs w) =
            .next (lone (Frame.enter P g l'.toArray .normal) (b.at a (.inRegion ops (i :: l) :: k) :: cs) w) :=
          step_lone_go (by rw [hsg]; simp [stepG.apply, hrun, Frame.at])
        rcases he with ⟨rfl, x, rfl, hk'⟩ | ⟨rfl, hS⟩
        · obtain ⟨e, a2, w2, hq, harr⟩ := ih (R'.put hP.good (dstOk_lt hd) (ev := .val (r.enc x)) rfl) hk' b k cs
          refine ⟨e, a2, w2, hq, .of_steps (.head henter (Steps.trans hsteps (.one ?_))) harr⟩
          rw [← hfin]; exact step_leave_returned hleave
        · refine ⟨.panic [{ v, recovered := false }], a, w'', .inr ⟨v, rfl, _, _, _, R', hS⟩, .inRegion ops (i :: l) :: k, .head henter (Steps.trans hsteps (.one ?_))⟩
          rw [← Frame.raise_at]; exact step_leave_panicked hleave
      · obtain ⟨p', l2, c', h', w', hk', hr, hs⟩ := grow_run (ty := o.type) (j := kk) ht hu ht' hu' hf rfl hb.1 hb.2 hzv (cd.law _ _ hz).symm R.hle R.frle R.dj hgr
        have hrun : (execOp a.eval o).run P w = .ok (.value (.slice p' l2 c')) w' := by
          obtain ⟨dst, op, type, pos, after, guard⟩ := o
          cases hop
          obtain ⟨callee, args, ats⟩ := c
          cases hcal
          have hargs : args.map a.eval = #[.slice p len cap, .int kk n] := Array.ext' (by simpa using vals_eval R hl)
          simp only [execOp, resolve, Sem.run_bind, Sem.run_pure, Result.andThen_ok, invoke, builtin, hargs]
          rw [hr]; rfl
        have R' := R.world hs.hle hs.frle hs.dj hs.same hs.keep
        obtain ⟨a', w2, ⟨bx', env', h2, R2, hk2⟩, hst⟩ := opGo_did (a' := a.put o.dst (.slice p' l2 c')) (w' := w') (K := St A N fr w0 fun e h => opsX A P N ops l e h K S) ho hw (.inl ⟨_, hrun, rfl⟩) ⟨_, _, _, R'.put hP.good (dstOk_lt hd) (ev := .val _) rfl, hk'⟩ b l k cs
        obtain ⟨e, a3, w3, hq, harr⟩ := ih R2 hk2 b k cs
        exact ⟨e, a3, w3, hq, .of_steps hst harr⟩
    · exact hk.elim

theorem codeD_sound (hP : Prem P A) (hmix : P.follows .mixedOrders = true) : ∀ (c : Code) (an : An) (bx : Nat → Nat) (env : Env) (a : Act) (h : Hp) (w : World) (C : Ct),
    Rel A N bx env a h fr w0 w → codeD A P N c an env h C → c.wp P (post A N fr w0 C) a w := by
  intro c
  induction c with
  | skip => intro an bx env a h w C R hk; exact wp_skip ⟨_, _, _, R, hk⟩
  | label l => intro an bx env a h w C R hk; exact wp_label ⟨_, _, _, R, hk⟩
  | region id ops draw =>
    intro an bx env a h w C R hk
    cases an <;> try exact hk.elim
    · rename_i seq
      cases draw with
      | false =>
        simp only [codeD] at hk
        have := sound_ops (N := N) hP (rangeSeq ops.size) R hk
        rw [show (rangeSeq ops.size).map Prod.fst = List.range ops.size by simp [rangeSeq, Function.comp_def]] at this
        intro b k cs
        obtain ⟨e, a', w', hq, ha⟩ := arr_of_list (Q := post A N fr w0 C) this (fun a w hk => hk) b k cs
        exact ⟨e, a', w', hq, .of_steps (.one step_region) ha⟩
      | true =>
        simp only [codeD] at hk
        cases hc : canonOk A P ops seq with
        | false => rw [hc] at hk; exact hk.elim
        | true =>
          rw [hc] at hk
          intro b k cs
          have R' : Rel A N bx env a h fr w0 { w with drawn := w.drawn + 1 } := R.of_heap rfl ⟨rfl, rfl, rfl⟩
          have := sound_draw (N := N) hP hc R' hk (w.tape w.drawn (.order b.fn id))
          obtain ⟨e, a', w', hq, ha⟩ := arr_of_list (Q := post A N fr w0 C) this (fun a w hk => hk) b k cs
          refine ⟨e, a', w', hq, .of_steps (.one step_region_draw) ?_⟩
          simp only [Region.schedule, hmix, Bool.true_or, if_true]
          exact ha
    · cases draw with
      | true => exact hk.elim
      | false =>
        simp only [codeD] at hk
        intro b k cs
        obtain ⟨e, a', w', hq, ha⟩ := sound_opsX (N := N) hP (List.range ops.size) R hk b k cs
        refine ⟨e, a', w', ?_, .of_steps (.one step_region) ha⟩
        rcases hq with ⟨rfl, hq⟩ | ⟨v, rfl, hq⟩
        · exact hq
        · exact ⟨v, rfl, hq⟩
  | seq x y ihx ihy =>
    intro an bx env a h w C R hk
    cases an <;> try exact hk.elim
    · rename_i a' b'
      simp only [codeD] at hk
      refine wp_seq (wp_mono (ihx a' bx env a h w _ R hk) ?_)
      intro e a2 w2 hq
      cases e with
      | normal => obtain ⟨bx', env', h', R', hk'⟩ := hq; exact ihy b' bx' env' a2 h' w2 C R' hk'
      | exit id => exact hq
      | ret => exact hq
      | goto l => exact hq.elim
      | panic c => exact hq
      | outgrown => exact hq.elim
    · rename_i js m a' b'
      simp only [codeD] at hk
      cases hc : (subM (modsD A x a') m && subM (jsMask js) m) with
      | false => rw [hc] at hk; exact hk.elim
      | true =>
        rw [hc] at hk
        simp only [cond_true, joinP] at hk
        simp only [Bool.and_eq_true] at hc
        refine wp_seq (wp_mono (ihx a' bx env a h w _ R (codeD_agr x a' env h _ hk)) ?_)
        intro e a2 w2 hq
        cases e with
        | normal =>
          obtain ⟨bx', env', h', R', hag, hk'⟩ := hq
          dsimp only [Ct.agr] at hk'
          unfold toJ at hk'
          split at hk'
          · rename_i z hz
            exact ihy b' bx' _ a2 h' w2 C (R'.envJ (hag.mono (subM_spec hc.1)) hz) hk'
          · exact hk'.elim
        | exit id => obtain ⟨bx', env', h', R', hag, hk'⟩ := hq; exact ⟨bx', env', h', R', hk'⟩
        | ret => exact hq
        | goto l => exact hq.elim
        | panic c => exact hq
        | outgrown => exact hq.elim
  | cond o x y ihx ihy =>
    intro an bx env a h w C R hk
    cases an <;> try exact hk.elim
    rename_i a' b'
    simp only [codeD] at hk
    split at hk
    · rename_i t ht
      cases t
      · exact wp_cond (t := false) (R.eval_v ht) (ihy b' bx env a h w C R hk)
      · exact wp_cond (t := true) (R.eval_v ht) (ihx a' bx env a h w C R hk)
    · exact hk.elim
  | block id c ih =>
    intro an bx env a h w C R hk
    cases an <;> try exact hk.elim
    · rename_i a'
      simp only [codeD] at hk
      refine wp_block (wp_mono (ih a' bx env a h w _ R hk) ?_)
      intro e a2 w2 hq
      cases e with
      | normal => exact hq
      | exit k =>
        simp only [post] at hq
        unfold Exit.inBlock
        dsimp only
        by_cases e : k = id
        · subst e
          rw [if_pos rfl]
          rw [beqT.2 rfl] at hq; exact hq
        · rw [if_neg e]
          rw [beqF.2 e] at hq; exact hq
      | ret => exact hq
      | goto l => exact hq.elim
      | panic c => exact hq
      | outgrown => exact hq.elim
    · rename_i js m a'
      simp only [codeD] at hk
      cases hc : (subM (modsD A c a') m && subM (jsMask js) m) with
      | false => rw [hc] at hk; exact hk.elim
      | true =>
        rw [hc] at hk
        simp only [cond_true, joinP] at hk
        simp only [Bool.and_eq_true] at hc
        have fin : ∀ {bx' : Nat → Nat} {env' : Env} {a2 : Act} {h' : Hp} {w2 : World}, Rel A N bx' env' a2 h' fr w0 w2 → Agr A (modsD A c a') env env' → toJ js env' h' (fun x h => C.n (Eng.envJ A js m env x) h) → St A N fr w0 C.n a2 w2 := by
          intro bx' env' a2 h' w2 R' hag hk'
          unfold toJ at hk'
          split at hk'
          · rename_i z hz
            exact ⟨_, _, _, R'.envJ (hag.mono (subM_spec hc.1)) hz, hk'⟩
          · exact hk'.elim
        refine wp_block (wp_mono (ih a' bx env a h w _ R (codeD_agr c a' env h _ hk)) ?_)
        intro e a2 w2 hq
        cases e with
        | normal => obtain ⟨bx', env', h', R', hag, hk'⟩ := hq; exact fin R' hag hk'
        | exit k =>
          obtain ⟨bx', env', h', R', hag, hk'⟩ := hq
          dsimp only [Ct.agr] at hk'
          unfold Exit.inBlock
          dsimp only
          by_cases e : k = id
          · subst e
            rw [if_pos rfl]
            rw [beqT.2 rfl] at hk'
            exact fin R' hag hk'
          · rw [if_neg e]
            rw [beqF.2 e] at hk'; exact ⟨bx', env', h', R', hk'⟩
        | ret => exact hq
        | goto l => exact hq.elim
        | panic c => exact hq
        | outgrown => exact hq.elim
  | loop c ih =>
    intro an bx env a h w C R hk
    cases an <;> try exact hk.elim
    rename_i js m a'
    simp only [codeD] at hk
    cases hc : (subM (modsD A c a') m && subM (jsMask js) m) with
    | false => rw [hc] at hk; exact hk.elim
    | true =>
      rw [hc] at hk
      simp only [cond_true] at hk
      simp only [Bool.and_eq_true] at hc
      split at hk
      · rename_i x0 hx0
        obtain ⟨I, μ, h0, hr⟩ := hk
        -- the measure, on the machine's side: out of a choice
        let Inv : Nat → Act → World → Prop := fun n a w => ∃ bx' x h', Rel A N bx' (Eng.envJ A js m env x) a h' fr w0 w ∧ I x h' ∧ μ x h' = n
        have round : ∀ n, ∀ a w, Inv n a w → c.wp P (Exit.then (fun a' w' => ∃ n', n' < n ∧ Inv n' a' w') (post A N fr w0 C)) a w := by
          rintro n a w ⟨bx', x, h', R', hI, rfl⟩
          refine wp_mono (ih a' bx' _ a h' w _ R' (codeD_agr c a' _ h' _ (hr x h' hI))) ?_
          intro e a2 w2 hq
          cases e with
          | normal =>
            obtain ⟨bx2, env2, h2, R2, hag, hk2⟩ := hq
            dsimp only [Ct.agr] at hk2
            unfold toJ at hk2
            split at hk2
            · rename_i x2 hx2
              have hag2 : Agr A m env env2 := ((agr_envJ hc.2).trans (hag.mono (subM_spec hc.1))).mono fun s hs => by
                rw [Nat.testBit_or, Bool.or_self] at hs; exact hs
              exact ⟨_, hk2.2, bx2, x2, h2, R2.envJ hag2 hx2, hk2.1, rfl⟩
            · exact hk2.elim
          | exit id => obtain ⟨bx2, env2, h2, R2, hag, hk2⟩ := hq; exact ⟨bx2, env2, h2, R2, hk2⟩
          | ret => exact hq
          | goto l => exact hq.elim
          | panic c => exact hq
          | outgrown => exact hq.elim
        -- the loop by strong induction
        intro b k cs
        have key : ∀ n a w, Inv n a w → ∃ e a' w', post A N fr w0 C e a' w' ∧ Arrives P (lone (b.at a (.code c :: .inLoop c :: k)) cs w) b k cs e a' w' := by
          intro n
          induction n using Nat.strongRecOn with
          | _ n ihn =>
            intro a w hI
            obtain ⟨e, a₁, w₁, hq, harr⟩ := round n a w hI b (.inLoop c :: k) cs
            cases e with
            | normal =>
              obtain ⟨n', hlt, hI'⟩ := hq
              obtain ⟨e₂, a₂, w₂, hq₂, harr₂⟩ := ihn n' hlt a₁ w₁ hI'
              exact ⟨e₂, a₂, w₂, hq₂, .of_steps (Steps.trans harr (.one step_inLoop)) harr₂⟩
            | exit id => exact ⟨.exit id, a₁, w₁, hq, .pass (x := .inLoop c) rfl (fun _ _ => .inl (by simp)) harr⟩
            | ret => exact ⟨.ret, a₁, w₁, hq, .pass (x := .inLoop c) rfl (fun _ _ => .inl (by simp)) harr⟩
            | goto l => exact hq.elim
            | panic ch => exact ⟨.panic ch, a₁, w₁, hq, .pass (x := .inLoop c) rfl (fun _ _ => .inl (by simp)) harr⟩
            | outgrown => exact hq.elim
        obtain ⟨e, a', w', hq, harr⟩ := key _ a w ⟨bx, x0, h, R.envJ (Agr.refl m env) hx0, h0, rfl⟩
        exact ⟨e, a', w', hq, .of_steps (.one step_loop) harr⟩
      · exact hk.elim
  | exit id => intro an bx env a h w C R hk; exact wp_exit ⟨_, _, _, R, hk⟩
  | ret => intro an bx env a h w C R hk; exact wp_ret ⟨_, _, _, R, hk⟩
  | scope c ih => intro an bx env a h w C R hk; exact hk.elim
  | goto l => intro an bx env a h w C R hk; exact hk.elim
  | refuse s => intro an bx env a h w C R hk; exact hk.elim
  | rangeFunc f p x y => intro an bx env a h w C R hk; exact hk.elim

/-- What a function hands back. -/
def resD (A : Ann) (P : Program) : List ResultVar → Env → Hp → (List Value → Prop) → Prop
  | [], _, _, k => k []
  | .tmp t :: l, env, h, k => match env t with
    | .val v => resD A P l env h fun vs => k (v :: vs)
    | _ => False
  | .cell t ty :: l, env, h, k => match env t with
    | .box cs => match sizeT P ty with
      | some n => getSl (isAggT P ty) n cs 0 fun e => match e with
        | .val v => resD A P l env h fun vs => k (v :: vs)
        | _ => False
      | none => False
    | .val (.pointer (some a)) => match A.cdc ty with
      | some c => bif fitsT P c ty then loadP c a h fun x => resD A P l env h fun vs => k (c.enc x :: vs) else False
      | none => False
    | _ => False
def oneOrAll : List Value → Value
  | [v] => v
  | vs => .tuple vs.toArray
def retD (A : Ann) (P : Program) (fn : Func) (rc : Cdc) (Q : rc.T → Hp → Prop) (env : Env) (h : Hp) : Prop :=
  resD A P fn.results.toList env h fun vs => match rc.dec (oneOrAll vs) with
    | some r => Q r h
    | none => False
def env0 (args : List Value) : Env := fun s => match args[s]? with
  | some v => .val v
  | none => .unk

def retO (R : Env → Hp → Prop) (S : Value → Env → Hp → Prop) : Option Value → Env → Hp → Prop
  | none => R
  | some v => S v
def fnD (A : Ann) (P : Program) (f : FuncId) (an : An) (rc : Cdc) (args : List Value) (h : Hp) (Q : rc.T → Hp → Prop) : Prop :=
  match A.defs, P.funcs[f]? with
  | [], some fn => match fn.body with
    | some c => bif Nat.ble args.length fn.ntmps then
        codeD A P fn.ntmps c an (env0 args) h { n := retD A P fn rc Q, x := fun _ _ _ => False, r := retO (retD A P fn rc Q) fun _ _ _ => False }
      else False
    | none => False
  | _, _ => False
/-- A function that may panic: what it hands back, what it panics with. -/
def fnX (A : Ann) (P : Program) (f : FuncId) (an : An) (rc : Cdc) (args : List Value) (h : Hp) (Q : rc.T → Hp → Prop) (S : Value → Hp → Prop) : Prop :=
  match A.defs, P.funcs[f]? with
  | [], some fn => match fn.body with
    | some c => bif Nat.ble args.length fn.ntmps then
        codeD A P fn.ntmps c an (env0 args) h { n := retD A P fn rc Q, x := fun _ _ _ => False, r := retO (retD A P fn rc Q) fun v _ h => S v h }
      else False
    | none => False
  | _, _ => False

theorem resD_run (hP : Prem P A) {bx : Nat → Nat} {env : Env} {a : Act} {h : Hp} {w : World} (R : Rel A N bx env a h fr w0 w) : ∀ (l : List ResultVar) (k : List Value → Prop), resD A P l env h k →
    ∃ vs, k vs ∧ (l.mapM (fun | .tmp t => pure (a.tmps.getD t undef) | .cell c t => do loadVar t (← asAddr (a.tmps.getD c undef)) : ResultVar → Sem Value)).run P w = .ok vs w := by
  intro l
  induction l with
  | nil => intro k hk; exact ⟨[], hk, rfl⟩
  | cons r l ih =>
    intro k hk
    cases r with
    | tmp t =>
      simp only [resD] at hk
      split at hk
      · rename_i v hv
        obtain ⟨vs, h1, h2⟩ := ih _ hk
        have hs := R.slot t
        rw [hv] at hs
        simp only [slotOk] at hs
        refine ⟨v :: vs, h1, ?_⟩
        simp only [List.mapM_cons, Sem.run_bind, Sem.run_pure, Result.andThen_ok, h2]
        simp [hs]
      · exact hk.elim
    | cell t ty =>
      simp only [resD] at hk
      split at hk
      · rename_i cs hv
        have hs := R.slot t
        rw [hv] at hs
        obtain ⟨ht, ⟨e, hb⟩, _, _⟩ := hs
        split at hk
        · rename_i n hn
          obtain ⟨d, hd⟩ := hP.formed _ _ hn
          have fin : ∀ v, (loadVar ty ⟨bx t, 0, none⟩).run P w = .ok v w → resD A P l env h (fun vs => k (v :: vs)) →
              ∃ vs, k vs ∧ ((ResultVar.cell t ty :: l).mapM (fun | .tmp t => pure (a.tmps.getD t undef) | .cell c t => do loadVar t (← asAddr (a.tmps.getD c undef)) : ResultVar → Sem Value)).run P w = .ok vs w := by
            intro v hv hk
            obtain ⟨vs, h1, h2⟩ := ih _ hk
            refine ⟨v :: vs, h1, ?_⟩
            have : a.tmps.getD t undef = .pointer (some ⟨bx t, 0, none⟩) := by simp [ht]
            rw [List.mapM_cons]
            dsimp only
            rw [Sem.run_bind, Sem.run_bind, this]
            rw [show (asAddr (Value.pointer (some ⟨bx t, 0, none⟩))) = pure ⟨bx t, 0, none⟩ from rfl]
            simp only [Sem.run_pure, Result.andThen_ok, hv, Sem.run_bind, h2]
          unfold getSl at hk
          cases hg : isAggT P ty with
          | true =>
            rw [hg] at hk
            dsimp only at hk
            cases hl : Nat.ble (0 + n) cs.length with
            | false => rw [hl] at hk; exact hk.elim
            | true =>
              rw [hl] at hk
              have hl := Nat.le_of_ble_eq_true hl
              have := r_loadVar (P := P) (w := w) hn ⟨d, hd⟩ (cs := (cs.drop 0).take n) (by simp; omega) (cells_rd (off := 0) hb hl) (by rw [hg]; simp)
              rw [hg] at this
              exact fin _ this hk
          | false =>
            rw [hg] at hk
            dsimp only at hk
            split at hk
            · rename_i v hv'
              refine fin v ?_ hk
              unfold loadVar
              simp only [Sem.run_bind, r_isAgg hd, hg, Result.andThen_ok, Bool.false_eq_true, if_false]
              rw [run_load, cell_of_block hb, show cs.toArray[0]? = some v by simpa using hv']
            · exact hk.elim
        · exact hk.elim
      · rename_i ad hv
        have hs := R.slot t
        rw [hv] at hs
        simp only [slotOk] at hs
        split at hk
        · rename_i c hc
          cases hf : fitsT P c ty with
          | false => rw [hf] at hk; exact hk.elim
          | true =>
            rw [hf] at hk
            obtain ⟨y, hy, hk⟩ := hk
            obtain ⟨vs, h1, h2⟩ := ih _ hk
            refine ⟨c.enc y :: vs, h1, ?_⟩
            have : a.tmps.getD t undef = .pointer (some ad) := by simp [hs]
            rw [List.mapM_cons]
            dsimp only
            rw [Sem.run_bind, Sem.run_bind, this]
            rw [show (asAddr (Value.pointer (some ad))) = pure ad from rfl]
            simp only [Sem.run_pure, Result.andThen_ok, load_enc hP hf (rds_w R.hle hy), Sem.run_bind, h2]
        · exact hk.elim
      · exact hk.elim

theorem results_run (hP : Prem P A) {fn : Func} {rc : Cdc} {Q : rc.T → Hp → Prop} {bx : Nat → Nat} {env : Env} {a : Act} {h : Hp} {w : World} (R : Rel A N bx env a h fr w0 w) (hk : retD A P fn rc Q env h) :
    ∃ r, (results fn a.tmps).run P w = .ok (rc.enc r) w ∧ Q r h := by
  obtain ⟨vs, hq, hr⟩ := resD_run hP R _ _ hk
  split at hq
  · rename_i r hdec
    refine ⟨r, ?_, hq⟩
    rw [rc.law _ _ hdec]
    have hm : (fn.results.mapM (fun | .tmp t => pure (a.tmps.getD t undef) | .cell c t => do loadVar t (← asAddr (a.tmps.getD c undef)) : ResultVar → Sem Value)).run P w = .ok vs.toArray w := by
      have : fn.results = fn.results.toList.toArray := by simp
      rw [this, List.mapM_toArray, Sem.run_map, hr]; rfl
    unfold results
    rw [Sem.run_bind]
    have hm' : ∀ f : ResultVar → Sem Value, f = (fun | .tmp t => pure (a.tmps.getD t undef) | .cell c t => do loadVar t (← asAddr (a.tmps.getD c undef)) : ResultVar → Sem Value) → (fn.results.mapM f).run P w = .ok vs.toArray w := fun f hf => hf ▸ hm
    rw [hm' _ (by funext x; cases x <;> rfl)]
    simp only [Result.andThen_ok, Sem.run_pure]
    congr 1
    have hone : ∀ vs : List Value, (if h : vs.toArray.size = 1 then vs.toArray[0] else Value.tuple vs.toArray) = oneOrAll vs := by
      intro vs
      rcases vs with _ | ⟨v, _ | ⟨u, l⟩⟩ <;> simp [oneOrAll]
    exact hone vs
  · exact hq.elim

theorem rel_start {N : Nat} {args : List Value} (hb : args.length ≤ N) (hdf : A.defs = []) {h fr : Hp} {w : World} (hle : h.le w) (frle : fr.le w) (dj : h.dj fr) :
    Rel A N (fun _ => 0) (env0 args) { tmps := args.toArray ++ Array.replicate (N - args.toArray.size) undef, defers := [] } h fr w w := by
  refine ⟨by simp; omega, hdf.symm, hle, frle, dj, Same.refl w, ?_, ?_, ?_⟩
  · intro s
    unfold env0
    cases hs : args[s]? with
    | none => trivial
    | some v =>
      have := (List.getElem?_eq_some_iff.1 hs).1
      simp only [slotOk]
      rw [Array.getElem?_append_left (by simpa using this)]
      simpa using hs
  · intro s cs hs
    unfold env0 at hs
    split at hs <;> cases hs
  · intro s t cs ds hs
    unfold env0 at hs
    split at hs <;> cases hs

/-- A FUNCTION's CONTRACT, OUT OF ITS CODE. -/
theorem spec_of (hP : Prem P A) (hmix : P.follows .mixedOrders = true) {f : FuncId} {an : An} {rc : Cdc} {args : List Value} {h : Hp} {Q : rc.T → Hp → Prop} (hk : fnD A P f an rc args h Q) :
    Spec P f args.toArray h fun v h' => ∃ r, v = rc.enc r ∧ Q r h' := by
  unfold fnD at hk
  split at hk
  · rename_i fn hdf hfn
    split at hk
    · rename_i c hc
      cases hb : Nat.ble args.length fn.ntmps with
      | false => rw [hb] at hk; exact hk.elim
      | true =>
        rw [hb] at hk
        have hb := Nat.le_of_ble_eq_true hb
        intro w fr hle frle dj
        have R := rel_start (A := A) hb hdf hle frle dj
        refine calls_of_wp hfn hc (wp_mono (codeD_sound hP hmix c an _ _ _ h w _ R hk) ?_)
        intro e a' w' hq
        cases e with
        | normal =>
          obtain ⟨bx, env, h', R', hr⟩ := hq
          obtain ⟨r, h1, h2⟩ := results_run hP R' hr
          exact ⟨R'.defers.trans hdf, _, h1, _, h', rfl, ⟨r, rfl, h2⟩, R'.hle, R'.frle, R'.dj, R'.same⟩
        | ret =>
          obtain ⟨bx, env, h', R', hr⟩ := hq
          obtain ⟨r, h1, h2⟩ := results_run hP R' hr
          exact ⟨R'.defers.trans hdf, _, h1, _, h', rfl, ⟨r, rfl, h2⟩, R'.hle, R'.frle, R'.dj, R'.same⟩
        | exit id => obtain ⟨_, _, _, _, hf⟩ := hq; exact hf.elim
        | goto l => exact hq.elim
        | panic c => obtain ⟨_, _, _, _, _, _, hf⟩ := hq; exact hf.elim
        | outgrown => exact hq.elim
    · exact hk.elim
  · exact hk.elim
/-- A contract of a function that may panic. -/
theorem specX_of (hP : Prem P A) (hmix : P.follows .mixedOrders = true) {f : FuncId} {an : An} {rc : Cdc} {args : List Value} {h : Hp} {Q : rc.T → Hp → Prop} {S : Value → Hp → Prop} (hk : fnX A P f an rc args h Q S) :
    callXP P f args rc h Q S := by
  unfold fnX at hk
  split at hk
  · rename_i fn hdf hfn
    split at hk
    · rename_i c hc
      cases hb : Nat.ble args.length fn.ntmps with
      | false => rw [hb] at hk; exact hk.elim
      | true =>
        rw [hb] at hk
        have hb := Nat.le_of_ble_eq_true hb
        intro w fr hle frle dj
        have R := rel_start (A := A) hb hdf hle frle dj
        refine calls_of_wp hfn hc (wp_mono (codeD_sound hP hmix c an _ _ _ h w _ R hk) ?_)
        intro e a' w' hq
        cases e with
        | normal =>
          obtain ⟨bx, env, h', R', hr⟩ := hq
          obtain ⟨r, h1, h2⟩ := results_run hP R' hr
          exact ⟨R'.defers.trans hdf, _, h1, _, h', .inl ⟨rfl, r, rfl, h2⟩, R'.hle, R'.frle, R'.dj, R'.same⟩
        | ret =>
          obtain ⟨bx, env, h', R', hr⟩ := hq
          obtain ⟨r, h1, h2⟩ := results_run hP R' hr
          exact ⟨R'.defers.trans hdf, _, h1, _, h', .inl ⟨rfl, r, rfl, h2⟩, R'.hle, R'.frle, R'.dj, R'.same⟩
        | exit id => obtain ⟨_, _, _, _, hf⟩ := hq; exact hf.elim
        | goto l => exact hq.elim
        | panic c =>
          obtain ⟨v, rfl, bx, env, h', R', hr⟩ := hq
          exact ⟨R'.defers.trans hdf, _, h', .inr ⟨rfl, hr⟩, R'.hle, R'.frle, R'.dj, R'.same⟩
        | outgrown => exact hq.elim
    · exact hk.elim
  · exact hk.elim
end
end Go.Eng
