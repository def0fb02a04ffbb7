/- A function that defers one closure, which may recover: its contract out of its code; the closure's, out of its own. -/
import Derived.Test.YtmkgcdgpokidjaaGreatEQ
set_option linter.unusedVariables false
namespace Go.Eng
section
variable {A : Ann} {P : Program} {N : Nat} {fr : Hp} {w0 : World}

/-- What the deferred closure leaves, then what is handed back. -/
def leaveO (A : Ann) (P : Program) (fn : Func) (rc : Cdc) (Q : rc.T → Hp → Prop) (g : FuncId) (args : List Value) : Option Value → Env → Hp → Prop :=
  fun o env h => deferP P g args o h fun h' => retD A P fn rc Q env h'
def withDef (A : Ann) (d : Deferred) : Ann := { A with defs := [d] }
/-- A function: new variables, a closure that is deferred, the rest. -/
def fnDD (A : Ann) (P : Program) (f : FuncId) (an : An) (rc : Cdc) (args : List Value) (h : Hp) (Q : rc.T → Hp → Prop) : Prop :=
  match A.defs, P.funcs[f]? with
  | [], some fn => match fn.body with
    | some (.seq (.region _ ops0 false) (.seq (.region _ ops1 false) c)) => bif Nat.ble args.length fn.ntmps && Nat.beq ops1.size 2 then
        opsD A P fn.ntmps ops0 (rangeSeq ops0.size) (env0 args) h fun env h => match ops1[0]?, ops1[1]? with
          | some om, some od => stepD A P fn.ntmps ops1 om env h fun env h => match od.op, od.guard, od.dst with
            | .defer cl, none, none => match cl.callee, cl.args.toList with
              | .value x, [] => match look A env x with
                | .v (.func (.func g) first captured) => match P.funcs[g]? with
                  | some gn => match gn.body with
                    | some _ => codeD (withDef A ⟨.fn (.func g) captured, first⟩) P fn.ntmps c an env h
                        { n := leaveO A P fn rc Q g (first.toList ++ captured.toList) none, x := fun _ _ _ => False, r := leaveO A P fn rc Q g (first.toList ++ captured.toList) }
                    | none => False
                  | none => False
                | _ => False
              | _, _ => False
            | _, _, _ => False
          | _, _ => False
      else False
    | _ => False
  | _, _ => False

theorem prem_with {d : Deferred} (hP : Prem P A) : Prem P (withDef A d) := ⟨hP.good, hP.eqs, hP.dep, hP.noNG, hP.formed⟩
theorem rel_with {d : Deferred} {bx : Nat → Nat} {env : Env} {a : Act} {h : Hp} {w : World} (R : Rel A N bx env a h fr w0 w) (hd : A.defs = []) : Rel (withDef A d) N bx env { a with defers := d :: a.defers } h fr w0 w :=
  ⟨R.size, by rw [R.defers, hd]; rfl, R.hle, R.frle, R.dj, R.same, R.slot, R.prom, R.inj⟩
theorem rel_without {d : Deferred} {bx : Nat → Nat} {env : Env} {a : Act} {h : Hp} {w : World} (R : Rel (withDef A d) N bx env a h fr w0 w) (hd : A.defs = []) : Rel A N bx env { a with defers := [] } h fr w0 w :=
  ⟨R.size, hd.symm, R.hle, R.frle, R.dj, R.same, R.slot, R.prom, R.inj⟩

theorem region_go (hP : Prem P A) {id : Nat} {ops : Array Oper} {bx : Nat → Nat} {env : Env} {a : Act} {h : Hp} {w : World} {K : Env → Hp → Prop} (R : Rel A N bx env a h fr w0 w) (hk : opsD A P N ops (rangeSeq ops.size) env h K)
    {Q : Exit → Act → World → Prop} (hQ : ∀ a w, St A N fr w0 K a w → Q .normal a w) : (Code.region id ops false).wp P Q a w := by
  have := sound_ops (N := N) hP (rangeSeq ops.size) R hk
  rw [show (rangeSeq ops.size).map Prod.fst = List.range ops.size by simp [rangeSeq, Function.comp_def]] at this
  intro b k cs
  obtain ⟨e, a', w', hq, ha⟩ := arr_of_list (Q := Q) this (fun a w hk => hQ a w hk) b k cs
  exact ⟨e, a', w', hq, .of_steps (.one step_region) ha⟩

theorem defer_step {ops : Array Oper} {i : Nat} {rest : List Nat} {o : Oper} {b : Frame} {a : Act} {k : List Item} {cs : List Frame} {w : World} {d : Deferred} (ho : ops[i]? = some o) (hg : o.guard = none) (hdst : o.dst = none)
    (hr : (execOp a.eval o).run P w = .ok (.defer d) w) :
    step P (lone (b.at a (.inRegion ops (i :: rest) :: k)) cs w) = .next (lone (b.at { a with defers := d :: a.defers } (.inRegion ops rest :: k)) cs w) := by
  have hw : Region.wanted o (yielded ops a.tmps) = true := by simp [Region.wanted, hg]
  have hsg := stepG_op (P := P) (b := b) (k := k) (cs := cs) (w := w) (rest := rest) ho hw
  refine step_lone_go ?_
  have : ({ b.at a (.inRegion ops (i :: rest) :: k) with defers := d :: a.defers } : Frame).finish undef =
      b.at ({ a with defers := d :: a.defers }.put o.dst undef) (.inRegion ops rest :: k) := by
    have := Frame.finish_at b { a with defers := d :: a.defers } ops i rest k undef
    rw [ho] at this; exact this
  rw [hdst] at this
  rw [hsg]; simp only [stepG.apply, Sem.runT_eq, hr, GStep.bare_after]
  exact congrArg (fun fr => GStep.go { frame := fr, callers := cs, status := .running, dying := none } w) this

theorem leave_go (hP : Prem P A) (hdf : A.defs = []) {fn : Func} {rc : Cdc} {Q : rc.T → Hp → Prop} {g : FuncId} {gn : Func} {gb : Code} {first captured : Array Value} (hgn : P.funcs[g]? = some gn) (hgb : gn.body = some gb)
    {o : Option Value} {u : FrameMode} (hu : u = match o with | none => .returning | some v => .panicking [{ v, recovered := false }])
    {bx : Nat → Nat} {env : Env} {a : Act} {h : Hp} {w : World} (R : Rel (withDef A ⟨.fn (.func g) captured, first⟩) N bx env a h fr w0 w) (hk : leaveO A P fn rc Q g (first.toList ++ captured.toList) o env h) :
    Leaves P fn a.tmps (fun e w' => ∃ v h', e = .returned v ∧ (∃ r, v = rc.enc r ∧ Q r h') ∧ h'.le w' ∧ fr.le w' ∧ h'.dj fr ∧ Same w0 w') a.defers u w := by
  rw [R.defers]
  have hng := hP.noNG g gn hgn
  refine leaves_cons (f := g) (args := (first.toList ++ captured.toList).toArray) (by subst hu; cases o <;> simp) ?_ ?_
  · simp only [invoke, callFunc, Sem.run_bind, run_program, Result.andThen_ok, hgn, hng, Bool.false_eq_true, if_false, hgb, Option.isNone_some]
    congr 2
    simp
  · have R0 := rel_without R hdf
    have fin : ∀ (u' : FrameMode), settle u' = .returning → CallsD P g (first.toList ++ captured.toList).toArray u w (fun e u2 w' => ∃ v h', e = .returned v ∧ u2 = u' ∧ retD A P fn rc Q env h' ∧ h'.le w' ∧ ((boxes bx env w).un fr).le w' ∧ h'.dj ((boxes bx env w).un fr) ∧ Same w w') →
        CallsD P g (first.toList ++ captured.toList).toArray u w fun
          | .returned _, u', w' => Leaves P fn a.tmps (fun e w' => ∃ v h', e = .returned v ∧ (∃ r, v = rc.enc r ∧ Q r h') ∧ h'.le w' ∧ fr.le w' ∧ h'.dj fr ∧ Same w0 w') [] (settle u') w'
          | .panicked chain, u', w' => Leaves P fn a.tmps (fun e w' => ∃ v h', e = .returned v ∧ (∃ r, v = rc.enc r ∧ Q r h') ∧ h'.le w' ∧ fr.le w' ∧ h'.dj fr ∧ Same w0 w') [] (raised u' chain) w'
          | .outgrown, _, w' => (fun e w' => ∃ v h', e = Ending.returned v ∧ (∃ r, v = rc.enc r ∧ Q r h') ∧ h'.le w' ∧ fr.le w' ∧ h'.dj fr ∧ Same w0 w') .outgrown w' := by
      intro u' hs hc
      refine hc.mono ?_
      rintro e u2 w' ⟨v, h', rfl, rfl, hret, hle', hfr, hdj, sm⟩
      have R' := R0.called hle' hfr hdj sm
      obtain ⟨r, h1, h2⟩ := results_run hP R' hret
      dsimp only
      rw [hs]
      exact ⟨_, h1, _, h', rfl, ⟨r, rfl, h2⟩, R'.hle, R'.frle, R'.dj, R'.same⟩
    cases o with
    | none =>
      subst hu
      exact fin .returning rfl (hk w _ R0.hle (Hp.un_le R0.boxes_le R0.frle) (Hp.dj_un R0.boxes_dj R0.dj))
    | some v =>
      subst hu
      exact fin (.panicking [{ v, recovered := true }]) rfl (hk w _ R0.hle (Hp.un_le R0.boxes_le R0.frle) (Hp.dj_un R0.boxes_dj R0.dj))

/-- A CONTRACT OF A FUNCTION THAT DEFERS A CLOSURE. -/
theorem specDD_of (hP : Prem P A) (hmix : P.follows .mixedOrders = true) {f : FuncId} {an : An} {rc : Cdc} {args : List Value} {h : Hp} {Q : rc.T → Hp → Prop} (hk : fnDD A P f an rc args h Q) : callP P f args rc h Q := by
  unfold fnDD at hk
  split at hk
  · rename_i fn hdf hfn
    split at hk
    · rename_i id0 ops0 id1 ops1 c hbody
      cases hb : (Nat.ble args.length fn.ntmps && Nat.beq ops1.size 2) with
      | false => rw [hb] at hk; exact hk.elim
      | true =>
        rw [hb] at hk
        simp only [cond_true] at hk
        simp only [Bool.and_eq_true] at hb
        have hb1 := Nat.le_of_ble_eq_true hb.1
        have hb2 : ops1.size = 2 := beqT.1 hb.2
        intro w fr hle frle dj
        have R := rel_start (A := A) hb1 hdf hle frle dj
        refine calls_of_wp_defers hfn hbody (wp_seq (region_go hP R hk fun a1 w1 hs1 => ?_))
        obtain ⟨bx1, env1, h1, R1, hk1⟩ := hs1
        show (Code.seq _ _).wp P _ a1 w1
        split at hk1
        · rename_i om od hom hod
          refine wp_seq ?_
          intro b k cs
          have hr2 : List.range ops1.size = [0, 1] := by rw [hb2]; rfl
          obtain ⟨a2, w2, ⟨bx2, env2, h2, R2, hk2⟩, hs2⟩ := sound_step hP R1 hom hk1 b [1] k cs
          obtain ⟨dst, op, type, pos, after, guard⟩ := od
          dsimp only at hk2
          split at hk2
          · rename_i cl
            split at hk2
            · rename_i x hcal hargs
              split at hk2
              · rename_i g first captured hl
                split at hk2
                · rename_i gn hgn
                  split at hk2
                  · rename_i gb hgb
                    obtain ⟨callee, cargs, cats⟩ := cl
                    dsimp only at hcal hargs
                    subst hcal
                    have hcargs : cargs = #[] := by simpa using hargs
                    subst hcargs
                    have hrun : (execOp a2.eval ⟨none, .defer ⟨.value x, #[], cats⟩, type, pos, after, none⟩).run P w2 = .ok (.defer ⟨.fn (.func g) captured, first⟩) w2 := by
                      simp [execOp, resolve, Deferred.ofValue, R2.eval_v hl]
                    have hs3 := defer_step (P := P) (b := b) (k := k) (cs := cs) (rest := []) hod rfl rfl hrun
                    have R3 := rel_with (d := ⟨.fn (.func g) captured, first⟩) R2 hdf
                    refine ⟨.normal, { a2 with defers := ⟨.fn (.func g) captured, first⟩ :: a2.defers }, w2, ?_, .of_steps (.one step_region) ?_⟩
                    · refine wp_mono (codeD_sound (prem_with hP) hmix c an _ _ _ h2 w2 _ R3 hk2) ?_
                      intro e a4 w4 hq
                      cases e with
                      | normal => obtain ⟨bx, env, h', R', hr⟩ := hq; exact leave_go (fn := fn) (rc := rc) (Q := Q) (o := none) hP hdf hgn hgb rfl R' hr
                      | ret => obtain ⟨bx, env, h', R', hr⟩ := hq; exact leave_go (fn := fn) (rc := rc) (Q := Q) (o := none) hP hdf hgn hgb rfl R' hr
                      | exit id => obtain ⟨_, _, _, _, hf⟩ := hq; exact hf.elim
                      | goto l => exact hq.elim
                      | panic ch => obtain ⟨v, rfl, bx, env, h', R', hr⟩ := hq; exact leave_go (fn := fn) (rc := rc) (Q := Q) (o := some v) hP hdf hgn hgb rfl R' hr
                      | outgrown => exact hq.elim
                    · rw [hr2]
                      exact Steps.trans hs2 (.head hs3 (.one step_region_end))
                  · exact hk2.elim
                · exact hk2.elim
              · exact hk2.elim
            · exact hk2.elim
          · exact hk2.elim
        · exact hk1.elim
    · exact hk.elim
  · exact hk.elim

/-- A deferred closure that recovers first of all: the rest, with what it recovered. -/
def recV : Option Value → Value
  | none => .nilIface
  | some v => v
def fnRec (A : Ann) (P : Program) (f : FuncId) (an : An) (args : List Value) (o : Option Value) (h : Hp) (K : Hp → Prop) : Prop :=
  match A.defs, P.funcs[f]? with
  | [], some fn => match fn.results.toList, fn.body with
    | [], some (.seq (.region _ ops false) c) => match ops.toList with
      | [⟨some d0, .call ⟨.builtin .recover, ⟨[]⟩, _⟩, _, _, _, none⟩, ⟨some d1, .assign (.tmp d2), _, _, _, none⟩] =>
        bif Nat.ble args.length fn.ntmps && (Nat.ble (d0 + 1) fn.ntmps && (Nat.ble (d1 + 1) fn.ntmps && Nat.beq d2 d0)) then
          codeD A P fn.ntmps c an (put A (put A (env0 args) (some d0) (.val (recV o))) (some d1) (.val (recV o))) h { n := fun _ h => K h, x := fun _ _ _ => False, r := retO (fun _ h => K h) fun _ _ _ => False }
        else False
      | _ => False
    | _, _ => False
  | _, _ => False
theorem specRec_of (hP : Prem P A) (hmix : P.follows .mixedOrders = true) {f : FuncId} {an : An} {args : List Value} {o : Option Value} {h : Hp} {K : Hp → Prop} (hk : fnRec A P f an args o h K) : deferP P f args o h K := by
  unfold fnRec at hk
  split at hk
  · rename_i fn hdf hfn
    split at hk
    · rename_i id ops c hres hbody
      split at hk
      · rename_i d0 ats t0 p0 af0 d1 d2 t1 p1 af1 hops
        cases hb : (Nat.ble args.length fn.ntmps && (Nat.ble (d0 + 1) fn.ntmps && (Nat.ble (d1 + 1) fn.ntmps && Nat.beq d2 d0))) with
        | false => rw [hb] at hk; exact hk.elim
        | true =>
          rw [hb] at hk
          simp only [cond_true] at hk
          simp only [Bool.and_eq_true] at hb
          obtain ⟨hb1, hb2, hb3, hb4⟩ := hb
          have hb1 := Nat.le_of_ble_eq_true hb1
          have hb2 := Nat.le_of_ble_eq_true hb2
          have hb3 := Nat.le_of_ble_eq_true hb3
          have hb4 : d2 = d0 := beqT.1 hb4
          subst hb4
          have hops' : ops = #[⟨some d2, .call ⟨.builtin .recover, #[], ats⟩, t0, p0, af0, none⟩, ⟨some d1, .assign (.tmp d2), t1, p1, af1, none⟩] := by
            apply Array.ext'; exact hops
          subst hops'
          have key : ∀ (u u' : FrameMode), (∀ (c₀ : Frame) (cs : List Frame), c₀.mode = u → (match recoverD (c₀ :: cs) with | some (v, cs') => v = recV o ∧ cs' = { c₀ with mode := u' } :: cs | none => recV o = .nilIface ∧ u' = u)) →
              SpecD P f args.toArray u u' h K := by
            intro u u' hrec w fr hle frle dj
            have R := rel_start (A := A) hb1 hdf hle frle dj
            refine callsD_of_wpS hfn hbody fun c₀ cs hu => wpS_seq (wpS_region ?_)
            have R1 := (R.put hP.good (d := some d2) (fun k hk => by cases hk; exact hb2) (ev := .val (recV o)) (v := recV o) rfl)
            have R2 := (R1.put hP.good (d := some d1) (fun k hk => by cases hk; exact hb3) (ev := .val (recV o)) (v := recV o) rfl)
            have hslot : ((({ tmps := args.toArray ++ Array.replicate (fn.ntmps - args.toArray.size) undef, defers := [] } : Act).put (some d2) (recV o)).eval (.tmp d2)) = recV o := by
              have := act_put_same ({ tmps := args.toArray ++ Array.replicate (fn.ntmps - args.toArray.size) undef, defers := [] } : Act) (d := d2) (recV o) (by rw [R.size]; omega)
              show (Array.getD _ _ _) = _
              rw [Array.getD_eq_getD_getElem?, this]; rfl
            have fin : ∀ cs', cs' = ({ c₀ with mode := u' } : Frame) :: cs → c.wpS P (bodyPostS P fn c₀ cs fun e u2 w' => ∃ v h', e = .returned v ∧ u2 = u' ∧ K h' ∧ h'.le w' ∧ fr.le w' ∧ h'.dj fr ∧ Same w w')
                ((({ tmps := args.toArray ++ Array.replicate (fn.ntmps - args.toArray.size) undef, defers := [] } : Act).put (some d2) (recV o)).put (some d1) (recV o)) cs' w := by
              rintro cs' rfl
              refine wpS_of_wp (wp_mono (codeD_sound hP hmix c an _ _ _ h w _ R2 hk) ?_)
              have hresults : ∀ (t : Array Value) (w : World), (results fn t).run P w = .ok (.tuple #[]) w := by
                intro t w
                have : fn.results = #[] := by apply Array.ext'; exact hres
                simp [results, this]
              intro e a' w' hq
              cases e with
              | normal => obtain ⟨bx, env, h', R', hr⟩ := hq; exact ⟨R'.defers.trans hdf, u', rfl, _, hresults _ _, _, h', rfl, rfl, hr, R'.hle, R'.frle, R'.dj, R'.same⟩
              | ret => obtain ⟨bx, env, h', R', hr⟩ := hq; exact ⟨R'.defers.trans hdf, u', rfl, _, hresults _ _, _, h', rfl, rfl, hr, R'.hle, R'.frle, R'.dj, R'.same⟩
              | exit id => obtain ⟨_, _, _, _, hf⟩ := hq; exact hf.elim
              | goto l => exact hq.elim
              | panic ch => obtain ⟨_, _, _, _, _, _, hf⟩ := hq; exact hf.elim
              | outgrown => exact hq.elim
            have hrec := hrec c₀ cs hu
            have hrun1 : ∀ (a : Act), (execOp a.eval ⟨some d2, .call ⟨.builtin .recover, #[], ats⟩, t0, p0, af0, none⟩).run P w = .ok .recover w := by
              intro a; rfl
            show wpOpsS P _ _ [0, 1] _ _ _
            simp only [wpOpsS, List.getElem?_toArray, List.getElem?_cons_zero, List.getElem?_cons_succ, Region.wanted, if_true, hrun1]
            split at hrec
            · rename_i v cs' hr
              obtain ⟨rfl, rfl⟩ := hrec
              rw [hr]
              dsimp only
              rw [show (execOp (Act.eval (({ tmps := args.toArray ++ Array.replicate (fn.ntmps - args.toArray.size) undef, defers := [] } : Act).put (some d2) (recV o))) ⟨some d1, .assign (.tmp d2), t1, p1, af1, none⟩).run P w = .ok (.value (recV o)) w by
                rw [show execOp (Act.eval (({ tmps := args.toArray ++ Array.replicate (fn.ntmps - args.toArray.size) undef, defers := [] } : Act).put (some d2) (recV o))) ⟨some d1, .assign (.tmp d2), t1, p1, af1, none⟩ = pure (.value (Act.eval _ (.tmp d2))) from rfl, hslot]; rfl]
              exact fin _ rfl
            · rename_i hr
              obtain ⟨hn, rfl⟩ := hrec
              rw [hr]
              dsimp only
              rw [← hn]
              rw [show (execOp (Act.eval (({ tmps := args.toArray ++ Array.replicate (fn.ntmps - args.toArray.size) undef, defers := [] } : Act).put (some d2) (recV o))) ⟨some d1, .assign (.tmp d2), t1, p1, af1, none⟩).run P w = .ok (.value (recV o)) w by
                rw [show execOp (Act.eval (({ tmps := args.toArray ++ Array.replicate (fn.ntmps - args.toArray.size) undef, defers := [] } : Act).put (some d2) (recV o))) ⟨some d1, .assign (.tmp d2), t1, p1, af1, none⟩ = pure (.value (Act.eval _ (.tmp d2))) from rfl, hslot]; rfl]
              exact fin _ (by subst hu; rfl)
          cases o with
          | none => exact key _ _ fun c₀ cs hu => by simp only [recoverD, hu]; exact ⟨rfl, trivial⟩
          | some v => exact key _ _ fun c₀ cs hu => by simp only [recoverD, hu]; exact ⟨rfl, trivial⟩
      · exact hk.elim
    · exact hk.elim
  · exact hk.elim
end
end Go.Eng
