/- The pure class: the whole. -/
import Derived.Test.YtmkgcdgpokidjaaGreatEG
set_option linter.unusedVariables false
namespace Go.Eng
section
variable {P : Program} {A : Ann} {N : Nat} {bx : Nat → Nat} {env : Env} {a : Act} {h fr : Hp} {w0 w : World}


structure Prem (P : Program) (A : Ann) : Prop where
  good : A.good
  eqs : EqsOk A P
  dep : 20 ≤ P.depth
  noNG : NoNG P
  formed : Formed P

theorem mapM_sizes (fs : Array Field) (hs : fs.all (fun f => (sizeT P f.type).isSome) = true) (w : World) :
    (fs.mapM (fun f => (do pure (f.offset, ← sizeOf f.type) : Sem (Nat × Nat)))).run P w = .ok (fs.map fun f => (f.offset, P.cellsOf f.type)) w := by
  obtain ⟨l⟩ := fs
  rw [List.mapM_toArray]
  simp only [Array.all_eq_true_iff_forall_mem, List.mem_toArray] at hs
  have : ∀ (l : List Field), (∀ f ∈ l, (sizeT P f.type).isSome = true) → (l.mapM (fun f => (do pure (f.offset, ← sizeOf f.type) : Sem (Nat × Nat)))).run P w = .ok (l.map fun f => (f.offset, P.cellsOf f.type)) w := by
    intro l
    induction l with
    | nil => intro _; rfl
    | cons f l ih =>
      intro hl
      obtain ⟨n, hn⟩ := Option.isSome_iff_exists.1 (hl f (by simp))
      simp only [List.mapM_cons, Sem.run_bind, r_size hn, Result.andThen_ok, Sem.run_pure, ih (fun g hg => hl g (List.mem_cons_of_mem _ hg)), List.map_cons, sizeT_cells hn]
  rw [Sem.run_map, this l hs]
  simp

theorem cells_rd {b off : Nat} {cs : List Value} {e : TypeId} (hb : w.heap[b]? = some (.cells cs.toArray e (0, 0))) {n : Nat} (_hl : off + n ≤ cs.length) :
    ∀ j v, ((cs.drop off).take n)[j]? = some v → w.cell? ((⟨b, off, none⟩ : Addr).add j) = some v := by
  intro j v hj
  rw [add_none, cell_of_block hb]
  rw [List.getElem?_take] at hj
  split at hj
  · rw [List.getElem?_drop] at hj; simpa using hj
  · cases hj

theorem soundP (hP : Prem P A) (R : Rel A N bx env a h fr w0 w) {o : Oper} (hd : ∀ k, o.dst = some k → k < N) (hc : cls A P o = .p) {k : EV → Prop}
    (hk : opP A P o (look A env) k) : PGoal A N P o env a h fr w0 w k := by
  obtain ⟨dst, op, type, pos, after, guard⟩ := o
  have he : (∀ t x y, op ≠ .store t x y) → effDst A ⟨dst, op, type, pos, after, guard⟩ = dst := by
    intro hs
    cases op <;> first | rfl | exact absurd rfl (hs _ _ _)
  cases op
  case move x => exact PGoal.moveL R hP.good hd (he (by simp)) (x := x) rfl hk
  case assign x => exact PGoal.moveL R hP.good hd (he (by simp)) (x := x) rfl hk
  case pick c x y =>
    simp only [opP] at hk
    split at hk
    · rename_i t ht
      have e := R.eval_v ht
      cases t with
      | true => exact PGoal.moveL R hP.good hd (he (by simp)) (x := x) (by simp [execOp, e, asBool]) hk
      | false => exact PGoal.moveL R hP.good hd (he (by simp)) (x := y) (by simp [execOp, e, asBool]) hk
    · exact hk.elim
  case alloc elem =>
    simp only [opP] at hk
    simp only [cls] at hc
    cases dst with
    | none => cases hc
    | some d =>
      cases hp : A.isProm d with
      | false => simp [hp] at hc
      | true =>
        split at hk
        · rename_i z hz
          refine ⟨_, _, _, _, hk, R.newBox hP.good (hd d rfl) hp z.cells.toList elem, .inl ⟨.pointer (some ⟨w.heap.size, 0, none⟩), ?_, rfl⟩⟩
          simp [execOp, Instr.alloc, r_zero hz, newVar, newRow]
        · exact hk.elim
  case box elem x =>
    simp only [opP] at hk
    simp only [cls] at hc
    cases dst with
    | none => cases hc
    | some d =>
      cases hp : A.isProm d with
      | false => simp [hp] at hc
      | true =>
        split at hk
        · rename_i z hz
          refine ⟨_, _, _, _, hk, R.newBox hP.good (hd d rfl) hp z.cells.toList elem, .inl ⟨.pointer (some ⟨w.heap.size, 0, none⟩), ?_, rfl⟩⟩
          simp [execOp, Instr.box, R.eval_v hz, newVar, newRow]
        · exact hk.elim
  case build t ps =>
    simp only [opP] at hk
    split at hk
    · rename_i l z fs hl hz hu
      have hl' := parts_eval R hl
      split at hk
      · rename_i cs hf
        unfold fillS at hf
        refine PGoal.val R hP.good hd (he (by simp)) (v := .agg cs) (ev := .val (.agg cs)) ?_ rfl hk
        cases hsz : fs.all (fun f => (sizeT P f.type).isSome) with
        | false => rw [hsz] at hf; cases hf
        | true =>
          rw [hsz] at hf
          simp only [cond_true] at hf
          have hps : ps.map (fun x => (x.1, a.eval x.2)) = l.toArray := Array.ext' (by simp [← hl'])
          simp only [execOp, Instr.build, Sem.run_bind, r_zero hz, r_under hu, Result.andThen_ok, mapM_sizes fs hsz]
          simp only [hps, Array.getElem?_map]
          rw [hf]; rfl
      · exact hk.elim
    · rename_i l z n e hl hz hu
      have hl' := parts_eval R hl
      split at hk
      · rename_i cs hf
        unfold fillA at hf
        refine PGoal.val R hP.good hd (he (by simp)) (v := .agg cs) (ev := .val (.agg cs)) ?_ rfl hk
        cases hsz : sizeT P e with
        | none => rw [hsz] at hf; cases hf
        | some n' =>
          rw [hsz] at hf
          dsimp only at hf
          have hps : ps.map (fun x => (x.1, a.eval x.2)) = l.toArray := Array.ext' (by simp [← hl'])
          simp only [execOp, Instr.build, Sem.run_bind, r_zero hz, r_under hu, Result.andThen_ok, r_size hsz]
          simp only [hps]
          rw [hf]; rfl
      · exact hk.elim
    · exact hk.elim
  case nilCheck x =>
    simp only [opP] at hk
    split at hk
    · rename_i p hx
      cases p with
      | none => exact hk.elim
      | some ad =>
      exact PGoal.val R hP.good hd (he (by simp)) (v := .pointer (some ad)) (ev := .val _) (by simp [execOp, R.eval_v hx]) rfl hk
    · rename_i f p q hx
      exact PGoal.val R hP.good hd (he (by simp)) (v := .func (.func f) p q) (ev := .val _) (by simp [execOp, R.eval_v hx]) rfl hk
    · rename_i t off cs hx
      obtain ⟨e1, e2, _⟩ := R.eval_r hx
      exact PGoal.refTo R hP.good hd (he (by simp)) e2 (by simp [execOp, e1]) hk
    · exact hk.elim
  case binOp op t x y ty =>
    simp only [opP] at hk
    split at hk
    · rename_i u v hu hv
      obtain ⟨r, hr, hk⟩ := binV_run (w := w) (ox := x) (oy := y) hP.eqs hP.dep hk
      exact PGoal.val R hP.good hd (he (by simp)) (v := r) (ev := .val r) (by simp only [execOp, R.eval_v hu, R.eval_v hv]; rw [Sem.run_bind, hr]; rfl) rfl hk
    · exact hk.elim
  case unOp op t x =>
    simp only [opP] at hk
    split at hk
    · rename_i j n hx
      exact PGoal.val R hP.good hd (he (by simp)) (v := .int j (j.wrap (0 - n))) (ev := .val _) (by simp [execOp, R.eval_v hx, Op.unary, Op.intArith]) rfl hk
    · rename_i b hx
      exact PGoal.val R hP.good hd (he (by simp)) (v := .bool (!b)) (ev := .val _) (by simp [execOp, R.eval_v hx, Op.unary]) rfl hk
    · exact hk.elim
  case convert s d x =>
    simp only [opP] at hk
    split at hk
    · rename_i j1 j j2 n hs hd' hx
      exact PGoal.val R hP.good hd (he (by simp)) (v := .int j (j.wrap n)) (ev := .val _) (by simp [execOp, R.eval_v hx, convert, r_under hs, r_under hd', Conv.intToInt]) rfl hk
    · exact hk.elim
  case makeInterface t x =>
    simp only [opP] at hk
    split at hk
    · exact hk.elim
    · rename_i d v hne hu hx
      refine PGoal.val R hP.good hd (he (by simp)) (v := .iface t v) (ev := .val _) ?_ rfl hk
      simp only [execOp, Instr.makeInterface, R.eval_v hx, Sem.run_bind, r_under hu, Result.andThen_ok]
      cases d <;> first | rfl | (exfalso; simp at hne)
    · exact hk.elim
  case makeFunc fn first captured =>
    simp only [opP] at hk
    split at hk
    · rename_i l m hl hm
      refine PGoal.val R hP.good hd (he (by simp)) (v := .func fn l.toArray m.toArray) (ev := .val _) ?_ rfl hk
      have h1 := vals_eval R hl
      have h2 := vals_eval R hm
      simp only [execOp, Instr.makeFunc]
      rw [show Array.map a.eval first = l.toArray from Array.ext' (by simp [← h1]), show Array.map a.eval captured = m.toArray from Array.ext' (by simp [← h2])]
      rfl
    · exact hk.elim
  case fieldAddr s x f =>
    simp only [opP] at hk
    split at hk
    · rename_i fs hu
      split at hk
      · rename_i fd hf
        split at hk
        · rename_i n hn
          have hrun : ∀ ad : Addr, (Instr.fieldAt s (.pointer (some ad)) f).run P w = .ok (.pointer (some (ad.add fd.offset))) w := by
            intro ad
            simp [Instr.fieldAt, r_under hu, hf, Instr.sureAddr, fieldPlace, r_size hn]
          split at hk
          · rename_i ad hx
            exact PGoal.val R hP.good hd (he (by simp)) (v := .pointer (some (ad.add fd.offset))) (ev := .val _) (by simp [execOp, R.eval_v hx, hrun]) rfl hk
          · rename_i t off cs hx
            obtain ⟨e1, e2, _⟩ := R.eval_r hx
            exact PGoal.refTo R hP.good hd (he (by simp)) e2 (by simp only [execOp, e1, Sem.run_bind, hrun, add_none]; rfl) hk
          · exact hk.elim
        · exact hk.elim
      · exact hk.elim
    · exact hk.elim
  case field s x f =>
    simp only [opP] at hk
    split at hk
    · rename_i fs hu
      split at hk
      · rename_i fd hf
        split at hk
        · rename_i n cs hn hx
          obtain ⟨v, hr, hk⟩ := getSl_part (w := w) hn (hP.formed _ _ hn) hk
          exact PGoal.val R hP.good hd (he (by simp)) (v := v) (ev := .val v) (by simp [execOp, Instr.field, R.eval_v hx, r_under hu, hf, asAgg, hr]) rfl hk
        · exact hk.elim
      · exact hk.elim
    · exact hk.elim
  case load t x =>
    simp only [opP] at hk
    split at hk
    · rename_i n bt off cs hn hx
      obtain ⟨e1, e2, _⟩ := R.eval_r hx
      have hs := R.slot bt
      rw [e2] at hs
      obtain ⟨_, ⟨e, hb⟩, _, _⟩ := hs
      have hu := hP.formed _ _ hn
      obtain ⟨d, hd'⟩ := hu
      cases hdy : isDyn A x with
      | true =>
        rw [hdy] at hk
        simp only [cond_true] at hk
        split at hk
        · rename_i c hcd
          cases hft : fitsT P c t with
          | false => rw [hft] at hk; exact hk.elim
          | true =>
            rw [hft] at hk
            simp only [cond_true] at hk
            obtain ⟨y, hy, hk⟩ := hk
            simp only [fitsT, Bool.and_eq_true, hn, beqT] at hft
            obtain ⟨⟨hmem, hag⟩, hnn⟩ := hft
            have hag : c.agg = isAggT P t := by simpa using hag
            have hform := c.form hmem y
            refine PGoal.val R hP.good hd (he (by simp)) (v := c.enc y) (ev := .val _) ?_ rfl hk
            simp only [execOp, Instr.loadAt, Instr.sureAddr, e1, Sem.run_bind]
            have hrd : ∀ j v, (c.enc y).cells.toList[j]? = some v → w.cell? ((⟨bx bt, off, none⟩ : Addr).add j) = some v := by
              intro j v hj
              rw [add_none, cell_of_block hb]
              simpa using hy j v hj
            cases hg : c.agg with
            | true =>
              rw [hg] at hform
              obtain ⟨xs, hxs, hlen, _⟩ := hform
              rw [hxs] at hrd ⊢
              have := r_loadVar (P := P) (w := w) hn ⟨d, hd'⟩ (cs := xs) (by omega) (by simpa [Value.cells] using hrd) (by rw [← hag, hg]; simp)
              simp only [Sem.run_pure, Result.andThen_ok]
              rw [this, ← hag, hg]; rfl
            | false =>
              rw [hg] at hform
              obtain ⟨hone, hn1⟩ := hform
              rw [cells_one hone] at hrd
              have := r_loadVar (P := P) (w := w) hn ⟨d, hd'⟩ (cs := [c.enc y]) (by simp; omega) hrd (by intro; omega)
              simp only [Sem.run_pure, Result.andThen_ok]
              rw [this, ← hag, hg]; rfl
        · exact hk.elim
      | false =>
        rw [hdy] at hk
        simp only [cond_false] at hk
        unfold getSl at hk
        cases hg : isAggT P t with
        | true =>
          rw [hg] at hk
          dsimp only at hk
          cases hl : Nat.ble (off + n) cs.length with
          | false => rw [hl] at hk; exact hk.elim
          | true =>
            rw [hl] at hk
            have hl : off + n ≤ cs.length := Nat.le_of_ble_eq_true hl
            refine PGoal.val R hP.good hd (he (by simp)) (v := .agg ((cs.drop off).take n).toArray) (ev := .val _) ?_ rfl hk
            have := r_loadVar (P := P) (w := w) hn ⟨d, hd'⟩ (cs := (cs.drop off).take n) (by simp; omega) (cells_rd hb hl) (by rw [hg]; simp)
            simp only [execOp, Instr.loadAt, Instr.sureAddr, e1, Sem.run_bind, Sem.run_pure, Result.andThen_ok, this, hg]
            rfl
        | false =>
          rw [hg] at hk
          dsimp only at hk
          split at hk
          · rename_i v hv
            refine PGoal.val R hP.good hd (he (by simp)) (v := v) (ev := .val v) ?_ rfl hk
            have hlt := (List.getElem?_eq_some_iff.1 hv).1
            simp only [execOp, Instr.loadAt, Instr.sureAddr, e1, Sem.run_bind, Sem.run_pure, Result.andThen_ok, loadVar, r_isAgg hd', hg, Bool.false_eq_true, if_false]
            rw [run_load, cell_of_block hb, show cs.toArray[off]? = some v by simpa using hv]
            rfl
          · exact hk.elim
    · exact hk.elim
  case store t x y =>
    simp only [opP] at hk
    split at hk
    · rename_i n bt off cs v hn hx hy
      obtain ⟨e1, e2, s, rfl, hs⟩ := R.eval_r hx
      have heff : effDst A ⟨none, .store t (.tmp s) y, type, pos, after, guard⟩ = some bt := by
        simp only [effDst]
        rcases hs with ⟨rfl, _, hp⟩ | ⟨hr, _⟩
        · simp [hp]
        · simp [hP.good _ _ hr, hr]
      have hpb : A.isProm bt = true := R.prom _ _ e2
      have hslot := R.slot bt
      rw [e2] at hslot
      obtain ⟨_, ⟨e, hb⟩, _, _⟩ := hslot
      cases hsz : (Nat.beq v.cells.size n && allOne v.cells.toList) with
      | false => rw [hsz] at hk; exact hk.elim
      | true =>
        rw [hsz] at hk
        simp only [cond_true] at hk
        simp only [Bool.and_eq_true, beqT, allOne_iff] at hsz
        obtain ⟨hsz, hones⟩ := hsz
        -- the common end
        have fin : ∀ cs' : List Value, off + v.cells.toList.length ≤ cs.length → cs' = setL cs off v.cells.toList → k (.box cs') →
            PGoal A N P ⟨none, .store t (.tmp s) y, type, pos, after, guard⟩ env a h fr w0 w k := by
          intro cs' hl hcs hk
          have hrun := r_storeCells (P := P) ⟨bx bt, off, none⟩ v.cells.toList 0 w (fun j hj => by
            rw [add_none, cell_of_block hb, frozen_of_block hb]
            refine ⟨?_, rfl⟩
            have : off + (0 + j) < cs.length := by omega
            exact ⟨cs[off + (0 + j)], by simp⟩) hones
          obtain ⟨env', rfl, R'⟩ := R.setBox hP.good e2 (w' := wrW w ⟨bx bt, off, none⟩ 0 v.cells.toList) (cs' := cs')
            ⟨e, by rw [wrW_block (bx bt) off _ 0 cs w e hb (by omega), hcs]; rfl⟩ (fun k hk => wrW_old _ _ _ _ _ hk) (wrW_same _ _ _ _)
          refine ⟨.box cs', bx, a, wrW w ⟨bx bt, off, none⟩ 0 v.cells.toList, hk, ?_, .inr ⟨?_, rfl⟩⟩
          · rw [heff]
            -- forget the addresses in it
            refine ⟨R'.size, R'.defers, R'.hle, R'.frle, R'.dj, R'.same, ?_, ?_, ?_⟩
            · intro u
              by_cases eu : u = bt
              · subst eu; rw [put_same]; have := R'.slot u; simp only [if_true] at this; exact this
              · rcases put_ne (A := A) (env := env) (EV.box cs') eu with h' | ⟨h', _, _⟩
                · rw [h']
                  have := R'.slot u
                  simp only [if_neg eu] at this
                  cases hu : env u with
                  | val z => rw [hu] at this; exact this
                  | box z => rw [hu] at this; exact this
                  | ref off' =>
                    rw [hu] at this
                    obtain ⟨t', hr', ht', ds, hb'⟩ := this
                    refine ⟨t', hr', ht', ds, ?_⟩
                    by_cases et : t' = bt
                    · subst et
                      exfalso
                      have : put A env (some t') (.box cs') u = .unk := by
                        simp only [put, beqF.2 eu, cond_false, hpb, hr', isSomeEq, beqT.2 rfl, Bool.and_self, cond_true]
                      rw [this] at h'; rw [← h'] at hu; cases hu
                    · replace hb' : (if t' = bt then EV.box cs' else env t') = .box ds := hb'
                      rw [if_neg et] at hb'
                      rcases put_ne (A := A) (env := env) (EV.box cs') et with h2 | ⟨_, _, h3⟩
                      · rw [h2]; exact hb'
                      · have := hP.good _ _ h3; rw [R.prom _ _ hb'] at this; cases this
                  | unk => trivial
                · rw [h']; trivial
            · intro u ds hu
              by_cases eu : u = bt
              · subst eu; exact hpb
              · rcases put_ne (A := A) (env := env) (EV.box cs') eu with h' | ⟨h', _, _⟩
                · rw [h'] at hu; exact R.prom _ _ hu
                · rw [h'] at hu; cases hu
            · intro u u' ds ds' hu hu' hbb
              have back : ∀ z zs, put A env (some bt) (.box cs') z = .box zs → ∃ zs', env z = .box zs' := by
                intro z zs hz
                by_cases ez : z = bt
                · subst ez; exact ⟨_, e2⟩
                · rcases put_ne (A := A) (env := env) (EV.box cs') ez with h' | ⟨h', _, _⟩
                  · rw [h'] at hz; exact ⟨_, hz⟩
                  · rw [h'] at hz; cases hz
              obtain ⟨_, g1⟩ := back u ds hu
              obtain ⟨_, g2⟩ := back u' ds' hu'
              exact R.inj _ _ _ _ g1 g2 hbb
          · simp only [execOp, Instr.storeAt, Instr.sureAddr, e1, R.eval_v hy, Sem.run_bind, Sem.run_pure, Result.andThen_ok, storeVar, r_size hn]
            rw [if_neg (by simp [hsz])]
            simp only [hrun, Result.andThen_ok]
        cases hdy : isDyn A (.tmp s) with
        | true =>
          rw [hdy] at hk
          simp only [cond_true] at hk
          split at hk
          · rename_i c hcd
            obtain ⟨hl, z, hz, hk⟩ := hk
            exact fin _ hl hz hk
          · exact hk.elim
        | false =>
          rw [hdy] at hk
          simp only [cond_false] at hk
          cases hl : Nat.ble (off + n) cs.length with
          | false => rw [hl] at hk; exact hk.elim
          | true =>
            rw [hl] at hk
            have hl := Nat.le_of_ble_eq_true hl
            exact fin _ (by simp; omega) rfl hk
    · exact hk.elim
  case indexAddr t x ix =>
    simp only [opP] at hk
    split at hk
    · rename_i e j i hu hi
      have ei := R.eval_v hi
      split at hk
      · rename_i n b len cap hn hx
        obtain ⟨h0, h1, hk⟩ := hk
        cases b with
        | none => exact hk.elim
        | some ad =>
        refine PGoal.val R hP.good hd (he (by simp)) (v := .pointer (some (ad.add (i.toNat * n)))) (ev := .val _) ?_ rfl hk
        simp [execOp, Instr.indexAt, ei, R.eval_v hx, asIntOf, r_under hu, h0, h1, r_size hn]
      · exact hk.elim
    · rename_i len e j i hu hi
      have ei := R.eval_v hi
      split at hk
      · rename_i n ad hn hx
        obtain ⟨h0, h1, hk⟩ := hk
        refine PGoal.val R hP.good hd (he (by simp)) (v := .pointer (some (ad.add (i.toNat * n)))) (ev := .val _) ?_ rfl hk
        simp [execOp, Instr.indexAt, ei, R.eval_v hx, asIntOf, r_under hu, Instr.sureAddr, h0, h1, r_size hn]
      · rename_i n bt off cs hn hx
        obtain ⟨h0, h1, hk⟩ := hk
        obtain ⟨e1, e2, _⟩ := R.eval_r hx
        refine PGoal.refTo R hP.good hd (he (by simp)) e2 ?_ hk
        simp [execOp, Instr.indexAt, ei, e1, asIntOf, r_under hu, Instr.sureAddr, h0, h1, r_size hn, add_none]
      · exact hk.elim
    · exact hk.elim
  case index t x ix =>
    simp only [opP] at hk
    split at hk
    · rename_i s j i hu hx hi
      obtain ⟨h0, h1, hk⟩ := hk
      refine PGoal.val R hP.good hd (he (by simp)) (v := .int .u8 ((s.data.getD i.toNat 0).toNat : Int)) (ev := .val _) ?_ rfl hk
      have hlt : i.toNat < s.size := by omega
      have hg : s[i.toNat]? = some (s.data.getD i.toNat 0) := by
        have h2 : i.toNat < s.data.size := hlt
        rw [getElem?_pos s i.toNat hlt]
        unfold Array.getD; rw [dif_pos h2]; rfl
      simp [execOp, Instr.index, R.eval_v hi, R.eval_v hx, asIntOf, r_under hu, h0, hg]
    · exact hk.elim
  case slice t x lo hi mx =>
    simp only [opP] at hk
    have hmap : ∀ {o : Option Operand} {l : Option LV} , o.map (look A env) = l → (l = none → o.map a.eval = none) ∧ (∀ v, l = some (.v v) → o.map a.eval = some v) := by
      intro o l ho
      cases o with
      | none => exact ⟨fun _ => rfl, fun v hv => (by rw [hv] at ho; cases ho)⟩
      | some y =>
        refine ⟨fun hl => (by rw [hl] at ho; cases ho), fun v hv => ?_⟩
        rw [hv] at ho
        have hy : look A env y = .v v := Option.some.inj ho
        simp [R.eval_v hy]
    split at hk
    · rename_i e p len cap hu hx
      split at hk
      · exact hk.elim
      · rename_i n hn
        have main : ∀ (vlo vhi vmx : Option Value) (l m c : Nat), lo.map a.eval = vlo → hi.map a.eval = vhi → mx.map a.eval = vmx →
            (Instr.sliceBounds true len cap vlo vhi vmx).run P w = .ok (l, m, c) w → k (.val (.slice (cutA p l c n) (m - l) (c - l))) → PGoal A N P ⟨dst, .slice t x lo hi mx, type, pos, after, guard⟩ env a h fr w0 w k := by
          intro vlo vhi vmx l m c e1 e2 e3 hb hk
          refine PGoal.val R hP.good hd (he (by simp)) (v := .slice (cutA p l c n) (m - l) (c - l)) (ev := .val _) ?_ rfl hk
          simp only [execOp, Instr.sliceAt, R.eval_v hx, Sem.run_bind, r_under hu, Result.andThen_ok, Instr.slice, e1, e2, e3, hb, r_size hn]
          rfl
        split at hk
        · rename_i h1 h2 h3
          obtain ⟨l, m, hb, hk⟩ := cutP_run (P := P) (w := w) (kl := .i64) (kh := .i64) (isS := true) hk
          exact main _ _ _ l m cap ((hmap h1).1 rfl) ((hmap h2).1 rfl) ((hmap h3).1 rfl) hb hk
        · rename_i j i h1 h2 h3
          obtain ⟨l, m, hb, hk⟩ := cutP_run (P := P) (w := w) (kl := j) (kh := .i64) (isS := true) hk
          exact main _ _ _ l m cap ((hmap h1).2 _ rfl) ((hmap h2).1 rfl) ((hmap h3).1 rfl) hb hk
        · rename_i j i h1 h2 h3
          obtain ⟨l, m, hb, hk⟩ := cutP_run (P := P) (w := w) (kl := .i64) (kh := j) (isS := true) hk
          exact main _ _ _ l m cap ((hmap h1).1 rfl) ((hmap h2).2 _ rfl) ((hmap h3).1 rfl) hb hk
        · rename_i j i j' i' h1 h2 h3
          obtain ⟨l, m, hb, hk⟩ := cutP_run (P := P) (w := w) (kl := j) (kh := j') (isS := true) hk
          exact main _ _ _ l m cap ((hmap h1).2 _ rfl) ((hmap h2).2 _ rfl) ((hmap h3).1 rfl) hb hk
        · rename_i j i j' i' j'' i'' h1 h2 h3
          obtain ⟨l, m, c, hb, hk⟩ := cut3P_run (P := P) (w := w) (len := len) (kl := j) (kh := j') (km := j'') (isS := true) hk
          exact main _ _ _ l m c ((hmap h1).2 _ rfl) ((hmap h2).2 _ rfl) ((hmap h3).2 _ rfl) hb hk
        · rename_i j' i' j'' i'' h1 h2 h3
          obtain ⟨l, m, c, hb, hk⟩ := cut3P_run (P := P) (w := w) (len := len) (kl := .i64) (kh := j') (km := j'') (isS := true) hk
          exact main _ _ _ l m c ((hmap h1).1 rfl) ((hmap h2).2 _ rfl) ((hmap h3).2 _ rfl) hb hk
        · exact hk.elim
    · rename_i s hu hx
      have main : ∀ (vlo vhi : Option Value) (l m : Nat), lo.map a.eval = vlo → hi.map a.eval = vhi → mx = none →
          (Instr.sliceBounds false s.size s.size vlo vhi none).run P w = .ok (l, m, s.size) w → k (.val (.string (s.extract l m))) → PGoal A N P ⟨dst, .slice t x lo hi mx, type, pos, after, guard⟩ env a h fr w0 w k := by
        intro vlo vhi l m e1 e2 e3 hb hk2
        clear hk
        subst e3
        refine PGoal.val R hP.good hd (he (by simp)) (v := .string (s.extract l m)) (ev := .val _) ?_ rfl hk2
        simp only [execOp, Instr.sliceAt, R.eval_v hx, Sem.run_bind, r_under hu, Result.andThen_ok, Instr.slice, e1, e2, Option.map_none, Option.isSome_none, Bool.false_eq_true, if_false, hb]
        rfl
      split at hk
      · rename_i j i h1 h2 
        obtain ⟨l, m, hb, hk⟩ := cutP_run (P := P) (w := w) (kl := j) (kh := .i64) (isS := false) hk
        exact main _ _ l m ((hmap h1).2 _ rfl) ((hmap h2).1 rfl) rfl hb hk
      · rename_i j i h1 h2
        obtain ⟨l, m, hb, hk⟩ := cutP_run (P := P) (w := w) (kl := .i64) (kh := j) (isS := false) hk
        exact main _ _ l m ((hmap h1).1 rfl) ((hmap h2).2 _ rfl) rfl hb hk
      · rename_i j i j' i' h1 h2
        obtain ⟨l, m, hb, hk⟩ := cutP_run (P := P) (w := w) (kl := j) (kh := j') (isS := false) hk
        exact main _ _ l m ((hmap h1).2 _ rfl) ((hmap h2).2 _ rfl) rfl hb hk
      · exact hk.elim
    · rename_i n e ad hu hx
      split at hk
      · exact hk.elim
      · rename_i z hz
        have main : ∀ (vlo vhi : Option Value) (l m : Nat), lo.map a.eval = vlo → hi.map a.eval = vhi → mx = none →
            (Instr.sliceBounds false n n vlo vhi none).run P w = .ok (l, m, n) w → k (.val (.slice (cutA (some ad) l n z) (m - l) (n - l))) → PGoal A N P ⟨dst, .slice t x lo hi mx, type, pos, after, guard⟩ env a h fr w0 w k := by
          intro vlo vhi l m e1 e2 e3 hb hk2
          clear hk
          subst e3
          refine PGoal.val R hP.good hd (he (by simp)) (v := .slice (cutA (some ad) l n z) (m - l) (n - l)) (ev := .val _) ?_ rfl hk2
          have hc : (if n = l then some ad else some (ad.add (l * z))) = cutA (some ad) l n z := by unfold cutA; split <;> rfl
          simp only [execOp, Instr.sliceAt, R.eval_v hx, Sem.run_bind, r_under hu, Result.andThen_ok, Instr.sureAddr, Sem.run_pure, e1, e2, Option.map_none, hb, r_size hz]
          rw [← hc]
          split <;> rfl
        split at hk
        · rename_i h1 h2
          obtain ⟨l, m, hb, hk⟩ := cutP_run (P := P) (w := w) (kl := .i64) (kh := .i64) (isS := false) hk
          exact main _ _ l m ((hmap h1).1 rfl) ((hmap h2).1 rfl) rfl hb hk
        · rename_i j i h1 h2
          obtain ⟨l, m, hb, hk⟩ := cutP_run (P := P) (w := w) (kl := j) (kh := .i64) (isS := false) hk
          exact main _ _ l m ((hmap h1).2 _ rfl) ((hmap h2).1 rfl) rfl hb hk
        · rename_i j i h1 h2
          obtain ⟨l, m, hb, hk⟩ := cutP_run (P := P) (w := w) (kl := .i64) (kh := j) (isS := false) hk
          exact main _ _ l m ((hmap h1).1 rfl) ((hmap h2).2 _ rfl) rfl hb hk
        · rename_i j i j' i' h1 h2
          obtain ⟨l, m, hb, hk⟩ := cutP_run (P := P) (w := w) (kl := j) (kh := j') (isS := false) hk
          exact main _ _ l m ((hmap h1).2 _ rfl) ((hmap h2).2 _ rfl) rfl hb hk
        · exact hk.elim
    · exact hk.elim
  case extract x i =>
    simp only [opP] at hk
    split at hk
    · rename_i vs hx
      split at hk
      · rename_i v hv
        exact PGoal.val R hP.good hd (he (by simp)) (v := v) (ev := .val v) (by simp [execOp, Instr.extract, R.eval_v hx, hv]) rfl hk
      · exact hk.elim
    · exact hk.elim
  case call c =>
    simp only [opP] at hk
    obtain ⟨callee, args, ats⟩ := c
    dsimp only at hk
    split at hk
    · rename_i t v h2 h3
      have hv := vals_eval R h3
      have hargs : args.map a.eval = #[v] := Array.ext' (by simpa using hv)
      split at hk
      · rename_i s hu
        exact PGoal.val R hP.good hd (he (by simp)) (v := .int .i64 (s.size : Int)) (ev := .val _) (by simp [execOp, resolve, invoke, builtin, hargs, Builtin.len_, h2, r_under hu, goInt]) rfl hk
      · rename_i n u hu
        exact PGoal.val R hP.good hd (he (by simp)) (v := .int .i64 (n : Int)) (ev := .val _) (by simp [execOp, resolve, invoke, builtin, hargs, Builtin.len_, h2, r_under hu, goInt]) rfl hk
      · rename_i e b n c hu
        exact PGoal.val R hP.good hd (he (by simp)) (v := .int .i64 (n : Int)) (ev := .val _) (by simp [execOp, resolve, invoke, builtin, hargs, Builtin.len_, h2, r_under hu, goInt]) rfl hk
      · exact hk.elim
    · rename_i j x j' y h3
      have hv := vals_eval R h3
      have hargs : args.map a.eval = #[.int j x, .int j' y] := Array.ext' (by simpa using hv)
      exact PGoal.val R hP.good hd (he (by simp)) (v := .int j (minI x y)) (ev := .val _) (by simp [execOp, resolve, invoke, builtin, hargs, Builtin.min_, Builtin.min2, minI]) rfl hk
    · rename_i j x j' y h3
      have hv := vals_eval R h3
      have hargs : args.map a.eval = #[.int j x, .int j' y] := Array.ext' (by simpa using hv)
      exact PGoal.val R hP.good hd (he (by simp)) (v := .int j (maxI x y)) (ev := .val _) (by simp [execOp, resolve, invoke, builtin, hargs, Builtin.max_, Builtin.max2, maxI]) rfl hk
    · exact hk.elim
  all_goals (simp only [cls] at hc; cases hc)
end
end Go.Eng
