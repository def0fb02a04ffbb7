/- The classes that read, make and write memory. -/
import Derived.Test.YtmkgcdgpokidjaaGreatEH
import Derived.Laws.MakeOwn
import Derived.Laws.BytesString
set_option linter.unusedVariables false
namespace Go.Eng
section
variable {P : Program} {A : Ann} {N : Nat} {bx : Nat → Nat} {env : Env} {a : Act} {h fr : Hp} {w0 w : World}

theorem rds_w {h : Hp} {w : World} (hl : h.le w) {ad : Addr} {cs : List Value} (hr : h.rds ad cs) : ∀ j v, cs[j]? = some v → w.cell? (ad.add j) = some v :=
  fun j v hj => Hp.cell?_le hl (hr j v hj)

theorem load_enc {c : Cdc} {t : TypeId} (hP : Prem P A) (hf : fitsT P c t = true) {ad : Addr} {y : c.T} (hr : ∀ j v, (c.enc y).cells.toList[j]? = some v → w.cell? (ad.add j) = some v) :
    (loadVar t ad).run P w = .ok (c.enc y) w := by
  simp only [fitsT, Bool.and_eq_true] at hf
  obtain ⟨⟨hmem, hag⟩, hnn⟩ := hf
  cases hn : sizeT P t with
  | none => rw [hn] at hnn; cases hnn
  | some n =>
    rw [hn] at hnn
    have hnn := beqT.1 hnn
    have hag : c.agg = isAggT P t := by simpa using hag
    have hform := c.form hmem y
    have hu := hP.formed _ _ hn
    cases hg : c.agg with
    | true =>
      rw [hg] at hform
      obtain ⟨xs, hxs, hlen, _⟩ := hform
      rw [hxs] at hr ⊢
      have := r_loadVar (P := P) (w := w) hn hu (cs := xs) (by omega) (by simpa [Value.cells] using hr) (by rw [← hag, hg]; simp)
      rw [this, ← hag, hg]; rfl
    | false =>
      rw [hg] at hform
      obtain ⟨hone, hn1⟩ := hform
      rw [cells_one hone] at hr
      have := r_loadVar (P := P) (w := w) hn hu (cs := [c.enc y]) (by simp; omega) hr (by intro; omega)
      rw [this, ← hag, hg]; rfl

theorem run_b2s (a : Addr) (xs : List Int) (len cap : Nat) (hlen : xs.length = len) (hr : ∀ j v, (bytesV xs)[j]? = some v → w.cell? (a.add j) = some v) :
    (Conv.bytesToString (.slice (some a) len cap)).run P w = .ok (.string (mkStr xs)) w := by
  have h1 := run_loadCells_list (P := P) w a (bytesV xs) hr
  rw [show (bytesV xs).length = len by simp [bytesV, hlen]] at h1
  exact run_bytesToString w a len cap xs h1

theorem soundR (hP : Prem P A) (R : Rel A N bx env a h fr w0 w) {o : Oper} {k : EV → Prop} (hk : opR A P o (look A env) h k) :
    ∃ v, k (.val v) ∧ (execOp a.eval o).run P w = .ok (.value v) w := by
  obtain ⟨dst, op, type, pos, after, guard⟩ := o
  cases op <;> simp only [opR] at hk <;> try exact hk.elim
  case load t x =>
    split at hk
    · rename_i c ad hc hx
      cases hf : fitsT P c t with
      | false => rw [hf] at hk; exact hk.elim
      | true =>
        rw [hf] at hk
        obtain ⟨y, hy, hk⟩ := hk
        refine ⟨c.enc y, hk, ?_⟩
        simp only [execOp, Instr.loadAt, R.eval_v hx, Instr.sureAddr, Sem.run_bind, Sem.run_pure, Result.andThen_ok, load_enc hP hf (rds_w R.hle hy)]
    · exact hk.elim
  case convert s d x =>
    split at hk
    · rename_i e p len cap hs hd hx
      split at hk
      · rename_i hu
        have hgo : ∀ st, (Conv.bytesToString (.slice p len cap)).run P w = .ok (.string st) w → (execOp a.eval ⟨dst, .convert s d x, type, pos, after, guard⟩).run P w = .ok (.value (.string st)) w := by
          intro st hst
          simp only [execOp, convert, R.eval_v hx, Sem.run_bind, r_under hs, r_under hd, Result.andThen_ok]
          rw [r_under hu]
          simp [hst]
        cases p with
        | none => exact ⟨_, hk, hgo _ (by simp [Conv.bytesToString])⟩
        | some ad =>
          obtain ⟨xs, hl, hr, hk⟩ := hk
          exact ⟨_, hk, hgo _ (run_b2s ad xs len cap hl (rds_w R.hle hr))⟩
      · exact hk.elim
    · exact hk.elim
  case call c =>
    obtain ⟨callee, args, ats⟩ := c
    dsimp only at hk
    split at hk
    · rename_i t r h2 h1
      have hv := vals_eval R h1
      have hargs : args.map a.eval = #[.chan r] := Array.ext' (by simpa using hv)
      cases hct : chanT P t with
      | false => rw [hct] at hk; exact hk.elim
      | true =>
        rw [hct] at hk
        simp only [cond_true] at hk
        unfold chanT at hct
        cases hu : P.underlying t with
        | none => rw [hu] at hct; cases hct
        | some d =>
          rw [hu] at hct
          cases d <;> first | cases hct | skip
          cases r with
          | none => exact ⟨_, hk, by simp [execOp, resolve, invoke, builtin, hargs, Builtin.len_, h2, r_under hu, goInt]⟩
          | some r =>
            obtain ⟨cap, buf, cl, s, r', hh, hk⟩ := hk
            have hw := R.hle _ _ hh
            refine ⟨_, hk, ?_⟩
            have hg : (getObj r).run P w = .ok (.chan cap buf cl s r' false) w := by simp [getObj, Sem.run, hw]
            simp [execOp, resolve, invoke, builtin, hargs, Builtin.len_, h2, r_under hu, goInt, hg]
    · exact hk.elim

theorem zerosL_get {zs : List Value} {sz : Nat} (hz : zs.length = sz) : ∀ (n i : Nat), i < n * sz → (zerosL n zs)[i]? = zs[i % sz]? := by
  intro n
  induction n with
  | zero => intro i hi; omega
  | succ n ih =>
    intro i hi
    show (zs ++ zerosL n zs)[i]? = _
    rw [Nat.add_mul, Nat.one_mul] at hi
    by_cases h : i < sz
    · rw [List.getElem?_append_left (by omega), Nat.mod_eq_of_lt h]
    · rw [List.getElem?_append_right (by omega), hz, ih (i - sz) (by omega), ← Nat.mod_eq_sub_mod (by omega)]
theorem zerosL_len {zs : List Value} {sz : Nat} (hz : zs.length = sz) (n : Nat) : (zerosL n zs).length = n * sz := by
  induction n with
  | zero => simp [zerosL]
  | succ n ih =>
    show (zs ++ zerosL n zs).length = _
    rw [List.length_append, ih, hz, Nat.add_mul, Nat.one_mul, Nat.add_comm]
theorem madeCells_zeros {z : Array Value} {sz : Nat} (hz : z.size = sz) (n : Nat) : madeCells z (n * sz) = (zerosL n z.toList).toArray := by
  apply Array.ext'
  apply List.ext_getElem?
  intro i
  by_cases hi : i < n * sz
  · have h0 : 0 < sz := Nat.pos_of_ne_zero (by rintro rfl; omega)
    rw [show (zerosL n z.toList).toArray.toList = zerosL n z.toList from rfl, zerosL_get (sz := sz) (by simpa using hz) n i hi]
    have hm : i % sz < z.size := by rw [hz]; exact Nat.mod_lt _ h0
    simp only [madeCells, Array.toList_map, Array.toList_range, List.getElem?_map, hz]
    rw [List.getElem?_range hi]
    simp [hm]
  · rw [List.getElem?_eq_none (by simp [madeCells]; omega), List.getElem?_eq_none (by rw [show (zerosL n z.toList).toArray.toList = zerosL n z.toList from rfl, zerosL_len (sz := sz) (by simpa using hz)]; omega)]

theorem soundA (hP : Prem P A) (R : Rel A N bx env a h fr w0 w) {o : Oper} {k : Obj → (Nat → Value) → Prop} (hk : opA P o (look A env) k) :
    ∃ ob f, k ob f ∧ (execOp a.eval o).run P w = .ok (.value (f w.heap.size)) (w.alloc ob) := by
  obtain ⟨dst, op, type, pos, after, guard⟩ := o
  cases op <;> simp only [opA] at hk <;> try exact hk.elim
  case alloc elem =>
    split at hk
    · rename_i z hz
      exact ⟨_, _, hk, by simp [execOp, Instr.alloc, r_zero hz, newVar, newRow]⟩
    · exact hk.elim
  case box elem x =>
    split at hk
    · rename_i z hz
      exact ⟨_, _, hk, by simp [execOp, Instr.box, R.eval_v hz, newVar, newRow]⟩
    · exact hk.elim
  case buildSlice t len ps =>
    split at hk
    · rename_i e l hu hl
      have hl' := parts_eval R hl
      split at hk
      · rename_i n z hn hz
        cases hb : Nat.ble (len * n) 16777216 with
        | false => rw [hb] at hk; exact hk.elim
        | true =>
          rw [hb] at hk
          simp only [cond_true] at hk
          have hb := Nat.le_of_ble_eq_true hb
          split at hk
          · rename_i cs hf
            refine ⟨_, _, hk, ?_⟩
            have hps : ps.map (fun x => (x.1, a.eval x.2)) = l.toArray := Array.ext' (by simp [← hl'])
            simp only [execOp, Instr.buildSlice, Sem.run_bind, r_under hu, Result.andThen_ok, r_size hn]
            rw [if_neg (by omega)]
            by_cases h0 : len * n = 0
            · simp only [h0, if_true, Sem.run_pure, Result.andThen_ok, Sem.run_bind] at hf ⊢
              simp only [hps]
              have : (Array.map (fun x => (#[] : Array Value)[x % (#[] : Array Value).size]!) (Array.range 0)) = Array.map (fun x => z.cells[x % z.cells.size]!) (Array.range 0) := by simp
              rw [this, hf]
              simp [newRow]
            · simp only [h0, if_false, Sem.run_bind, r_zero hz, Sem.run_pure, Result.andThen_ok]
              simp only [hps]
              rw [hf]
              simp [newRow]
          · exact hk.elim
      · exact hk.elim
    · exact hk.elim
  case makeSlice t l c =>
    split at hk
    · rename_i e kn n km m hu hl hc
      split at hk
      · rename_i z hz
        cases hq : zeroOk P e with
        | false => rw [hq] at hk; exact hk.elim
        | true =>
          rw [hq] at hk
          obtain ⟨h0, h1, h2, h3, hk⟩ := hk
          refine ⟨_, _, hk, ?_⟩
          unfold zeroOk at hq
          split at hq
          · rename_i i hi
            rw [show i.zero = some z from by simpa [zeroV, hi] using hz] at hq
            have hsz : z.cells.size = i.size := Nat.eq_of_beq_eq_true hq
            have hb : bytesT P e = i.bytes := by simp [bytesT, hi]
            rw [hb] at h3
            have hr := run_make (P := P) w t e i z hu hi (by simpa [zeroV, hi] using hz) kn km n m h0 h1 (by omega) (by omega)
            rw [madeCells_zeros hsz] at hr
            simp [execOp, R.eval_v hl, R.eval_v hc, hr]
          · cases hq
      · exact hk.elim
    · exact hk.elim
  case makeChan t n =>
    split at hk
    · rename_i dir e kn n hu hn
      split at hk
      · rename_i sz hs
        obtain ⟨h0, h1, h2, hk⟩ := hk
        refine ⟨_, _, hk, ?_⟩
        obtain ⟨i, hi, _, hb⟩ := r_bytes hs
        rw [← hb] at h2
        have n1 : ¬ (n < 0 ∨ n > IntKind.i64.max ∨ (i.bytes : Int) * n > 2 ^ 48 - 112) := by
          have : IntKind.i64.max = 9223372036854775807 := by decide
          omega
        simp only [execOp, Instr.makeChan, R.eval_v hn, asInt, asIntOf, Sem.run_bind, Sem.run_pure, Result.andThen_ok, r_under hu, r_info hi, if_neg n1, run_newObj]
        rfl
      · exact hk.elim
    · exact hk.elim
  case makeMap t r =>
    split at hk
    · refine ⟨_, _, hk, ?_⟩
      simp only [execOp, Instr.makeMap, Option.map_none, Sem.run_bind, Sem.run_pure, Result.andThen_ok, run_newObj]
      rfl
    · exact hk.elim
end
end Go.Eng
