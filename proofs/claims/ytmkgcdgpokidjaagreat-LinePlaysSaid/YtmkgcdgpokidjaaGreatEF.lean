/- The pure class: what is said of an operation holds of its run. -/
import Derived.Test.YtmkgcdgpokidjaaGreatEE
import Derived.Laws.StructEq
import Derived.Laws.Slices
set_option linter.unusedVariables false
namespace Go.Eng

def Did (P : Program) (o : Oper) (a : Act) (w : World) (a' : Act) (w' : World) : Prop :=
  (∃ v, (execOp a.eval o).run P w = .ok (.value v) w' ∧ a' = a.put o.dst v) ∨ ((execOp a.eval o).run P w = .ok .skip w' ∧ a' = a.put o.dst undef)

section
variable {P : Program} {A : Ann} {N : Nat} {bx : Nat → Nat} {env : Env} {a : Act} {h fr : Hp} {w0 w : World}

/-- What is to be shown of an operation of the pure class. -/
def PGoal (A : Ann) (N : Nat) (P : Program) (o : Oper) (env : Env) (a : Act) (h fr : Hp) (w0 w : World) (k : EV → Prop) : Prop :=
  ∃ ev bx' a' w', k ev ∧ Rel A N bx' (put A env (effDst A o) ev) a' h fr w0 w' ∧ Did P o a w a' w'

theorem PGoal.val (R : Rel A N bx env a h fr w0 w) (hA : A.good) {o : Oper} (hd : ∀ k, o.dst = some k → k < N) (he : effDst A o = o.dst) {k : EV → Prop} {ev : EV} {v : Value}
    (hr : (execOp a.eval o).run P w = .ok (.value v) w) (hv : evOk A bx env o.dst ev v) (hk : k ev) : PGoal A N P o env a h fr w0 w k :=
  ⟨ev, bx, a.put o.dst v, w, hk, he ▸ R.put hA hd hv, .inl ⟨v, hr, rfl⟩⟩

theorem PGoal.moveL (R : Rel A N bx env a h fr w0 w) (hA : A.good) {o : Oper} (hd : ∀ k, o.dst = some k → k < N) (he : effDst A o = o.dst) {k : EV → Prop} {x : Operand}
    (hr : (execOp a.eval o).run P w = .ok (.value (a.eval x)) w) (hk : Eng.moveL A o.dst (look A env x) k) : PGoal A N P o env a h fr w0 w k := by
  unfold Eng.moveL at hk
  cases hl : look A env x with
  | v v => rw [hl] at hk; exact PGoal.val R hA hd he hr (ev := .val v) (R.eval_v hl).symm hk
  | r t off cs =>
    rw [hl] at hk
    obtain ⟨e1, e2, _⟩ := R.eval_r hl
    cases hds : o.dst with
    | none => rw [hds] at hk; exact PGoal.val R hA hd he hr (ev := .unk) trivial hk
    | some d =>
      rw [hds] at hk
      dsimp only at hk
      cases hs : isSomeEq (A.refOf d) t with
      | true =>
        rw [hs] at hk
        exact PGoal.val R hA hd he hr (ev := .ref off) ⟨d, t, hds, isSomeEq_iff.1 hs, ⟨cs, e2⟩, e1⟩ hk
      | false => rw [hs] at hk; exact PGoal.val R hA hd he hr (ev := .unk) trivial hk
  | no => rw [hl] at hk; exact PGoal.val R hA hd he hr (ev := .unk) trivial hk

theorem PGoal.refTo (R : Rel A N bx env a h fr w0 w) (hA : A.good) {o : Oper} (hd : ∀ k, o.dst = some k → k < N) (he : effDst A o = o.dst) {k : EV → Prop} {t off : Nat} {cs : List Value}
    (hb : env t = .box cs) (hr : (execOp a.eval o).run P w = .ok (.value (.pointer (some ⟨bx t, off, none⟩))) w) (hk : Eng.refTo A o.dst t off k) : PGoal A N P o env a h fr w0 w k := by
  unfold Eng.refTo at hk
  cases hds : o.dst with
  | none => rw [hds] at hk; exact hk.elim
  | some d =>
    rw [hds] at hk
    dsimp only at hk
    cases hs : isSomeEq (A.refOf d) t with
    | true =>
      rw [hs] at hk
      exact PGoal.val R hA hd he hr (ev := .ref off) ⟨d, t, hds, isSomeEq_iff.1 hs, ⟨cs, hb⟩, rfl⟩ hk
    | false => rw [hs] at hk; exact hk.elim

theorem vals_eval (R : Rel A N bx env a h fr w0 w) : ∀ {xs : List Operand} {vs : List Value}, vals (look A env) xs = some vs → xs.map a.eval = vs := by
  intro xs
  induction xs with
  | nil => intro vs hv; simp [vals] at hv; subst hv; rfl
  | cons x l ih =>
    intro vs hv
    unfold vals at hv
    split at hv
    · rename_i v hx
      split at hv
      · rename_i us hl
        cases hv
        simp [R.eval_v hx, ih hl]
      · cases hv
    · cases hv
theorem parts_eval (R : Rel A N bx env a h fr w0 w) : ∀ {xs : List (Nat × Operand)} {vs : List (Nat × Value)}, parts (look A env) xs = some vs → xs.map (fun (i, x) => (i, a.eval x)) = vs := by
  intro xs
  induction xs with
  | nil => intro vs hv; simp [parts] at hv; subst hv; rfl
  | cons x l ih =>
    intro vs hv
    obtain ⟨i, x⟩ := x
    unfold parts at hv
    split at hv
    · rename_i v hx
      split at hv
      · rename_i us hl
        cases hv
        simp [R.eval_v hx, ih hl]
      · cases hv
    · cases hv

/-! ### equality -/
theorem r_part {t : TypeId} {xs : List Value} {off : Nat} {v : Value} (hp : partV P t xs off = some v) : (part t xs.toArray off).run P w = .ok v w := by
  unfold partV at hp
  cases hi : P.info? t with
  | none => rw [hi] at hp; cases hp
  | some i =>
    rw [hi] at hp; simp only at hp
    cases hu : P.underlying t with
    | none => rw [hu] at hp; cases hp
    | some d =>
      rw [hu] at hp
      have hs : sizeT P t = some i.size := by simp [sizeT, hi]
      unfold part
      simp only [Sem.run_bind, r_isAgg hu, Result.andThen_ok, isAggT, hu]
      cases d <;> simp only [Bool.false_eq_true, if_false, if_true] at hp ⊢ <;>
        first
          | (rw [show (xs.toArray)[off]? = xs[off]? from by simp, hp]; rfl)
          | (simp only [Sem.run_bind, r_size hs, Result.andThen_ok]
             cases hp
             simp)

theorem eqTy_mono : ∀ {d : Nat} {t : TypeId}, eqTy P d t = true → eqTy P (d + 1) t = true := by
  intro d
  induction d with
  | zero => intro t h; cases h
  | succ d ih =>
    intro t h
    unfold eqTy at h ⊢
    split at h <;> simp_all

theorem eqGuardType_false : ∀ {d : Nat} {t : TypeId}, eqTy P d t = true → ∀ n, d ≤ n → P.eqGuardType n t = false := by
  intro d
  induction d with
  | zero => intro t h; cases h
  | succ d ih =>
    intro t h n hn
    obtain ⟨m, rfl⟩ : ∃ m, n = m + 1 := ⟨n - 1, by omega⟩
    unfold eqTy at h
    unfold Program.eqGuardType
    split at h
    · rename_i e; simp [e]
    · rename_i e; simp [e]
    · rename_i e; simp [e]
    · rename_i fs e
      simp only [e]
      simp only [Bool.and_eq_true, List.all_eq_true] at h
      rw [Array.any_eq_false]
      intro i hi
      have := h.2 fs[i] (by simp)
      simp [ih this.2 m (by omega)]
    · rename_i n' e he
      simp only [he]
      exact ih h m (by omega)
    · cases h

theorem run_equalIn_array (d : Nat) (t e : TypeId) (len n : Nat) (xs ys : List Value) (hu : P.underlying t = some (.array len e)) (hs : sizeT P e = some n)
    (f : TypeId → Value → Value → Option Bool) (hf : ∀ x y r, f e x y = some r → ∀ w, (Op.equalIn d e x y).run P w = .ok r w) {r : Bool} (hr : eqEs P f e n xs ys (List.range len) = some r) :
    (Op.equalIn (d + 1) t (.agg xs.toArray) (.agg ys.toArray)).run P w = .ok r w := by
  simp only [Op.equalIn, Sem.run_bind, r_under hu, Result.andThen_ok, r_size hs]
  rw [Std.Legacy.Range.forIn_eq_forIn_range']
  simp only [Std.Legacy.Range.size, Nat.sub_zero, Nat.add_sub_cancel, Nat.div_one]
  rw [← List.range_eq_range']
  generalize List.range len = is at hr
  induction is generalizing r with
  | nil => simp [eqEs] at hr; subst hr; simp
  | cons i is ih =>
    unfold eqEs at hr
    split at hr
    · rename_i x y hx hy
      split at hr
      · rename_i r1 r2 h1 h2
        cases hr
        simp only [List.forIn_cons, Sem.run_bind, r_part hx, r_part hy, Result.andThen_ok, hf _ _ _ h1 w, Sem.run_ite]
        cases r1 with
        | false => simp
        | true =>
          simp only [Bool.not_true, Bool.false_eq_true, if_false, Sem.run_pure, Result.andThen_ok, Bool.true_and]
          exact ih h2
      · cases hr
    · cases hr

theorem eqFields_run (d : Nat) (xs ys : List Value) (f : TypeId → Value → Value → Option Bool) : ∀ (fs : List Field) (r : Bool),
    (∀ g ∈ fs, g.name ≠ "_" ∧ ∀ x y r, f g.type x y = some r → ∀ w, (Op.equalIn d g.type x y).run P w = .ok r w) →
    eqFs P f xs ys fs = some r → (Op.eqFields d xs.toArray ys.toArray fs).run P w = .ok r w := by
  intro fs
  induction fs with
  | nil => intro r _ hr; simp [eqFs] at hr; subst hr; simp [Op.eqFields]
  | cons g gs ih =>
    intro r hg hr
    have hone : ∃ x y r1 r2, partV P g.type xs g.offset = some x ∧ partV P g.type ys g.offset = some y ∧ f g.type x y = some r1 ∧ eqFs P f xs ys gs = some r2 ∧ r = (r1 && r2) := by
      cases gs with
      | nil =>
        simp only [eqFs] at hr
        split at hr
        · rename_i x y hx hy; exact ⟨x, y, r, true, hx, hy, hr, rfl, by simp⟩
        · cases hr
      | cons g' gs =>
        simp only [eqFs] at hr
        split at hr
        · rename_i x y hx hy
          split at hr
          · rename_i r1 r2 h1 h2; cases hr; exact ⟨x, y, r1, r2, hx, hy, h1, h2, rfl⟩
          · cases hr
        · cases hr
    obtain ⟨x, y, r1, r2, hx, hy, h1, h2, rfl⟩ := hone
    obtain ⟨hn, hf⟩ := hg g (by simp)
    rw [Op.eqFields]
    simp only [if_pos hn, Sem.run_bind, r_part hx, r_part hy, hf _ _ _ h1 w, Result.andThen_ok]
    cases r1 with
    | false => simp
    | true => simpa using ih r2 (fun g hg' => hg g (List.mem_cons_of_mem _ hg')) h2

theorem eqI_some {x y : Value} {r : Bool} (h : eqI x y = some r) : ∃ j a b, x = .int j a ∧ y = .int j b ∧ r = (a == b) := by
  unfold eqI at h
  split at h
  · rename_i j a j' b
    split at h
    · rename_i hj
      have hj := of_decide_eq_true hj
      subst hj
      cases h
      exact ⟨j, a, b, rfl, rfl, rfl⟩
    · cases h
  · cases h
theorem eqB_some {x y : Value} {r : Bool} (h : eqB x y = some r) : ∃ a b, x = .bool a ∧ y = .bool b ∧ r = (a == b) := by
  unfold eqB at h
  split at h
  · cases h; exact ⟨_, _, rfl, rfl, rfl⟩
  · cases h
theorem eqS_some {x y : Value} {r : Bool} (h : eqS x y = some r) : ∃ a b, x = .string a ∧ y = .string b ∧ r = (a.toList == b.toList) := by
  unfold eqS at h
  split at h
  · cases h; exact ⟨_, _, rfl, rfl, rfl⟩
  · cases h
theorem cellsOfAgg_some {x : Value} {xs : List Value} (h : cellsOfAgg x = some xs) : x = .agg xs.toArray := by
  unfold cellsOfAgg at h
  split at h
  · cases h; simp
  · cases h

theorem eqV_run : ∀ {d : Nat} {t : TypeId}, eqTy P d t = true → ∀ {x y : Value} {r : Bool} {m : Nat}, eqV P d t x y = some r → d ≤ m → ∀ w, (Op.equalIn m t x y).run P w = .ok r w := by
  intro d
  induction d with
  | zero => intro t h; cases h
  | succ d ih =>
    intro t ht x y r m hr hm w
    obtain ⟨m, rfl⟩ : ∃ n, m = n + 1 := ⟨m - 1, by omega⟩
    unfold eqTy at ht
    unfold eqV at hr
    split at ht
    · rename_i k e
      rw [e] at hr
      obtain ⟨j, a, b, rfl, rfl, rfl⟩ := eqI_some hr
      exact run_equalIn_int w m t j k a b e
    · rename_i e
      rw [e] at hr
      obtain ⟨a, b, rfl, rfl, rfl⟩ := eqB_some hr
      exact run_equalIn_bool' w m t _ _ e
    · rename_i e
      rw [e] at hr
      obtain ⟨a, b, rfl, rfl, rfl⟩ := eqS_some hr
      exact run_equalIn_string w m t _ _ e
    · rename_i fs e
      rw [e] at hr
      simp only [Bool.and_eq_true, Bool.not_eq_true', List.all_eq_true] at ht
      dsimp only at hr
      split at hr
      · rename_i xs ys hx hy
        rw [cellsOfAgg_some hx, cellsOfAgg_some hy]
        have hf : P.fieldsOf t = fs := by simp [Program.fieldsOf, e]
        rw [run_equalIn_struct (P := P) w m t _ _ (by rw [hf]; exact e) ht.1, hf]
        refine eqFields_run m xs ys (eqV P d) fs.toList r (fun g hg => ?_) hr
        have := ht.2 g hg
        exact ⟨by simpa using this.1, fun x y r h w => ih this.2 h (by omega) w⟩
      · cases hr
    · rename_i n e he
      rw [he] at hr
      dsimp only at hr
      split at hr
      · rename_i xs ys hx hy
        rw [cellsOfAgg_some hx, cellsOfAgg_some hy]
        split at hr
        · rename_i i hi
          exact run_equalIn_array m t e n i.size xs ys he (by simp [sizeT, hi]) (eqV P d) (fun x y r h w => ih ht h (by omega) w) hr
        · cases hr
      · cases hr
    · cases ht
end
end Go.Eng
