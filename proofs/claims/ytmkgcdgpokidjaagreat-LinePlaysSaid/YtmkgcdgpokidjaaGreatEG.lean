/- The pure class, operation by operation. -/
import Derived.Test.YtmkgcdgpokidjaaGreatEF
set_option linter.unusedVariables false
namespace Go.Eng
section
variable {P : Program} {A : Ann} {N : Nat} {bx : Nat → Nat} {env : Env} {a : Act} {h fr : Hp} {w0 w : World}

/-- '==' of structs goes by leaves where the hints say so. -/
def EqsOk (A : Ann) (P : Program) : Prop := ∀ t, A.eqs t = true → eqTy P 20 t = true
/-- No function is the one that counts goroutines. -/
def NoNG (P : Program) : Prop := ∀ (g : Nat) (fn : Func), P.funcs[g]? = some fn → (fn.name == "runtime.NumGoroutine") = false

theorem eqIn_ptr (d : Nat) {t e : TypeId} (hu : P.underlying t = some (.pointer e)) (p : Option Addr) : (Op.equalIn (d + 1) t (.pointer p) (.pointer none)).run P w = .ok p.isNone w := by
  cases p <;> simp [Op.equalIn, r_under hu]
theorem eqIn_sl (d : Nat) {t e : TypeId} (hu : P.underlying t = some (.slice e)) (p : Option Addr) (l c l' c' : Nat) : (Op.equalIn (d + 1) t (.slice p l c) (.slice none l' c')).run P w = .ok p.isNone w := by
  cases p <;> simp [Op.equalIn, r_under hu]

theorem binV_run (hE : EqsOk A P) (hdep : 20 ≤ P.depth) {op : BinOp} {t : TypeId} {ox oy : Operand} {x y : Value} {k : EV → Prop} (hk : binV A P op t x y k) :
    ∃ v, ((do eqGuard op t ox oy x y; binOp op t x y : Sem Value)).run P w = .ok v w ∧ k (.val v) := by
  unfold binV at hk
  split at hk
  · -- ints
    rename_i j a j' b
    have hg : (eqGuard op t ox oy (.int j a) (.int j' b)).run P w = .ok () w := by cases op <;> simp [eqGuard]
    cases op <;> simp only [Sem.run_bind, hg, Result.andThen_ok] at hk ⊢
    case shl =>
      obtain ⟨h0, hk⟩ := hk
      exact ⟨_, by simp only [binOp, Op.shift, if_neg (show ¬ b < 0 by omega)]; rfl, hk⟩
    case shr =>
      obtain ⟨h0, hk⟩ := hk
      exact ⟨_, by simp only [binOp, Op.shift, if_neg (show ¬ b < 0 by omega)]; rfl, hk⟩
    all_goals
      split at hk
      · exact hk.elim
      · rename_i hj
        have hj := of_decide_eq_true hj
        subst hj
        first
          | exact ⟨_, by simp only [binOp, ne_eq, not_true_eq_false, if_false]; rfl, hk⟩
          | (obtain ⟨h0, hk⟩ := hk
             exact ⟨_, by simp only [binOp, ne_eq, not_true_eq_false, if_false, Op.intDiv, if_neg h0]; rfl, hk⟩)
  · rename_i a b
    split at hk
    · rename_i hu
      exact ⟨_, by simp only [Sem.run_bind, eqGuard, binOp, Op.equal, Op.maxDepth]; simp [run_equalIn_bool w 9999 t a b hu], hk⟩
    · rename_i hu
      exact ⟨_, by simp only [Sem.run_bind, eqGuard, binOp, Op.equal, Op.maxDepth]; simp [run_equalIn_bool w 9999 t a b hu], hk⟩
    · exact hk.elim
  · rename_i a b
    split at hk
    · exact ⟨_, by simp [eqGuard, binOp, Op.stringOp]; rfl, hk⟩
    · exact ⟨_, by simp [eqGuard, binOp, Op.stringOp]; rfl, hk⟩
    · exact hk.elim
  · rename_i p
    split at hk
    · rename_i e hu
      refine ⟨_, ?_, hk⟩
      have hq := eqIn_ptr (P := P) (w := w) 9999 hu p
      simp only [Sem.run_bind, eqGuard, binOp, Op.equal, Op.maxDepth]
      simp [hq]
    · rename_i e hu
      refine ⟨_, ?_, hk⟩
      have hq := eqIn_ptr (P := P) (w := w) 9999 hu p
      simp only [Sem.run_bind, eqGuard, binOp, Op.equal, Op.maxDepth]
      simp [hq]
    · exact hk.elim
  · rename_i p l c l' c'
    split at hk
    · rename_i e hu
      refine ⟨_, ?_, hk⟩
      have hq := eqIn_sl (P := P) (w := w) 9999 hu p l c l' c'
      simp only [Sem.run_bind, eqGuard, binOp, Op.equal, Op.maxDepth]
      simp [hq]
    · rename_i e hu
      refine ⟨_, ?_, hk⟩
      have hq := eqIn_sl (P := P) (w := w) 9999 hu p l c l' c'
      simp only [Sem.run_bind, eqGuard, binOp, Op.equal, Op.maxDepth]
      simp [hq]
    · exact hk.elim
  · rename_i xs ys
    cases hq : A.eqs t with
    | false => rw [hq] at hk; exact hk.elim
    | true =>
      rw [hq] at hk
      simp only [cond_true] at hk
      have hty := hE t hq
      have hg : ∀ op, (eqGuard op t ox oy (.agg xs) (.agg ys)).run P w = .ok () w := fun op =>
        run_eqGuard_agg w op t ox oy xs ys (eqGuardType_false hty _ hdep)
      split at hk
      · rename_i r hr
        refine ⟨_, ?_, hk⟩
        simp only [Sem.run_bind, hg, Result.andThen_ok]
        rw [run_eql_struct, eqV_run hty hr (by omega) w]; rfl
      · rename_i r hr
        refine ⟨_, ?_, hk⟩
        simp only [Sem.run_bind, hg, Result.andThen_ok]
        rw [run_neq_struct, eqV_run hty hr (by omega) w]; rfl
      · exact hk.elim
  · exact hk.elim

theorem extract_eq (cs : Array Value) (o n : Nat) : cs.extract o (o + n) = ((cs.toList.drop o).take n).toArray := by
  cases cs; simp

theorem getSl_part {t : TypeId} {n : Nat} {cs : Array Value} {off : Nat} {k : EV → Prop} (hs : sizeT P t = some n) (hu : ∃ d, P.underlying t = some d)
    (hk : getSl (isAggT P t) n cs.toList off k) : ∃ v, (part t cs off).run P w = .ok v w ∧ k (.val v) := by
  obtain ⟨d, hd⟩ := hu
  unfold getSl at hk
  unfold part
  simp only [Sem.run_bind, r_isAgg hd, Result.andThen_ok]
  cases hg : isAggT P t with
  | true =>
    rw [hg] at hk
    dsimp only at hk
    cases hb : Nat.ble (off + n) cs.toList.length with
    | false => rw [hb] at hk; exact hk.elim
    | true =>
      rw [hb] at hk
      exact ⟨_, by simp only [if_true, Sem.run_bind, r_size hs, Result.andThen_ok, extract_eq]; rfl, hk⟩
  | false =>
    rw [hg] at hk
    dsimp only at hk
    split at hk
    · rename_i v hv
      refine ⟨v, ?_, hk⟩
      rw [show cs[off]? = some v by simpa using hv]
      simp
    · exact hk.elim

theorem isAggT_of_under {t : TypeId} (h : isAggT P t = true) : ∃ d, P.underlying t = some d := by
  unfold isAggT at h
  cases hu : P.underlying t with
  | none => rw [hu] at h; cases h
  | some d => exact ⟨d, rfl⟩

/-- Every type that has a size has a form. -/
def Formed (P : Program) : Prop := ∀ t n, sizeT P t = some n → ∃ d, P.underlying t = some d

theorem cutP_run {len cap : Nat} {kl kh : IntKind} {lo hi : Option Int} {isS : Bool} {K : Nat → Nat → Prop} (hk : cutP len cap lo hi K) :
    ∃ l m, (Instr.sliceBounds isS len cap (lo.map (.int kl)) (hi.map (.int kh)) none).run P w = .ok (l, m, cap) w ∧ K l m := by
  have hb : ∀ (k : IntKind) (i : Int) (y : Nat) (code : BoundsCode), 0 ≤ i → i ≤ y → (Instr.sliceBound (.int k i) y code).run P w = .ok i.toNat w := by
    intro k i y code h0 h1
    unfold Instr.sliceBound
    simp only [asIntOf, Sem.run_bind, Sem.run_pure, Result.andThen_ok, if_pos (And.intro h0 h1)]
  unfold cutP at hk
  unfold Instr.sliceBounds
  cases hi with
  | none =>
    cases lo with
    | none => exact ⟨0, len, by simp, hk⟩
    | some i =>
      obtain ⟨h0, h1, hk⟩ := hk
      exact ⟨i.toNat, len, by simp [hb kl i len _ h0 h1], hk⟩
  | some j =>
    cases lo with
    | none =>
      obtain ⟨h0, h1, hk⟩ := hk
      exact ⟨0, j.toNat, by simp [hb kh j cap _ h0 h1], hk⟩
    | some i =>
      obtain ⟨h0, h1, h2, hk⟩ := hk
      exact ⟨i.toNat, j.toNat, by simp [hb kh j cap _ (by omega) h2, hb kl i j.toNat _ h0 (by omega)], hk⟩

theorem cut3P_run {len cap : Nat} {kl kh km : IntKind} {lo : Option Int} {j m : Int} {isS : Bool} {K : Nat → Nat → Nat → Prop} (hk : cut3P cap lo j m K) :
    ∃ l h' m', (Instr.sliceBounds isS len cap (lo.map (.int kl)) (some (.int kh j)) (some (.int km m))).run P w = .ok (l, h', m') w ∧ K l h' m' := by
  have hb : ∀ (k : IntKind) (i : Int) (y : Nat) (code : BoundsCode), 0 ≤ i → i ≤ y → (Instr.sliceBound (.int k i) y code).run P w = .ok i.toNat w := by
    intro k i y code h0 h1
    unfold Instr.sliceBound
    simp only [asIntOf, Sem.run_bind, Sem.run_pure, Result.andThen_ok, if_pos (And.intro h0 h1)]
  unfold cut3P at hk
  unfold Instr.sliceBounds
  obtain ⟨h1, h2, h3, hk⟩ := hk
  cases lo with
  | none => exact ⟨0, j.toNat, m.toNat, by simp [hb km m cap _ (by omega) h1, hb kh j m.toNat _ h3 (by omega)], hk⟩
  | some i =>
    obtain ⟨h4, h5, hk⟩ := hk
    exact ⟨i.toNat, j.toNat, m.toNat, by simp [hb km m cap _ (by omega) h1, hb kh j m.toNat _ h3 (by omega), hb kl i j.toNat _ h4 (by omega)], hk⟩
end
end Go.Eng
