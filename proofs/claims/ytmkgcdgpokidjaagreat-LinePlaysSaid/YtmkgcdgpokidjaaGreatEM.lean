/- Locality: an operation hangs on what it looks at; two operations apart from one another. -/
import Derived.Test.YtmkgcdgpokidjaaGreatEL
set_option linter.unusedVariables false
namespace Go.Eng
section
variable {A : Ann} {P : Program}

theorem vals_congr {ρ ρ' : Operand → LV} : ∀ {l : List Operand}, (∀ x ∈ l, ρ x = ρ' x) → vals ρ l = vals ρ' l := by
  intro l
  induction l with
  | nil => intro _; rfl
  | cons x l ih =>
    intro h
    unfold vals
    rw [h x (by simp), ih fun y hy => h y (List.mem_cons_of_mem _ hy)]
theorem parts_congr {ρ ρ' : Operand → LV} : ∀ {l : List (Nat × Operand)}, (∀ x ∈ l, ρ x.2 = ρ' x.2) → parts ρ l = parts ρ' l := by
  intro l
  induction l with
  | nil => intro _; rfl
  | cons x l ih =>
    intro h
    obtain ⟨i, x⟩ := x
    unfold parts
    rw [h (i, x) (by simp), ih fun y hy => h y (List.mem_cons_of_mem _ hy)]
theorem map_congr {ρ ρ' : Operand → LV} {o : Option Operand} (h : ∀ x ∈ o, ρ x = ρ' x) : o.map ρ = o.map ρ' := by
  cases o with
  | none => rfl
  | some x => simp [h x rfl]

theorem opP_congr {o : Oper} {ρ ρ' : Operand → LV} (h : ∀ x ∈ o.op.operands, ρ x = ρ' x) : opP A P o ρ = opP A P o ρ' := by
  obtain ⟨dst, op, type, pos, after, guard⟩ := o
  funext k
  cases op <;> simp only [Op.operands] at h <;> simp only [opP]
  case move x => rw [h x (by simp)]
  case assign x => rw [h x (by simp)]
  case pick c a b => rw [h c (by simp), h a (by simp), h b (by simp)]
  case box e x => rw [h x (by simp)]
  case build t ps => rw [parts_congr fun x hx => h x.2 (by simp; exact ⟨x.1, by simpa using hx⟩)]
  case nilCheck x => rw [h x (by simp)]
  case binOp op t x y ty => rw [h x (by simp), h y (by simp)]
  case unOp op t x => rw [h x (by simp)]
  case convert s d x => rw [h x (by simp)]
  case makeInterface t x => rw [h x (by simp)]
  case makeFunc fn l m =>
    rw [vals_congr (l := l.toList) fun x hx => h x (by simp at hx ⊢; exact .inl hx), vals_congr (l := m.toList) fun x hx => h x (by simp at hx ⊢; exact .inr hx)]
  case fieldAddr s x f => rw [h x (by simp)]
  case field s x f => rw [h x (by simp)]
  case load t x => rw [h x (by simp)]
  case store t x y => rw [h x (by simp), h y (by simp)]
  case indexAddr t x i => rw [h x (by simp), h i (by simp)]
  case index t x i => rw [h x (by simp), h i (by simp)]
  case slice t x lo hi mx =>
    rw [h x (by simp), map_congr (o := lo) fun y hy => h y (by simp at hy ⊢; simp [hy]), map_congr (o := hi) fun y hy => h y (by simp at hy ⊢; simp [hy]), map_congr (o := mx) fun y hy => h y (by simp at hy ⊢; simp [hy])]
  case extract x i => rw [h x (by simp)]
  case call c => rw [vals_congr (l := c.args.toList) fun x hx => h x (by simp [Call.operands] at hx ⊢; exact .inr hx)]

theorem opC_congr {o : Oper} {ρ ρ' : Operand → LV} (h : ∀ x ∈ o.op.operands, ρ x = ρ' x) : opC A P o ρ = opC A P o ρ' := by
  obtain ⟨dst, op, type, pos, after, guard⟩ := o
  funext k
  cases op <;> simp only [Op.operands] at h <;> simp only [opC]
  case call c => rw [vals_congr (l := c.args.toList) fun x hx => h x (by simp [Call.operands] at hx ⊢; exact .inr hx)]

theorem opR_congr {o : Oper} {ρ ρ' : Operand → LV} (h : ∀ x ∈ o.op.operands, ρ x = ρ' x) : opR A P o ρ = opR A P o ρ' := by
  obtain ⟨dst, op, type, pos, after, guard⟩ := o
  funext hp k
  cases op <;> simp only [Op.operands] at h <;> simp only [opR]
  case load t x => rw [h x (by simp)]
  case convert s d x => rw [h x (by simp)]
  case call c => rw [vals_congr (l := c.args.toList) fun x hx => h x (by simp [Call.operands] at hx ⊢; exact .inr hx)]

theorem opA_congr {o : Oper} {ρ ρ' : Operand → LV} (h : ∀ x ∈ o.op.operands, ρ x = ρ' x) : opA P o ρ = opA P o ρ' := by
  obtain ⟨dst, op, type, pos, after, guard⟩ := o
  funext k
  cases op <;> simp only [Op.operands] at h <;> simp only [opA]
  case box e x => rw [h x (by simp)]
  case buildSlice t n ps => rw [parts_congr fun x hx => h x.2 (by simp; exact ⟨x.1, by simpa using hx⟩)]
  case makeSlice t x y => rw [h x (by simp), h y (by simp)]
  case makeChan t x => rw [h x (by simp)]

theorem opW_congr {o : Oper} {ρ ρ' : Operand → LV} (h : ∀ x ∈ o.op.operands, ρ x = ρ' x) : opW A P o ρ = opW A P o ρ' := by
  obtain ⟨dst, op, type, pos, after, guard⟩ := o
  funext hp k
  cases op <;> simp only [Op.operands] at h <;> simp only [opW]
  case store t x y => rw [h x (by simp), h y (by simp)]
  case convert s d x => rw [h x (by simp)]
  case lookup t x y ok => rw [h x (by simp), h y (by simp)]
  case mapUpdate t x y z => rw [h x (by simp), h y (by simp), h z (by simp)]
  case select cs block =>
    split
    · rename_i sc
      have h1 := h sc.chan (by simp)
      rw [h1]
      split
      · rfl
      · rename_i x hx
        have h2 := h x (by simp [hx])
        rw [h2]
    · rfl
  case call c =>
    rw [vals_congr (l := c.args.toList) fun x hx => h x (by simp [Call.operands] at hx ⊢; exact .inr hx)]
    obtain ⟨callee, args, ats⟩ := c
    cases callee with
    | value f =>
      have hf := h f (by simp [Call.operands])
      cases vals ρ' args.toList with
      | none => rfl
      | some l => dsimp only; rw [hf]
    | invoke r m => rfl
    | builtin b =>
      rcases vals ρ' args.toList with _ | l
      · cases b <;> rfl
      · rcases l with _ | ⟨v, _ | ⟨u, _ | ⟨z, l⟩⟩⟩ <;> cases b <;> first | rfl | (cases v <;> first | rfl | (cases u <;> rfl))

/-! ### slots -/
def slotsOf (A : Ann) (x : Operand) : List Nat :=
  match x with
  | .tmp t => t :: (A.refOf t).toList
  | _ => []
/-- The slots that an operation looks at. -/
def readsO (A : Ann) (ops : Array Oper) (o : Oper) : List Nat :=
  o.op.operands.toList.flatMap (slotsOf A) ++ (match guardSlot ops o with
    | some (s, _) => s :: (A.refOf s).toList
    | none => [])
/-- The slots that it may turn. -/
def writesO (A : Ann) (o : Oper) : List Nat := o.dst.toList ++ (effDst A o).toList

/-- Two slots' turns may change places. -/
def slotsApart (A : Ann) (d e : Nat) : Bool := !Nat.beq d e && (!isSomeEq (A.refOf d) e && !isSomeEq (A.refOf e) d)

theorem look_put (hA : A.good) {env : Env} {d : Nat} {ev : EV} {x : Operand} (hx : d ∉ slotsOf A x) : look A (put A env (some d) ev) x = look A env x := by
  cases x with
  | tmp t =>
    simp only [slotsOf, List.mem_cons, Option.mem_toList, not_or] at hx
    obtain ⟨h1, h2⟩ := hx
    have e1 : put A env (some d) ev t = env t := by
      rcases put_ne (A := A) (env := env) ev (Ne.symm h1) with h | ⟨_, _, h3⟩
      · exact h
      · exact absurd h3 h2
    simp only [look, e1]
    cases he : env t with
    | val v => rfl
    | box cs => rfl
    | unk => rfl
    | ref off =>
      simp only
      cases hr : A.refOf t with
      | none => rfl
      | some t' =>
        have hd : t' ≠ d := by rintro rfl; exact h2 hr
        cases hp : A.isProm t' with
        | false => simp only [hp, cond_false]
        | true =>
          simp only [hp, cond_true]
          rcases put_ne (A := A) (env := env) ev hd with h | ⟨_, _, h3⟩
          · rw [h]
          · rw [hA _ _ h3] at hp; cases hp
  | const v => rfl
  | func f => rfl
  | global g => rfl
end
end Go.Eng
