/- What is said of an operation hangs on what it looks at alone; it tells one thing. -/
import Derived.Test.YtmkgcdgpokidjaaGreatEK
set_option linter.unusedVariables false
namespace Go.Eng

/-- A statement about one thing: it holds of a thing 'e'; and of whatever holds of that. -/
def Lin (F : (EV → Prop) → Prop) : Prop := ∀ k, F k → ∃ e, k e ∧ ∀ k', k' e → F k'

theorem Lin.at_ (e : EV) : Lin fun k => k e := fun _ hk => ⟨e, hk, fun _ h => h⟩
theorem Lin.no : Lin fun _ => False := fun _ hk => hk.elim
theorem Lin.and {C : Prop} {F : (EV → Prop) → Prop} (h : Lin F) : Lin fun k => C ∧ F k := fun k ⟨c, hk⟩ =>
  let ⟨e, h1, h2⟩ := h k hk; ⟨e, h1, fun k' h' => ⟨c, h2 k' h'⟩⟩
theorem Lin.ex {X : Type} {F : X → (EV → Prop) → Prop} (h : ∀ x, Lin (F x)) : Lin fun k => ∃ x, F x k := fun k ⟨x, hk⟩ =>
  let ⟨e, h1, h2⟩ := h x k hk; ⟨e, h1, fun k' h' => ⟨x, h2 k' h'⟩⟩
theorem Lin.cond {b : Bool} {F G : (EV → Prop) → Prop} (h : Lin F) (g : Lin G) : Lin fun k => cond b (F k) (G k) := by
  cases b
  · exact g
  · exact h

section
variable {A : Ann} {P : Program}

theorem moveL_lin (d : Option Tmp) (l : LV) : Lin (moveL A d l) := by
  cases l with
  | v v => exact Lin.at_ _
  | r t off cs =>
    cases d with
    | none => exact Lin.at_ _
    | some d => exact Lin.cond (Lin.at_ _) (Lin.at_ _)
  | no => exact Lin.at_ _
theorem refTo_lin (d : Option Tmp) (t off : Nat) : Lin (refTo A d t off) := by
  cases d with
  | none => exact Lin.no
  | some d => exact Lin.cond (Lin.at_ _) Lin.no
theorem getSl_lin (agg : Bool) (n : Nat) (cs : List Value) (off : Nat) : Lin (getSl agg n cs off) := by
  unfold getSl
  cases agg with
  | true => exact Lin.cond (Lin.at_ _) Lin.no
  | false =>
    dsimp only
    cases cs[off]? with
    | none => exact Lin.no
    | some v => exact Lin.at_ _
theorem nilP_lin (p : Option Addr) (F : Addr → (EV → Prop) → Prop) (h : ∀ a, Lin (F a)) : Lin fun k => nilP p fun a => F a k := by
  cases p with
  | none => exact Lin.no
  | some a => exact h a
theorem idxP_lin (p : Option Addr) (len : Nat) (i : Int) (F : Addr → (EV → Prop) → Prop) (h : ∀ a, Lin (F a)) : Lin fun k => idxP p len i fun a => F a k :=
  Lin.and (Lin.and (nilP_lin p F h))
theorem atP_lin (len : Nat) (i : Int) {F : (EV → Prop) → Prop} (h : Lin F) : Lin fun k => atP len i (F k) := Lin.and (Lin.and h)
theorem cutP_lin (len cap : Nat) (lo hi : Option Int) (F : Nat → Nat → (EV → Prop) → Prop) (h : ∀ l m, Lin (F l m)) : Lin fun k => cutP len cap lo hi fun l m => F l m k := by
  unfold cutP
  cases hi <;> cases lo <;> dsimp only <;> (repeat apply Lin.and) <;> exact h _ _
theorem cut3P_lin (cap : Nat) (lo : Option Int) (j m : Int) (F : Nat → Nat → Nat → (EV → Prop) → Prop) (h : ∀ a b c, Lin (F a b c)) : Lin fun k => cut3P cap lo j m fun a b c => F a b c k := by
  unfold cut3P
  cases lo <;> dsimp only <;> (repeat apply Lin.and) <;> exact h _ _ _

theorem binV_lin (op : BinOp) (t : TypeId) (x y : Value) : Lin (binV A P op t x y) := by
  intro k hk
  unfold binV at hk ⊢
  split at hk
  · cases op <;> dsimp only at hk ⊢
    case shl => exact Lin.and (Lin.at_ _) k hk
    case shr => exact Lin.and (Lin.at_ _) k hk
    all_goals
      split at hk
      · exact hk.elim
      · first
          | exact ⟨_, hk, fun k' h => h⟩
          | exact Lin.and (Lin.at_ _) k hk
  · split at hk
    · exact ⟨_, hk, fun k' h => h⟩
    · exact ⟨_, hk, fun k' h => h⟩
    · exact hk.elim
  · split at hk
    · exact ⟨_, hk, fun k' h => h⟩
    · exact ⟨_, hk, fun k' h => h⟩
    · exact hk.elim
  · split at hk
    · exact ⟨_, hk, fun k' h => h⟩
    · exact ⟨_, hk, fun k' h => h⟩
    · exact hk.elim
  · split at hk
    · exact ⟨_, hk, fun k' h => h⟩
    · exact ⟨_, hk, fun k' h => h⟩
    · exact hk.elim
  · cases hq : A.eqs t with
    | false => rw [hq] at hk; exact hk.elim
    | true =>
      rw [hq] at hk
      simp only [cond_true] at hk ⊢
      split at hk
      · exact ⟨_, hk, fun k' h => h⟩
      · exact ⟨_, hk, fun k' h => h⟩
      · exact hk.elim
  · exact hk.elim

theorem opP_lin (o : Oper) (ρ : Operand → LV) : Lin (opP A P o ρ) := by
  obtain ⟨dst, op, type, pos, after, guard⟩ := o
  cases op
  case move x => exact moveL_lin _ _
  case assign x => exact moveL_lin _ _
  case pick c x y =>
    intro k hk
    simp only [opP] at hk ⊢
    split at hk
    · exact Lin.cond (moveL_lin _ _) (moveL_lin _ _) k hk
    · exact hk.elim
  case alloc e =>
    intro k hk
    simp only [opP] at hk ⊢
    split at hk
    · exact ⟨_, hk, fun k' h => h⟩
    · exact hk.elim
  case box e x =>
    intro k hk
    simp only [opP] at hk ⊢
    split at hk
    · exact ⟨_, hk, fun k' h => h⟩
    · exact hk.elim
  case build t ps =>
    intro k hk
    simp only [opP] at hk ⊢
    split at hk
    · split at hk
      · exact ⟨_, hk, fun k' h => h⟩
      · exact hk.elim
    · split at hk
      · exact ⟨_, hk, fun k' h => h⟩
      · exact hk.elim
    · exact hk.elim
  case nilCheck x =>
    intro k hk
    simp only [opP] at hk ⊢
    split at hk
    · exact nilP_lin _ _ (fun a => Lin.at_ _) k hk
    · exact ⟨_, hk, fun k' h => h⟩
    · exact refTo_lin _ _ _ k hk
    · exact hk.elim
  case binOp op t x y ty =>
    intro k hk
    simp only [opP] at hk ⊢
    split at hk
    · exact binV_lin _ _ _ _ k hk
    · exact hk.elim
  case unOp op t x =>
    intro k hk
    simp only [opP] at hk ⊢
    split at hk
    · exact ⟨_, hk, fun k' h => h⟩
    · exact ⟨_, hk, fun k' h => h⟩
    · exact hk.elim
  case convert s d x =>
    intro k hk
    simp only [opP] at hk ⊢
    split at hk
    · exact ⟨_, hk, fun k' h => h⟩
    · exact hk.elim
  case makeInterface t x =>
    intro k hk
    simp only [opP] at hk ⊢
    split at hk
    · exact hk.elim
    · exact ⟨_, hk, fun k' h => h⟩
    · exact hk.elim
  case makeFunc fn l m =>
    intro k hk
    simp only [opP] at hk ⊢
    split at hk
    · exact ⟨_, hk, fun k' h => h⟩
    · exact hk.elim
  case fieldAddr s x f =>
    intro k hk
    simp only [opP] at hk ⊢
    split at hk
    · split at hk
      · split at hk
        · split at hk
          · exact ⟨_, hk, fun k' h => h⟩
          · exact refTo_lin _ _ _ k hk
          · exact hk.elim
        · exact hk.elim
      · exact hk.elim
    · exact hk.elim
  case field s x f =>
    intro k hk
    simp only [opP] at hk ⊢
    split at hk
    · split at hk
      · split at hk
        · exact getSl_lin _ _ _ _ k hk
        · exact hk.elim
      · exact hk.elim
    · exact hk.elim
  case load t x =>
    intro k hk
    simp only [opP] at hk ⊢
    split at hk
    · cases hdy : isDyn A x with
      | false => rw [hdy] at hk; exact getSl_lin _ _ _ _ k hk
      | true =>
        rw [hdy] at hk
        simp only [cond_true] at hk ⊢
        split at hk
        · rename_i c hc
          exact Lin.cond (Lin.ex fun x => Lin.and (Lin.at_ _)) Lin.no k hk
        · exact hk.elim
    · exact hk.elim
  case store t x y =>
    intro k hk
    simp only [opP] at hk ⊢
    split at hk
    · refine Lin.cond ?_ Lin.no k hk
      refine Lin.cond ?_ (Lin.cond (Lin.at_ _) Lin.no)
      split
      · exact Lin.and (Lin.ex fun x => Lin.and (Lin.at_ _))
      · exact Lin.no
    · exact hk.elim
  case indexAddr t x ix =>
    intro k hk
    simp only [opP] at hk ⊢
    split at hk
    · split at hk
      · exact idxP_lin _ _ _ _ (fun a => Lin.at_ _) k hk
      · exact hk.elim
    · split at hk
      · exact atP_lin _ _ (Lin.at_ _) k hk
      · exact atP_lin _ _ (refTo_lin _ _ _) k hk
      · exact hk.elim
    · exact hk.elim
  case index t x ix =>
    intro k hk
    simp only [opP] at hk ⊢
    split at hk
    · exact atP_lin _ _ (Lin.at_ _) k hk
    · exact hk.elim
  case slice t x lo hi mx =>
    intro k hk
    simp only [opP] at hk ⊢
    split at hk
    · split at hk
      · exact hk.elim
      · split at hk
        · exact cutP_lin _ _ _ _ _ (fun l m => Lin.at_ _) k hk
        · exact cutP_lin _ _ _ _ _ (fun l m => Lin.at_ _) k hk
        · exact cutP_lin _ _ _ _ _ (fun l m => Lin.at_ _) k hk
        · exact cutP_lin _ _ _ _ _ (fun l m => Lin.at_ _) k hk
        · exact cut3P_lin _ _ _ _ _ (fun a b c => Lin.at_ _) k hk
        · exact cut3P_lin _ _ _ _ _ (fun a b c => Lin.at_ _) k hk
        · exact hk.elim
    · split at hk
      · exact cutP_lin _ _ _ _ _ (fun l m => Lin.at_ _) k hk
      · exact cutP_lin _ _ _ _ _ (fun l m => Lin.at_ _) k hk
      · exact cutP_lin _ _ _ _ _ (fun l m => Lin.at_ _) k hk
      · exact hk.elim
    · split at hk
      · exact hk.elim
      · split at hk
        · exact cutP_lin _ _ _ _ _ (fun l m => Lin.at_ _) k hk
        · exact cutP_lin _ _ _ _ _ (fun l m => Lin.at_ _) k hk
        · exact cutP_lin _ _ _ _ _ (fun l m => Lin.at_ _) k hk
        · exact cutP_lin _ _ _ _ _ (fun l m => Lin.at_ _) k hk
        · exact hk.elim
    · exact hk.elim
  case extract x i =>
    intro k hk
    simp only [opP] at hk ⊢
    split at hk
    · split at hk
      · exact ⟨_, hk, fun k' h => h⟩
      · exact hk.elim
    · exact hk.elim
  case call c =>
    intro k hk
    simp only [opP] at hk ⊢
    split at hk
    · split at hk
      · exact ⟨_, hk, fun k' h => h⟩
      · exact ⟨_, hk, fun k' h => h⟩
      · exact ⟨_, hk, fun k' h => h⟩
      · exact hk.elim
    · exact ⟨_, hk, fun k' h => h⟩
    · exact ⟨_, hk, fun k' h => h⟩
    · exact hk.elim
  all_goals (intro k hk; exact hk.elim)

theorem opC_lin (o : Oper) (ρ : Operand → LV) : Lin (opC A P o ρ) := by
  obtain ⟨dst, op, type, pos, after, guard⟩ := o
  cases op
  case call c =>
    intro k hk
    simp only [opC] at hk ⊢
    split at hk
    · split at hk
      · split at hk
        · exact Lin.ex (fun x => Lin.and (Lin.at_ _)) k hk
        · exact hk.elim
      · exact hk.elim
    · exact hk.elim
  all_goals (intro k hk; exact hk.elim)

/-- A part of the heap that holds what 'h' holds. -/
def Hp.sub (h g : Hp) : Prop := ∀ b o, h b = some o → g b = some o
theorem Hp.sub_refl (h : Hp) : h.sub h := fun _ _ h => h
theorem Hp.sub_cell {h g : Hp} (s : h.sub g) {a : Addr} {v : Value} (e : h.cell? a = some v) : g.cell? a = some v := by
  unfold Hp.cell? at e ⊢
  cases hb : h a.block with
  | none => rw [hb] at e; cases e
  | some o => rw [hb] at e; rw [s _ _ hb]; exact e
theorem Hp.sub_rds {h g : Hp} (s : h.sub g) {a : Addr} {cs : List Value} (r : h.rds a cs) : g.rds a cs := fun i v hv => Hp.sub_cell s (r i v hv)
theorem Hp.sub_upd {h : Hp} {b : Nat} (hb : h b = none) (o : Obj) : h.sub (h.upd b o) := by
  intro k o' hk
  unfold Hp.upd
  rw [if_neg (by rintro rfl; rw [hb] at hk; cases hk)]; exact hk

theorem opR_lin (o : Oper) (ρ : Operand → LV) (h : Hp) : ∀ k, opR A P o ρ h k → ∃ e, k e ∧ ∀ k' h', h.sub h' → k' e → opR A P o ρ h' k' := by
  obtain ⟨dst, op, type, pos, after, guard⟩ := o
  intro k hk
  cases op
  case load t x =>
    simp only [opR] at hk ⊢
    split at hk
    · rename_i c a hc hx
      cases hq : fitsT P c t with
      | false => rw [hq] at hk; exact hk.elim
      | true =>
        rw [hq] at hk
        obtain ⟨y, hy, hk⟩ := hk
        exact ⟨_, hk, fun k' h' hs hk' => ⟨y, Hp.sub_rds hs hy, hk'⟩⟩
    · exact hk.elim
  case convert s d x =>
    simp only [opR] at hk ⊢
    split at hk
    · rename_i e a len cap h1 h2 h3
      split at hk
      · cases a with
        | none => exact ⟨_, hk, fun k' h' hs hk' => hk'⟩
        | some a =>
          obtain ⟨xs, hl, hr, hk⟩ := hk
          exact ⟨_, hk, fun k' h' hs hk' => ⟨xs, hl, Hp.sub_rds hs hr, hk'⟩⟩
      · exact hk.elim
    · exact hk.elim
  case call c =>
    simp only [opR] at hk ⊢
    split at hk
    · rename_i t r h1 h2 h3
      cases hq : chanT P t with
      | false => rw [hq] at hk; exact hk.elim
      | true =>
        rw [hq] at hk
        cases r with
        | none => exact ⟨_, hk, fun k' h' hs hk' => hk'⟩
        | some r =>
          obtain ⟨cap, buf, cl, s, r', hh, hk⟩ := hk
          exact ⟨_, hk, fun k' h' hs hk' => ⟨cap, buf, cl, s, r', hs _ _ hh, hk'⟩⟩
    · exact hk.elim
  all_goals exact hk.elim

theorem opA_lin (o : Oper) (ρ : Operand → LV) : ∀ k, opA P o ρ k → ∃ ob f, k ob f ∧ ∀ k' : Obj → (Nat → Value) → Prop, k' ob f → opA P o ρ k' := by
  obtain ⟨dst, op, type, pos, after, guard⟩ := o
  intro k hk
  cases op
  case alloc e =>
    simp only [opA] at hk ⊢
    split at hk
    · exact ⟨_, _, hk, fun k' h => h⟩
    · exact hk.elim
  case box e x =>
    simp only [opA] at hk ⊢
    split at hk
    · exact ⟨_, _, hk, fun k' h => h⟩
    · exact hk.elim
  case buildSlice t n ps =>
    simp only [opA] at hk ⊢
    split at hk
    · rename_i e l hu hl
      split at hk
      · rename_i m z hm hz
        cases hq : Nat.ble (n * m) 16777216 with
        | false => rw [hq] at hk; exact hk.elim
        | true =>
          rw [hq] at hk
          simp only [cond_true] at hk ⊢
          split at hk
          · rename_i cs hf
            exact ⟨_, _, hk, fun k' h => h⟩
          · exact hk.elim
      · exact hk.elim
    · exact hk.elim
  case makeSlice t l c =>
    simp only [opA] at hk ⊢
    split at hk
    · rename_i e kn n km m hu hl hc
      split at hk
      · cases hq : zeroOk P e with
        | false => rw [hq] at hk; exact hk.elim
        | true =>
          rw [hq] at hk
          simp only [cond_true] at hk ⊢
          obtain ⟨h0, h1, h2, h3, hk⟩ := hk
          exact ⟨_, _, hk, fun k' h => ⟨h0, h1, h2, h3, h⟩⟩
      · exact hk.elim
    · exact hk.elim
  case makeChan t n =>
    simp only [opA] at hk ⊢
    split at hk
    · split at hk
      · obtain ⟨h0, h1, h2, hk⟩ := hk
        exact ⟨_, _, hk, fun k' h => ⟨h0, h1, h2, h⟩⟩
      · exact hk.elim
    · exact hk.elim
  case makeMap t r =>
    simp only [opA] at hk ⊢
    split at hk
    · exact ⟨_, _, hk, fun k' h => h⟩
    · exact hk.elim
  all_goals exact hk.elim

theorem opW_mono (o : Oper) (ρ : Operand → LV) (h : Hp) (k k' : EV → Hp → Prop) (hkk : ∀ e h', k e h' → k' e h') : opW A P o ρ h k → opW A P o ρ h k' := by
  obtain ⟨dst, op, type, pos, after, guard⟩ := o
  intro hk
  cases op
  case store t x y =>
    simp only [opW] at hk ⊢
    split at hk
    · rename_i c a v hc hx hy
      cases hq : fitsT P c t with
      | false => rw [hq] at hk; exact hk.elim
      | true =>
        rw [hq] at hk
        simp only [cond_true] at hk ⊢
        split at hk
        · exact ⟨hk.1, hkk _ _ hk.2⟩
        · exact hk.elim
    · exact hk.elim
  case convert s d x =>
    simp only [opW] at hk ⊢
    split at hk
    · split at hk
      · exact fun cap pad b h1 h2 h3 => hkk _ _ (hk cap pad b h1 h2 h3)
      · exact hk.elim
    · split at hk
      · cases hq : Nat.beq s d with
        | false => rw [hq] at hk; exact hk.elim
        | true =>
          rw [hq] at hk
          obtain ⟨c, e, fz, hb, hk⟩ := hk
          exact ⟨c, e, fz, hb, hkk _ _ hk⟩
      · exact hk.elim
    · exact hk.elim
  case call c =>
    simp only [opW] at hk ⊢
    split at hk
    · split at hk
      · split at hk
        · exact ⟨hk.1, hk.2.mono fun v h' ⟨x, e, hx⟩ => ⟨x, e, hkk _ _ hx⟩⟩
        · split at hk
          · split at hk
            · split at hk
              · exact hk.mono fun v h' ⟨x, e, hx⟩ => ⟨x, e, hkk _ _ hx⟩
              · obtain ⟨x, hx, hk⟩ := hk; exact ⟨x, hx, hkk _ _ hk⟩
            · exact hk.elim
          · exact hk.elim
      · exact hk.elim
    · rename_i p len cap q n cap' hcal hl
      split at hk
      · rename_i t u ht hu
        split at hk
        · rename_i e u' ht' hu'
          split at hk
          · rename_i cd hcd
            cases hq : (fitsT P cd e && (Nat.ble 1 (bytesT P e) && (Nat.ble (bytesT P e) 1048576 && zeroOk P e))) with
            | false => rw [hq] at hk; exact hk.elim
            | true =>
              rw [hq] at hk
              simp only [cond_true] at hk ⊢
              have em : ∀ (a : Option Addr) (n : Nat) (K K' : List cd.T → Prop), (∀ xs, K xs → K' xs) → elemsP cd a n h K → elemsP cd a n h K' := by
                intro a n K K' hKK he
                cases a with
                | none => exact ⟨he.1, hKK _ he.2⟩
                | some a => obtain ⟨xs, h1, h2, h3⟩ := he; exact ⟨xs, h1, h2, hKK _ h3⟩
              refine em _ _ _ _ ?_ hk
              rintro ys ⟨h1, h2⟩
              refine ⟨fun hc => ?_, fun hc => ?_⟩
              · have := h1 hc
                cases p with
                | none => exact hkk _ _ this
                | some ad => exact ⟨this.1, hkk _ _ this.2⟩
              · obtain ⟨h3, h4⟩ := h2 hc
                refine ⟨h3, em _ _ _ _ ?_ h4⟩
                intro xs h5 nc pad h6 h7 b hb
                exact hkk _ _ (h5 nc pad h6 h7 b hb)
          · exact hk.elim
        · exact hk.elim
      · exact hk.elim
    · rename_i p len cap q n cap' hcal hl
      split at hk
      · split at hk
        · split at hk
          · rename_i cd hcd
            cases hq : fitsT P cd _ with
            | false => rw [hq] at hk; exact hk.elim
            | true =>
              rw [hq] at hk
              simp only [cond_true] at hk ⊢
              unfold copyP at hk ⊢
              unfold elemsP at hk ⊢
              cases q with
              | none =>
                refine ⟨hk.1, ?_⟩
                have := hk.2
                cases p with
                | none => exact hkk _ _ this
                | some ad => exact ⟨this.1, hkk _ _ this.2⟩
              | some q =>
                obtain ⟨xs, h1, h2, this⟩ := hk
                refine ⟨xs, h1, h2, ?_⟩
                cases p with
                | none => exact hkk _ _ this
                | some ad => exact ⟨this.1, hkk _ _ this.2⟩
          · exact hk.elim
        · exact hk.elim
      · exact hk.elim
    · rename_i p n cap hcal hl
      split at hk
      · split at hk
        · split at hk
          · rename_i cd z hcd hz
            cases hq : fitsT P cd _ with
            | false => rw [hq] at hk; exact hk.elim
            | true =>
              rw [hq] at hk
              simp only [cond_true] at hk ⊢
              split at hk
              · cases p with
                | none => exact hkk _ _ hk
                | some ad => exact ⟨hk.1, hkk _ _ hk.2⟩
              · exact hk.elim
          · exact hk.elim
        · exact hk.elim
      · exact hk.elim
    · exact hk.elim
  case lookup t x ix ok =>
    simp only [opW] at hk ⊢
    split at hk
    · split at hk
      · split at hk
        · split at hk
          · obtain ⟨r, l, clock, h1, h2, h3⟩ := hk
            exact ⟨r, l, clock, h1, h2, hkk _ _ h3⟩
          · exact hk.elim
        · exact hk.elim
      · exact hk.elim
    · exact hk.elim
  case mapUpdate t x ix y =>
    simp only [opW] at hk ⊢
    split at hk
    · split at hk
      · split at hk
        · split at hk
          · obtain ⟨r, l, clock, h1, h2, h3, h4⟩ := hk
            exact ⟨r, l, clock, h1, h2, h3, hkk _ _ h4⟩
          · exact hk.elim
        · exact hk.elim
      · exact hk.elim
    · exact hk.elim
  case select cs block =>
    simp only [opW] at hk ⊢
    split at hk
    · split at hk
      · split at hk
        · rename_i c z r hc hz hr
          cases r with
          | none => exact hkk _ _ hk
          | some r =>
            obtain ⟨cap, l, s, r', hb, hk⟩ := hk
            refine ⟨cap, l, s, r', hb, ?_⟩
            cases l with
            | nil => exact hkk _ _ hk
            | cons v l => obtain ⟨x, hx, hk⟩ := hk; exact ⟨x, hx, hkk _ _ hk⟩
        · exact hk.elim
      · split at hk
        · rename_i z r v hz hr hx
          cases r with
          | none => exact hkk _ _ hk
          | some r =>
            obtain ⟨cap, l, s, r', hb, h1, h2⟩ := hk
            exact ⟨cap, l, s, r', hb, fun h => hkk _ _ (h1 h), fun h => hkk _ _ (h2 h)⟩
        · exact hk.elim
    · exact hk.elim
  all_goals exact hk.elim
end
end Go.Eng
