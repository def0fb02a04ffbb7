/- Code: what it comes to, said on what is known of the frame. -/
import Derived.Test.YtplfogbgobkcfaaEO
set_option linter.unusedVariables false
namespace Go.Eng

/-- What is handed on where ways meet: slots, or variables of the frame's own, with their types. -/
abbrev JS := List (Nat × Bool × Cdc)
def JT : JS → Type
  | [] => Unit
  | [x] => x.2.2.T
  | x :: y :: l => x.2.2.T × JT (y :: l)

def decB (c : Cdc) (cs : List Value) : Option c.T :=
  match c.agg with
  | true => c.dec (.agg cs.toArray)
  | false => match cs with
    | [v] => bif isOne v then c.dec v else none
    | _ => none
def get1 (b : Bool) (c : Cdc) : EV → Option c.T
  | .val v => match b with
    | true => none
    | false => c.dec v
  | .box cs => match b with
    | true => decB c cs
    | false => none
  | _ => none
def getJ : (js : JS) → Env → Option (JT js)
  | [], _ => some ()
  | [(s, b, c)], env => get1 b c (env s)
  | (s, b, c) :: y :: l, env => match get1 b c (env s) with
    | some x => match getJ (y :: l) env with
      | some r => some (x, r)
      | none => none
    | none => none
def ev1 (b : Bool) (c : Cdc) (x : c.T) : EV :=
  match b with
  | true => .box (c.enc x).cells.toList
  | false => .val (c.enc x)
def lookJ : (js : JS) → JT js → Nat → Option EV
  | [], _, _ => none
  | [(s, b, c)], x, k => bif Nat.beq k s then some (ev1 b c x) else none
  | (s, b, c) :: y :: l, x, k => bif Nat.beq k s then some (ev1 b c x.1) else lookJ (y :: l) x.2 k
def envJ (A : Ann) (js : JS) (m : Nat) (env : Env) (x : JT js) : Env := fun s =>
  match lookJ js x s with
  | some e => e
  | none => bif m.testBit s || (A.refOf s).isSome then .unk else env s

/-- Where ways meet. -/
def joinP {T : Type} (J : T → Hp → Prop) (B : (T → Hp → Prop) → Prop) : Prop := B J
def loopP {T : Type} (x0 : T) (h0 : Hp) (B : (T → Hp → Prop) → T → Hp → Prop) : Prop :=
  ∃ (I : T → Hp → Prop) (μ : T → Hp → Nat), I x0 h0 ∧ ∀ x h, I x h → B (fun x' h' => I x' h' ∧ μ x' h' < μ x h) x h

inductive An : Type 1 where
  | leaf
  | reg (seq : Seq)
  | seq (a b : An)
  | join (js : JS) (m : Nat) (a b : An)
  | cond (a b : An)
  | block (a : An)
  | blockJ (js : JS) (m : Nat) (a : An)
  | loop (js : JS) (m : Nat) (a : An)

structure Ct where
  n : Env → Hp → Prop
  x : Nat → Env → Hp → Prop
  r : Env → Hp → Prop

def toJ (js : JS) (e : Env) (h : Hp) (J : JT js → Hp → Prop) : Prop :=
  match getJ js e with
  | some x => J x h
  | none => False

def bit1 : Option Nat → Nat
  | some d => 2 ^ d
  | none => 0
def maskW (A : Ann) : List Oper → Nat
  | [] => 0
  | o :: l => bit1 o.dst ||| (bit1 (effDst A o) ||| maskW A l)
def subM (a b : Nat) : Bool := Nat.beq (a ||| b) b
def jsMask : JS → Nat
  | [] => 0
  | x :: l => 2 ^ x.1 ||| jsMask l

def modsD (A : Ann) : Code → An → Nat
  | .region _ ops _, _ => maskW A ops.toList
  | .seq a b, .seq a' b' => modsD A a a' ||| modsD A b b'
  | .seq _ b, .join _ m _ b' => m ||| modsD A b b'
  | .cond _ x y, .cond x' y' => modsD A x x' ||| modsD A y y'
  | .block _ c, .block a => modsD A c a
  | .block _ _, .blockJ _ m _ => m
  | .loop _, .loop _ m _ => m
  | _, _ => 0

def rangeSeq (n : Nat) : Seq := (List.range n).map fun i => (i, [])

def codeD (A : Ann) (P : Program) (N : Nat) : Code → An → Env → Hp → Ct → Prop
  | .skip, _, env, h, C => C.n env h
  | .label _, _, env, h, C => C.n env h
  | .region _ ops draw, .reg seq, env, h, C => match draw with
    | true => bif canonOk A P ops seq then opsD A P N ops seq env h C.n else False
    | false => opsD A P N ops (rangeSeq ops.size) env h C.n
  | .seq a b, .seq a' b', env, h, C => codeD A P N a a' env h { C with n := fun e h => codeD A P N b b' e h C }
  | .seq a b, .join js m a' b', env, h, C => bif subM (modsD A a a') m && subM (jsMask js) m then
      joinP (fun x h => codeD A P N b b' (envJ A js m env x) h C) fun J => codeD A P N a a' env h { C with n := fun e h => toJ js e h J }
    else False
  | .cond c x y, .cond x' y', env, h, C => match look A env c with
    | .v (.bool b) => condP b (codeD A P N x x' env h C) (codeD A P N y y' env h C)
    | _ => False
  | .block id c, .block a, env, h, C => codeD A P N c a env h { C with x := fun k => bif Nat.beq k id then C.n else C.x k }
  | .block id c, .blockJ js m a, env, h, C => bif subM (modsD A c a) m && subM (jsMask js) m then
      joinP (fun x h => C.n (envJ A js m env x) h) fun J => codeD A P N c a env h { n := fun e h => toJ js e h J, x := fun k => bif Nat.beq k id then (fun e h => toJ js e h J) else C.x k, r := C.r }
    else False
  | .loop c, .loop js m a, env, h, C => bif subM (modsD A c a) m && subM (jsMask js) m then
      (match getJ js env with
      | some x0 => loopP x0 h fun again x h => codeD A P N c a (envJ A js m env x) h { C with n := fun e h => toJ js e h again }
      | none => False)
    else False
  | .exit id, _, env, h, C => C.x id env h
  | .ret, _, env, h, C => C.r env h
  | _, _, _, _, _ => False

def Ct.le (C C' : Ct) : Prop := (∀ e h, C.n e h → C'.n e h) ∧ (∀ k e h, C.x k e h → C'.x k e h) ∧ ∀ e h, C.r e h → C'.r e h

section
variable {A : Ann} {P : Program} {N : Nat}

theorem toJ_mono {js : JS} {e : Env} {h : Hp} {J J' : JT js → Hp → Prop} (hJ : ∀ x h, J x h → J' x h) (hk : toJ js e h J) : toJ js e h J' := by
  unfold toJ at hk ⊢
  split at hk
  · exact hJ _ _ hk
  · exact hk.elim

theorem codeD_mono : ∀ (c : Code) (a : An) (env : Env) (h : Hp) (C C' : Ct), C.le C' → codeD A P N c a env h C → codeD A P N c a env h C' := by
  intro c
  induction c with
  | skip => intro a env h C C' hC hk; exact hC.1 _ _ hk
  | label l => intro a env h C C' hC hk; exact hC.1 _ _ hk
  | region id ops draw =>
    intro a env h C C' hC hk
    cases a <;> try exact hk.elim
    rename_i seq
    cases draw with
    | true =>
      simp only [codeD] at hk ⊢
      cases hc : canonOk A P ops seq with
      | false => rw [hc] at hk; exact hk.elim
      | true => rw [hc] at hk; exact opsD_mono hC.1 hk
    | false => exact opsD_mono hC.1 hk
  | seq x y ihx ihy =>
    intro a env h C C' hC hk
    cases a <;> try exact hk.elim
    · rename_i a b
      exact ihx a env h { C with n := fun e h => codeD A P N y b e h C } { C' with n := fun e h => codeD A P N y b e h C' } ⟨fun e h hk => ihy b e h C C' hC hk, hC.2⟩ hk
    · rename_i js m a b
      simp only [codeD] at hk ⊢
      cases hc : (subM (modsD A x a) m && subM (jsMask js) m) with
      | false => rw [hc] at hk; exact hk.elim
      | true =>
        rw [hc] at hk
        exact ihx a env h { C with n := fun e h => toJ js e h fun x h => codeD A P N y b (envJ A js m env x) h C } { C' with n := fun e h => toJ js e h fun x h => codeD A P N y b (envJ A js m env x) h C' } ⟨fun e h hk => toJ_mono (fun z h hk => ihy b _ h C C' hC hk) hk, hC.2⟩ hk
  | cond o x y ihx ihy =>
    intro a env h C C' hC hk
    cases a <;> try exact hk.elim
    rename_i a b
    simp only [codeD] at hk ⊢
    split at hk
    · rename_i t ht
      cases t
      · exact ihy b env h C C' hC hk
      · exact ihx a env h C C' hC hk
    · exact hk.elim
  | block id c ih =>
    intro a env h C C' hC hk
    cases a <;> try exact hk.elim
    · rename_i a
      refine ih a env h { C with x := fun k => bif Nat.beq k id then C.n else C.x k } { C' with x := fun k => bif Nat.beq k id then C'.n else C'.x k } ⟨hC.1, ?_, hC.2.2⟩ hk
      intro k e h hk
      dsimp only at hk ⊢
      cases hb : Nat.beq k id with
      | true => rw [hb] at hk; exact hC.1 _ _ hk
      | false => rw [hb] at hk; exact hC.2.1 _ _ _ hk
    · rename_i js m a
      simp only [codeD] at hk ⊢
      cases hc : (subM (modsD A c a) m && subM (jsMask js) m) with
      | false => rw [hc] at hk; exact hk.elim
      | true =>
        rw [hc] at hk
        refine ih a env h { n := fun e h => toJ js e h fun x h => C.n (envJ A js m env x) h, x := fun k => bif Nat.beq k id then (fun e h => toJ js e h fun x h => C.n (envJ A js m env x) h) else C.x k, r := C.r }
          { n := fun e h => toJ js e h fun x h => C'.n (envJ A js m env x) h, x := fun k => bif Nat.beq k id then (fun e h => toJ js e h fun x h => C'.n (envJ A js m env x) h) else C'.x k, r := C'.r } ⟨fun e h hk => toJ_mono (fun z h hk => hC.1 _ _ hk) hk, ?_, hC.2.2⟩ hk
        intro k e h hk
        dsimp only at hk ⊢
        cases hb : Nat.beq k id with
        | true => rw [hb] at hk; exact toJ_mono (fun z h hk => hC.1 _ _ hk) hk
        | false => rw [hb] at hk; exact hC.2.1 _ _ _ hk
  | loop c ih =>
    intro a env h C C' hC hk
    cases a <;> try exact hk.elim
    rename_i js m a
    simp only [codeD] at hk ⊢
    cases hc : (subM (modsD A c a) m && subM (jsMask js) m) with
    | false => rw [hc] at hk; exact hk.elim
    | true =>
      rw [hc] at hk
      simp only [cond_true] at hk ⊢
      split at hk
      · obtain ⟨I, μ, h0, hr⟩ := hk
        exact ⟨I, μ, h0, fun x h hI => ih a _ h { C with n := fun e h' => toJ js e h' fun x' h' => I x' h' ∧ μ x' h' < μ x h } { C' with n := fun e h' => toJ js e h' fun x' h' => I x' h' ∧ μ x' h' < μ x h } ⟨fun e h hk => hk, hC.2⟩ (hr x h hI)⟩
      · exact hk.elim
  | exit id => intro a env h C C' hC hk; exact hC.2.1 _ _ _ hk
  | ret => intro a env h C C' hC hk; exact hC.2.2 _ _ hk
  | scope c ih => intro a env h C C' hC hk; exact hk.elim
  | goto l => intro a env h C C' hC hk; exact hk.elim
  | refuse s => intro a env h C C' hC hk; exact hk.elim
  | rangeFunc f p x y => intro a env h C C' hC hk; exact hk.elim

/-! ### what is not turned stays known -/
def Agr (A : Ann) (m : Nat) (env env' : Env) : Prop := ∀ s, m.testBit s = false → A.refOf s = none → env' s = env s
theorem Agr.refl (m : Nat) (env : Env) : Agr A m env env := fun _ _ _ => rfl
theorem Agr.trans {m m' : Nat} {a b c : Env} (h : Agr A m a b) (k : Agr A m' b c) : Agr A (m ||| m') a c := by
  intro s hs hr
  simp only [Nat.testBit_or, Bool.or_eq_false_iff] at hs
  exact (k s hs.2 hr).trans (h s hs.1 hr)
theorem Agr.mono {m m' : Nat} {a b : Env} (h : Agr A m a b) (hm : ∀ s, m.testBit s = true → m'.testBit s = true) : Agr A m' a b := by
  intro s hs hr
  refine h s ?_ hr
  cases hb : m.testBit s with
  | false => rfl
  | true => rw [hm s hb] at hs; cases hs
theorem subM_spec {a b : Nat} (h : subM a b = true) : ∀ s, a.testBit s = true → b.testBit s = true := by
  intro s hs
  have := beqT.1 h
  rw [← this, Nat.testBit_or, hs, Bool.true_or]

theorem agr_put {env : Env} {d : Option Tmp} {e : EV} : Agr A (bit1 d) env (put A env d e) := by
  intro s hs hr
  cases d with
  | none => rfl
  | some d =>
    have hne : s ≠ d := by
      rintro rfl
      simp [bit1] at hs
    rcases put_ne (A := A) (env := env) e hne with h | ⟨_, _, h3⟩
    · exact h
    · rw [hr] at h3; cases h3

theorem stepD_agr {ops : Array Oper} {o : Oper} {env : Env} {h : Hp} {K : Env → Hp → Prop} (hk : stepD A P N ops o env h K) :
    stepD A P N ops o env h fun e h => Agr A (bit1 o.dst ||| bit1 (effDst A o)) env e ∧ K e h := by
  refine stepD_trans hk (AgreeO.refl o env) fun d hd e h' _ hk => ⟨?_, hk⟩
  rcases hd with rfl | rfl
  · exact agr_put.mono fun s hs => by rw [Nat.testBit_or, hs, Bool.true_or]
  · exact agr_put.mono fun s hs => by rw [Nat.testBit_or, hs, Bool.or_true]

theorem mask_mem {A : Ann} {o : Oper} : ∀ {l : List Oper}, o ∈ l → ∀ s, (bit1 o.dst ||| bit1 (effDst A o)).testBit s = true → (maskW A l).testBit s = true := by
  intro l
  induction l with
  | nil => intro h; cases h
  | cons x l ih =>
    intro h s hs
    simp only [maskW, Nat.testBit_or, Bool.or_eq_true] at hs ⊢
    rcases List.mem_cons.1 h with rfl | h
    · rcases hs with hs | hs
      · exact .inl hs
      · exact .inr (.inl hs)
    · exact .inr (.inr (ih h s (by simpa [Nat.testBit_or] using hs)))

theorem opsD_agr {ops : Array Oper} : ∀ {l : Seq} {env : Env} {h : Hp} {K : Env → Hp → Prop}, opsD A P N ops l env h K → opsD A P N ops l env h fun e h => Agr A (maskW A ops.toList) env e ∧ K e h := by
  intro l
  induction l with
  | nil => intro env h K hk; exact ⟨Agr.refl _ _, hk⟩
  | cons y l ih =>
    intro env h K hk
    obtain ⟨i, ks⟩ := y
    rw [opsD_cons] at hk ⊢
    obtain ⟨o, ho, hk⟩ := hk
    refine ⟨o, ho, stepD_mono (stepD_agr hk) fun e h ⟨hag, hkk, hk⟩ => ⟨hkk, opsD_mono ?_ (ih hk)⟩⟩
    rintro e' h' ⟨hag', hk'⟩
    refine ⟨(hag.trans hag').mono fun s hs => ?_, hk'⟩
    rw [Nat.testBit_or, Bool.or_eq_true] at hs
    rcases hs with hs | hs
    · exact mask_mem (by simpa using List.mem_of_getElem? (by simpa using ho : ops.toList[i]? = some o)) s hs
    · exact hs

def Ct.agr (C : Ct) (A : Ann) (m : Nat) (env : Env) : Ct :=
  { n := fun e h => Agr A m env e ∧ C.n e h, x := fun k e h => Agr A m env e ∧ C.x k e h, r := C.r }

theorem lookJ_some : ∀ {js : JS} {x : JT js} {s : Nat} {e : EV}, lookJ js x s = some e → (jsMask js).testBit s = true := by
  intro js
  match js with
  | [] => intro x s e h; cases h
  | [(t, b, c)] =>
    intro x s e h
    simp only [lookJ] at h
    cases hb : Nat.beq s t with
    | false => rw [hb] at h; cases h
    | true => rw [beqT.1 hb]; simp [jsMask]
  | (t, b, c) :: y :: l =>
    intro x s e h
    simp only [lookJ] at h
    cases hb : Nat.beq s t with
    | true => rw [beqT.1 hb]; simp [jsMask, Nat.testBit_or, Nat.testBit_two_pow]
    | false =>
      rw [hb] at h
      have := lookJ_some (js := y :: l) h
      unfold jsMask
      rw [Nat.testBit_or, this, Bool.or_true]

theorem agr_envJ {js : JS} {m : Nat} {env : Env} {x : JT js} (hj : subM (jsMask js) m = true) : Agr A m env (envJ A js m env x) := by
  intro s hs hr
  unfold envJ
  cases hl : lookJ js x s with
  | some e =>
    have := subM_spec hj s (lookJ_some hl)
    rw [hs] at this; cases this
  | none => simp [hs, hr]

theorem codeD_le {c : Code} {a : An} {env : Env} {h : Hp} {C C' : Ct} (hk : codeD A P N c a env h C) (hC : C.le C') : codeD A P N c a env h C' :=
  codeD_mono c a env h C C' hC hk

theorem codeD_agr : ∀ (c : Code) (a : An) (env : Env) (h : Hp) (C : Ct), codeD A P N c a env h C → codeD A P N c a env h (C.agr A (modsD A c a) env) := by
  intro c
  induction c with
  | skip => intro a env h C hk; exact ⟨Agr.refl _ _, hk⟩
  | label l => intro a env h C hk; exact ⟨Agr.refl _ _, hk⟩
  | region id ops draw =>
    intro a env h C hk
    cases a <;> try exact hk.elim
    rename_i seq
    cases draw with
    | true =>
      simp only [codeD] at hk ⊢
      cases hc : canonOk A P ops seq with
      | false => rw [hc] at hk; exact hk.elim
      | true => rw [hc] at hk; exact opsD_agr hk
    | false => exact opsD_agr hk
  | seq x y ihx ihy =>
    intro a env h C hk
    cases a <;> try exact hk.elim
    · rename_i a b
      simp only [codeD] at hk ⊢
      refine codeD_le (ihx a env h { C with n := fun e h => codeD A P N y b e h C } hk) ⟨?_, ?_, fun e h hk => hk⟩
      · rintro e h ⟨hag, hk⟩
        refine codeD_le (ihy b e h C hk) ⟨?_, ?_, fun e h hk => hk⟩
        · rintro e' h' ⟨hag', hk'⟩; exact ⟨hag.trans hag', hk'⟩
        · rintro k e' h' ⟨hag', hk'⟩; exact ⟨hag.trans hag', hk'⟩
      · rintro k e h ⟨hag, hk⟩
        exact ⟨hag.mono fun s hs => by show (modsD A x a ||| modsD A y b).testBit s = true; rw [Nat.testBit_or, hs, Bool.true_or], hk⟩
    · rename_i js m a b
      simp only [codeD] at hk ⊢
      cases hc : (subM (modsD A x a) m && subM (jsMask js) m) with
      | false => rw [hc] at hk; exact hk.elim
      | true =>
        rw [hc] at hk
        simp only [cond_true] at hk ⊢
        simp only [Bool.and_eq_true] at hc
        refine codeD_le (ihx a env h { C with n := fun e h => toJ js e h fun x h => codeD A P N y b (envJ A js m env x) h C } hk) ⟨?_, ?_, fun e h hk => hk⟩
        · rintro e h ⟨hag, hk⟩
          dsimp only at hk ⊢
          refine toJ_mono (fun z h hk => ?_) hk
          refine codeD_le (ihy b _ h C hk) ⟨?_, ?_, fun e h hk => hk⟩
          · rintro e' h' ⟨hag', hk'⟩; exact ⟨(agr_envJ hc.2).trans hag', hk'⟩
          · rintro k e' h' ⟨hag', hk'⟩; exact ⟨(agr_envJ hc.2).trans hag', hk'⟩
        · rintro k e h ⟨hag, hk⟩
          exact ⟨hag.mono fun s hs => by show (m ||| modsD A y b).testBit s = true; rw [Nat.testBit_or, subM_spec hc.1 s hs, Bool.true_or], hk⟩
  | cond o x y ihx ihy =>
    intro a env h C hk
    cases a <;> try exact hk.elim
    rename_i a b
    simp only [codeD] at hk ⊢
    split at hk
    · rename_i t ht
      cases t
      · refine codeD_le (ihy b env h C hk) ⟨?_, ?_, fun e h hk => hk⟩
        · rintro e h ⟨hag, hk⟩; exact ⟨hag.mono fun s hs => by show (modsD A x a ||| modsD A y b).testBit s = true; rw [Nat.testBit_or, hs, Bool.or_true], hk⟩
        · rintro k e h ⟨hag, hk⟩; exact ⟨hag.mono fun s hs => by show (modsD A x a ||| modsD A y b).testBit s = true; rw [Nat.testBit_or, hs, Bool.or_true], hk⟩
      · refine codeD_le (ihx a env h C hk) ⟨?_, ?_, fun e h hk => hk⟩
        · rintro e h ⟨hag, hk⟩; exact ⟨hag.mono fun s hs => by show (modsD A x a ||| modsD A y b).testBit s = true; rw [Nat.testBit_or, hs, Bool.true_or], hk⟩
        · rintro k e h ⟨hag, hk⟩; exact ⟨hag.mono fun s hs => by show (modsD A x a ||| modsD A y b).testBit s = true; rw [Nat.testBit_or, hs, Bool.true_or], hk⟩
    · exact hk.elim
  | block id c ih =>
    intro a env h C hk
    cases a <;> try exact hk.elim
    · rename_i a
      simp only [codeD] at hk ⊢
      refine codeD_le (ih a env h { C with x := fun k => bif Nat.beq k id then C.n else C.x k } hk) ⟨fun e h hk => hk, ?_, fun e h hk => hk⟩
      rintro k e h ⟨hag, hk⟩
      dsimp only at hk ⊢
      cases hb : Nat.beq k id with
      | true => rw [hb] at hk; exact ⟨hag, hk⟩
      | false => rw [hb] at hk; exact ⟨hag, hk⟩
    · rename_i js m a
      simp only [codeD] at hk ⊢
      cases hc : (subM (modsD A c a) m && subM (jsMask js) m) with
      | false => rw [hc] at hk; exact hk.elim
      | true =>
        rw [hc] at hk
        simp only [cond_true] at hk ⊢
        simp only [Bool.and_eq_true] at hc
        refine codeD_le (ih a env h { n := fun e h => toJ js e h fun x h => C.n (envJ A js m env x) h, x := fun k => bif Nat.beq k id then (fun e h => toJ js e h fun x h => C.n (envJ A js m env x) h) else C.x k, r := C.r } hk) ⟨?_, ?_, fun e h hk => hk⟩
        · rintro e h ⟨hag, hk⟩
          exact toJ_mono (fun z h hk => ⟨agr_envJ hc.2, hk⟩) hk
        · rintro k e h ⟨hag, hk⟩
          dsimp only at hk ⊢
          cases hb : Nat.beq k id with
          | true => rw [hb] at hk; exact toJ_mono (fun z h hk => ⟨agr_envJ hc.2, hk⟩) hk
          | false => rw [hb] at hk; exact ⟨hag.mono (subM_spec hc.1), hk⟩
  | loop c ih =>
    intro a env h C hk
    cases a <;> try exact hk.elim
    rename_i js m a
    simp only [codeD] at hk ⊢
    cases hc : (subM (modsD A c a) m && subM (jsMask js) m) with
    | false => rw [hc] at hk; exact hk.elim
    | true =>
      rw [hc] at hk
      simp only [cond_true] at hk ⊢
      simp only [Bool.and_eq_true] at hc
      split at hk
      · obtain ⟨I, μ, h0, hr⟩ := hk
        refine ⟨I, μ, h0, fun x h hI => codeD_le (ih a _ h { C with n := fun e h' => toJ js e h' fun x' h' => I x' h' ∧ μ x' h' < μ x h } (hr x h hI)) ⟨fun e h hk => hk.2, ?_, fun e h hk => hk⟩⟩
        rintro k e h ⟨hag, hk⟩
        refine ⟨((agr_envJ hc.2).trans (hag.mono (subM_spec hc.1))).mono fun s hs => ?_, hk⟩
        rw [Nat.testBit_or, Bool.or_self] at hs; exact hs
      · exact hk.elim
  | exit id => intro a env h C hk; exact ⟨Agr.refl _ _, hk⟩
  | ret => intro a env h C hk; exact hk
  | scope c ih => intro a env h C hk; exact hk.elim
  | goto l => intro a env h C hk; exact hk.elim
  | refuse s => intro a env h C hk; exact hk.elim
  | rangeFunc f p x y => intro a env h C hk; exact hk.elim
end
end Go.Eng
