/- Code: what it comes to, said on what is known of the frame. -/
import Derived.Test.YtmkgcdgpokidjaaGreatEO
set_option linter.unusedVariables false
namespace Go.Eng

/-- What is handed on where ways meet: slots, or variables of the frame's own, with their types. -/
abbrev JS := List (Nat × Bool × Cdc)
def JT : JS → Type
  | [] => Unit
  | [x] => x.2.2.T
  | x :: y :: l => x.2.2.T × JT (y :: l)

def decB (c : Cdc) (cs : List Value) : Option c.T :=
  match c.agg with
  | true => c.dec (.agg cs.toArray)
  | false => match cs with
    | [v] => bif isOne v then c.dec v else none
    | _ => none
def get1 (b : Bool) (c : Cdc) : EV → Option c.T
  | .val v => match b with
    | true => none
    | false => c.dec v
  | .box cs => match b with
    | true => decB c cs
    | false => none
  | _ => none
def getJ : (js : JS) → Env → Option (JT js)
  | [], _ => some ()
  | [(s, b, c)], env => get1 b c (env s)
  | (s, b, c) :: y :: l, env => match get1 b c (env s) with
    | some x => match getJ (y :: l) env with
      | some r => some (x, r)
      | none => none
    | none => none
def ev1 (b : Bool) (c : Cdc) (x : c.T) : EV :=
  match b with
  | true => .box (c.enc x).cells.toList
  | false => .val (c.enc x)
def lookJ : (js : JS) → JT js → Nat → Option EV
  | [], _, _ => none
  | [(s, b, c)], x, k => bif Nat.beq k s then some (ev1 b c x) else none
  | (s, b, c) :: y :: l, x, k => bif Nat.beq k s then some (ev1 b c x.1) else lookJ (y :: l) x.2 k
def envJ (A : Ann) (js : JS) (m : Nat) (env : Env) (x : JT js) : Env := fun s =>
  match lookJ js x s with
  | some e => e
  | none => bif m.testBit s || (A.refOf s).isSome then .unk else env s

/-- Where ways meet. -/
def joinP {T : Type} (J : T → Hp → Prop) (B : (T → Hp → Prop) → Prop) : Prop := B J
def loopP {T : Type} (x0 : T) (h0 : Hp) (B : (T → Hp → Prop) → T → Hp → Prop) : Prop :=
  ∃ (I : T → Hp → Prop) (μ : T → Hp → Nat), I x0 h0 ∧ ∀ x h, I x h → B (fun x' h' => I x' h' ∧ μ x' h' < μ x h) x h

inductive An : Type 1 where
  | leaf
  | reg (seq : Seq)
  | regX
  | seq (a b : An)
  | join (js : JS) (m : Nat) (a b : An)
  | cond (a b : An)
  | block (a : An)
  | blockJ (js : JS) (m : Nat) (a : An)
  | loop (js : JS) (m : Nat) (a : An)

structure Ct where
  n : Env → Hp → Prop
  x : Nat → Env → Hp → Prop
  r : Option Value → Env → Hp → Prop

def toJ (js : JS) (e : Env) (h : Hp) (J : JT js → Hp → Prop) : Prop :=
  match getJ js e with
  | some x => J x h
  | none => False

def bit1 : Option Nat → Nat
  | some d => 2 ^ d
  | none => 0
def maskW (A : Ann) : List Oper → Nat
  | [] => 0
  | o :: l => bit1 o.dst ||| (bit1 (effDst A o) ||| maskW A l)
def subM (a b : Nat) : Bool := Nat.beq (a ||| b) b
def jsMask : JS → Nat
  | [] => 0
  | x :: l => 2 ^ x.1 ||| jsMask l

def modsD (A : Ann) : Code → An → Nat
  | .region _ ops _, _ => maskW A ops.toList
  | .seq a b, .seq a' b' => modsD A a a' ||| modsD A b b'
  | .seq _ b, .join _ m _ b' => m ||| modsD A b b'
  | .cond _ x y, .cond x' y' => modsD A x x' ||| modsD A y y'
  | .block _ c, .block a => modsD A c a
  | .block _ _, .blockJ _ m _ => m
  | .loop _, .loop _ m _ => m
  | _, _ => 0

def rangeSeq (n : Nat) : Seq := (List.range n).map fun i => (i, [])

def isX (A : Ann) (P : Program) (o : Oper) : Bool :=
  match o.guard with
  | some _ => false
  | none => match o.op with
    | .panic _ => true
    | .typeAssert _ _ _ true => true
    | .binOp .neq _ _ (.const .nilIface) _ => true
    | .call c => match c.callee, c.argTypes[1]? with
      | .value (.func g), _ => A.pan g
      | .builtin .cap, _ => true
      | .builtin .append, some u => (match P.underlying u with | some (.int _) => true | _ => false)
      | _, _ => false
    | _ => false
/-- What such an operation lays. -/
def valX (A : Ann) (P : Program) (o : Oper) (env : Env) : Option Value :=
  match o.op with
  | .typeAssert x _ t true => match look A env x, P.underlying t with
    | .v (.iface t' v), some (.struct _) => bif Nat.beq t' t then some (.tuple #[v, .bool true]) else (match zeroV P t with
      | some z => some (.tuple #[z, .bool false])
      | none => none)
    | _, _ => none
  | .binOp .neq t x (.const .nilIface) _ => match look A env x, P.underlying t with
    | .v (.iface _ _), some (.interface _) => some (.bool true)
    | .v .nilIface, some (.interface _) => some (.bool false)
    | _, _ => none
  | .call c => match c.callee, c.argTypes[0]?, vals (look A env) c.args.toList with
    | .builtin .cap, some t, some [.slice _ _ n] => (match P.underlying t with
      | some (.slice _) => some (.int .i64 (n : Int))
      | _ => none)
    | _, _, _ => none
  | _ => none
/-- An operation that may panic. -/
def panX (A : Ann) (P : Program) (N : Nat) (o : Oper) (env : Env) (h : Hp) (K : Env → Hp → Prop) (S : Value → Env → Hp → Prop) : Prop :=
  match valX A P o env with
  | some v => bif dstOk N o then K (put A env o.dst (.val v)) h else False
  | none => match o.op with
    | .panic x => match look A env x with
      | .v (.iface t v) => S (.iface t v) env h
      | _ => False
    | .call c => bif dstOk N o then (match c.callee with
      | .value (.func g) => match vals (look A env) c.args.toList, A.res g, P.funcs[g]? with
        | some l, some r, some fn => match fn.body with
          | some _ => callXP P g l r h (fun y h' => K (put A env o.dst (.val (r.enc y))) h') (fun v h' => S v env h')
          | none => False
        | _, _, _ => False
      | .builtin .append => match c.argTypes[0]?, c.argTypes[1]?, vals (look A env) c.args.toList with
        | some t, some u, some [.slice a len cap, .int _ n] => match P.underlying t, P.underlying u with
          | some (.slice e), some (.int _) => match A.cdc e, zeroV P e with
            | some cd, some zv => bif fitsT P cd e && (Nat.ble 1 (bytesT P e) && Nat.ble (bytesT P e) 1048576) then
                (match cd.dec zv with
                | some z => growP cd z e (bytesT P e) a len cap n h fun a' l' c' h' => K (put A env o.dst (.val (.slice a' l' c'))) h'
                | none => False)
              else False
            | _, _ => False
          | _, _ => False
        | _, _, _ => False
      | _ => False) else False
    | _ => False
def stepX (A : Ann) (P : Program) (N : Nat) (ops : Array Oper) (o : Oper) (env : Env) (h : Hp) (K : Env → Hp → Prop) (S : Value → Env → Hp → Prop) : Prop :=
  bif isX A P o then panX A P N o env h K S else stepD A P N ops o env h K
def opsX (A : Ann) (P : Program) (N : Nat) (ops : Array Oper) : List Nat → Env → Hp → (Env → Hp → Prop) → (Value → Env → Hp → Prop) → Prop
  | [], env, h, K, _ => K env h
  | i :: l, env, h, K, S => match ops[i]? with
    | some o => stepX A P N ops o env h (fun e h => opsX A P N ops l e h K S) S
    | none => False

def codeD (A : Ann) (P : Program) (N : Nat) : Code → An → Env → Hp → Ct → Prop
  | .skip, _, env, h, C => C.n env h
  | .label _, _, env, h, C => C.n env h
  | .region _ ops draw, .reg seq, env, h, C => match draw with
    | true => bif canonOk A P ops seq then opsD A P N ops seq env h C.n else False
    | false => opsD A P N ops (rangeSeq ops.size) env h C.n
  | .region _ ops draw, .regX, env, h, C => match draw with
    | true => False
    | false => opsX A P N ops (List.range ops.size) env h C.n fun v => C.r (some v)
  | .seq a b, .seq a' b', env, h, C => codeD A P N a a' env h { C with n := fun e h => codeD A P N b b' e h C }
  | .seq a b, .join js m a' b', env, h, C => bif subM (modsD A a a') m && subM (jsMask js) m then
      joinP (fun x h => codeD A P N b b' (envJ A js m env x) h C) fun J => codeD A P N a a' env h { C with n := fun e h => toJ js e h J }
    else False
  | .cond c x y, .cond x' y', env, h, C => match look A env c with
    | .v (.bool b) => condP b (codeD A P N x x' env h C) (codeD A P N y y' env h C)
    | _ => False
  | .block id c, .block a, env, h, C => codeD A P N c a env h { C with x := fun k => bif Nat.beq k id then C.n else C.x k }
  | .block id c, .blockJ js m a, env, h, C => bif subM (modsD A c a) m && subM (jsMask js) m then
      joinP (fun x h => C.n (envJ A js m env x) h) fun J => codeD A P N c a env h { n := fun e h => toJ js e h J, x := fun k => bif Nat.beq k id then (fun e h => toJ js e h J) else C.x k, r := C.r }
    else False
  | .loop c, .loop js m a, env, h, C => bif subM (modsD A c a) m && subM (jsMask js) m then
      (match getJ js env with
      | some x0 => loopP x0 h fun again x h => codeD A P N c a (envJ A js m env x) h { C with n := fun e h => toJ js e h again }
      | none => False)
    else False
  | .exit id, _, env, h, C => C.x id env h
  | .ret, _, env, h, C => C.r none env h
  | _, _, _, _, _ => False

def Ct.le (C C' : Ct) : Prop := (∀ e h, C.n e h → C'.n e h) ∧ (∀ k e h, C.x k e h → C'.x k e h) ∧ ∀ o e h, C.r o e h → C'.r o e h

section
variable {A : Ann} {P : Program} {N : Nat}

theorem toJ_mono {js : JS} {e : Env} {h : Hp} {J J' : JT js → Hp → Prop} (hJ : ∀ x h, J x h → J' x h) (hk : toJ js e h J) : toJ js e h J' := by
  unfold toJ at hk ⊢
  split at hk
  · exact hJ _ _ hk
  · exact hk.elim

theorem SpecX.mono {f : FuncId} {args : Array Value} {h : Hp} {R R' S S' : Value → Hp → Prop} (s : SpecX P f args h R S) (hr : ∀ v h', R v h' → R' v h') (hs : ∀ v h', S v h' → S' v h') : SpecX P f args h R' S' :=
  fun w fr a b c => (s w fr a b c).mono fun _ _ ⟨v, h', he, rest⟩ => ⟨v, h', he.imp (fun ⟨e, k⟩ => ⟨e, hr _ _ k⟩) (fun ⟨e, k⟩ => ⟨e, hs _ _ k⟩), rest⟩
theorem isX_guard {o : Oper} (h : isX A P o = true) : o.guard = none := by
  unfold isX at h
  split at h
  · cases h
  · assumption
/-- What an operation that may panic does: a value, a panic, a call that may panic, zeros appended. -/
def PanK (A : Ann) (P : Program) (N : Nat) (o : Oper) (env : Env) (h : Hp) (K : Env → Hp → Prop) (S : Value → Env → Hp → Prop) : Prop :=
  (dstOk N o = true ∧ ∃ v, valX A P o env = some v ∧ K (put A env o.dst (.val v)) h) ∨
  (valX A P o env = none ∧ ((∃ x t v, o.op = .panic x ∧ look A env x = .v (.iface t v) ∧ S (.iface t v) env h) ∨
    (∃ c, o.op = .call c ∧ dstOk N o = true ∧
      ((∃ g l r fn b, c.callee = .value (.func g) ∧ vals (look A env) c.args.toList = some l ∧ A.res g = some r ∧ P.funcs[g]? = some fn ∧ fn.body = some b ∧
        callXP P g l r h (fun y h' => K (put A env o.dst (.val (r.enc y))) h') (fun v h' => S v env h')) ∨
      (∃ t u a len cap k n e k' cd zv z, c.callee = .builtin .append ∧ c.argTypes[0]? = some t ∧ c.argTypes[1]? = some u ∧ vals (look A env) c.args.toList = some [.slice a len cap, .int k n] ∧ P.underlying t = some (.slice e) ∧ P.underlying u = some (.int k') ∧
        A.cdc e = some cd ∧ zeroV P e = some zv ∧ fitsT P cd e = true ∧ (1 ≤ bytesT P e ∧ bytesT P e ≤ 1048576) ∧ cd.dec zv = some z ∧
        growP cd z e (bytesT P e) a len cap n h fun a' l' c' h' => K (put A env o.dst (.val (.slice a' l' c'))) h')))))
theorem panX_cases {o : Oper} {env : Env} {h : Hp} {K : Env → Hp → Prop} {S : Value → Env → Hp → Prop} (hk : panX A P N o env h K S) : PanK A P N o env h K S := by
  unfold panX at hk
  split at hk
  · rename_i v hv
    cases hd : dstOk N o with
    | false => rw [hd] at hk; exact hk.elim
    | true => rw [hd] at hk; exact .inl ⟨hd, v, hv, hk⟩
  · rename_i hv
    refine .inr ⟨hv, ?_⟩
    split at hk
    · rename_i x hop
      split at hk
      · rename_i t v hl; exact .inl ⟨x, t, v, hop, hl, hk⟩
      · exact hk.elim
    · rename_i c hop
      cases hd : dstOk N o with
      | false => rw [hd] at hk; exact hk.elim
      | true =>
        rw [hd] at hk
        simp only [cond_true] at hk
        refine .inr ⟨c, hop, rfl, ?_⟩
        split at hk
        · rename_i g hcal
          split at hk
          · rename_i l r fn hl hr hfn
            split at hk
            · rename_i b hb; exact .inl ⟨g, l, r, fn, b, hcal, hl, hr, hfn, hb, hk⟩
            · exact hk.elim
          · exact hk.elim
        · rename_i hcal
          split at hk
          · rename_i t u a len cap k n ht hu hl
            split at hk
            · rename_i e k' ht' hu'
              split at hk
              · rename_i cd zv hcd hzv
                cases hb : (fitsT P cd e && (Nat.ble 1 (bytesT P e) && Nat.ble (bytesT P e) 1048576)) with
                | false => rw [hb] at hk; exact hk.elim
                | true =>
                  rw [hb] at hk
                  simp only [cond_true] at hk
                  simp only [Bool.and_eq_true] at hb
                  split at hk
                  · rename_i z hz
                    exact .inr ⟨t, u, a, len, cap, k, n, e, k', cd, zv, z, hcal, ht, hu, hl, ht', hu', hcd, hzv, hb.1, ⟨Nat.le_of_ble_eq_true hb.2.1, Nat.le_of_ble_eq_true hb.2.2⟩, hz, hk⟩
                  · exact hk.elim
              · exact hk.elim
            · exact hk.elim
          · exact hk.elim
        · exact hk.elim
    · exact hk.elim
theorem panX_mk {o : Oper} {env : Env} {h : Hp} {K : Env → Hp → Prop} {S : Value → Env → Hp → Prop} (hk : PanK A P N o env h K S) : panX A P N o env h K S := by
  unfold panX
  rcases hk with ⟨hd, v, hv, hk⟩ | ⟨hv, ⟨x, t, v, hop, hl, hk⟩ | ⟨c, hop, hd, ⟨g, l, r, fn, b, hcal, hl, hr, hfn, hb, hk⟩ | ⟨t, u, a, len, cap, k, n, e, k', cd, zv, z, hcal, ht, hu, hl, ht', hu', hcd, hzv, hf, hb, hz, hk⟩⟩⟩
  · rw [hv]; dsimp only; rw [hd]; exact hk
  · rw [hv]; dsimp only; rw [hop]; dsimp only; rw [hl]; exact hk
  · rw [hv]; dsimp only; rw [hop]; dsimp only; rw [hd]; simp only [cond_true]; rw [hcal]; dsimp only; rw [hl, hr, hfn]; dsimp only; rw [hb]; exact hk
  · rw [hv]; dsimp only; rw [hop]; dsimp only; rw [hd]; simp only [cond_true]; rw [hcal]; dsimp only; rw [hl, ht, hu]; dsimp only; rw [ht', hu']; dsimp only; rw [hcd, hzv]; dsimp only
    rw [hf, Nat.ble_eq_true_of_le hb.1, Nat.ble_eq_true_of_le hb.2]
    simp only [Bool.and_self, cond_true]
    rw [hz]; exact hk
theorem growP_mono {c : Cdc} {z : c.T} {e : TypeId} {bytes : Nat} {a : Option Addr} {len cap : Nat} {n : Int} {h : Hp} {K K' : Option Addr → Nat → Nat → Hp → Prop} (hK : ∀ a l c h, K a l c h → K' a l c h) (hk : growP c z e bytes a len cap n h K) : growP c z e bytes a len cap n h K' := by
  obtain ⟨h0, h1, h2, h3⟩ := hk
  refine ⟨h0, h1, fun hc => ?_, fun hc => ?_⟩
  · have := h2 hc
    cases a with
    | none => exact hK _ _ _ _ this
    | some ad => exact ⟨this.1, hK _ _ _ _ this.2⟩
  · obtain ⟨hr, he⟩ := h3 hc
    refine ⟨hr, ?_⟩
    have mono : ∀ {R R' : List c.T → Prop}, (∀ xs, R xs → R' xs) → elemsP c a len h R → elemsP c a len h R' := by
      intro R R' hRR he
      unfold elemsP at he ⊢
      cases a with
      | none => exact ⟨he.1, hRR _ he.2⟩
      | some ad => obtain ⟨xs, e1, e2, e3⟩ := he; exact ⟨xs, e1, e2, hRR _ e3⟩
    exact mono (fun xs hx nc pad e1 e2 b hb => hK _ _ _ _ (hx nc pad e1 e2 b hb)) he
theorem panX_mono {o : Oper} {env : Env} {h : Hp} {K K' : Env → Hp → Prop} {S S' : Value → Env → Hp → Prop} (hK : ∀ e h, K (put A env o.dst e) h → K' (put A env o.dst e) h) (hS : ∀ v e h, S v e h → S' v e h) (hk : panX A P N o env h K S) :
    panX A P N o env h K' S' := by
  rcases panX_cases hk with ⟨hd, v, hv, hk⟩ | ⟨hv, ⟨x, t, v, hop, hl, hk⟩ | ⟨c, hop, hd, ⟨g, l, r, fn, b, hcal, hl, hr, hfn, hb, hk⟩ | ⟨t, u, a, len, cap, k, n, e, k', cd, zv, z, hcal, ht, hu, hl, ht', hu', hcd, hzv, hf, hb, hz, hk⟩⟩⟩
  · exact panX_mk (.inl ⟨hd, v, hv, hK _ _ hk⟩)
  · exact panX_mk (.inr ⟨hv, .inl ⟨x, t, v, hop, hl, hS _ _ _ hk⟩⟩)
  · exact panX_mk (.inr ⟨hv, .inr ⟨c, hop, hd, .inl ⟨g, l, r, fn, b, hcal, hl, hr, hfn, hb, SpecX.mono hk (fun v h' ⟨x, e, k⟩ => ⟨x, e, hK _ _ k⟩) (fun v h' k => hS _ _ _ k)⟩⟩⟩)
  · exact panX_mk (.inr ⟨hv, .inr ⟨c, hop, hd, .inr ⟨t, u, a, len, cap, k, n, e, k', cd, zv, z, hcal, ht, hu, hl, ht', hu', hcd, hzv, hf, hb, hz, growP_mono (fun a l c h k => hK _ _ k) hk⟩⟩⟩)
theorem stepX_mono {ops : Array Oper} {o : Oper} {env : Env} {h : Hp} {K K' : Env → Hp → Prop} {S S' : Value → Env → Hp → Prop} (hK : ∀ e h, K e h → K' e h) (hS : ∀ v e h, S v e h → S' v e h) (hk : stepX A P N ops o env h K S) :
    stepX A P N ops o env h K' S' := by
  unfold stepX at hk ⊢
  cases hx : isX A P o with
  | true => rw [hx] at hk; exact panX_mono (fun e h => hK _ h) hS hk
  | false => rw [hx] at hk; exact stepD_mono hk hK
theorem opsX_mono {ops : Array Oper} : ∀ {l : List Nat} {env : Env} {h : Hp} {K K' : Env → Hp → Prop} {S S' : Value → Env → Hp → Prop}, (∀ e h, K e h → K' e h) → (∀ v e h, S v e h → S' v e h) → opsX A P N ops l env h K S → opsX A P N ops l env h K' S' := by
  intro l
  induction l with
  | nil => intro env h K K' S S' hK _ hk; exact hK _ _ hk
  | cons i l ih =>
    intro env h K K' S S' hK hS hk
    unfold opsX at hk ⊢
    split at hk
    · rename_i o ho
      exact stepX_mono (fun e h hk => ih hK hS hk) hS hk
    · exact hk.elim

theorem codeD_mono : ∀ (c : Code) (a : An) (env : Env) (h : Hp) (C C' : Ct), C.le C' → codeD A P N c a env h C → codeD A P N c a env h C' := by
  intro c
  induction c with
  | skip => intro a env h C C' hC hk; exact hC.1 _ _ hk
  | label l => intro a env h C C' hC hk; exact hC.1 _ _ hk
  | region id ops draw =>
    intro a env h C C' hC hk
    cases a <;> try exact hk.elim
    · rename_i seq
      cases draw with
      | true =>
        simp only [codeD] at hk ⊢
        cases hc : canonOk A P ops seq with
        | false => rw [hc] at hk; exact hk.elim
        | true => rw [hc] at hk; exact opsD_mono hC.1 hk
      | false => exact opsD_mono hC.1 hk
    · cases draw with
      | true => exact hk.elim
      | false => exact opsX_mono hC.1 (fun v => hC.2.2 (some v)) hk
  | seq x y ihx ihy =>
    intro a env h C C' hC hk
    cases a <;> try exact hk.elim
    · rename_i a b
      exact ihx a env h { C with n := fun e h => codeD A P N y b e h C } { C' with n := fun e h => codeD A P N y b e h C' } ⟨fun e h hk => ihy b e h C C' hC hk, hC.2⟩ hk
    · rename_i js m a b
      simp only [codeD] at hk ⊢
      cases hc : (subM (modsD A x a) m && subM (jsMask js) m) with
      | false => rw [hc] at hk; exact hk.elim
      | true =>
        rw [hc] at hk
        exact ihx a env h { C with n := fun e h => toJ js e h fun x h => codeD A P N y b (envJ A js m env x) h C } { C' with n := fun e h => toJ js e h fun x h => codeD A P N y b (envJ A js m env x) h C' } ⟨fun e h hk => toJ_mono (fun z h hk => ihy b _ h C C' hC hk) hk, hC.2⟩ hk
  | cond o x y ihx ihy =>
    intro a env h C C' hC hk
    cases a <;> try exact hk.elim
    rename_i a b
    simp only [codeD] at hk ⊢
    split at hk
    · rename_i t ht
      cases t
      · exact ihy b env h C C' hC hk
      · exact ihx a env h C C' hC hk
    · exact hk.elim
  | block id c ih =>
    intro a env h C C' hC hk
    cases a <;> try exact hk.elim
    · rename_i a
      refine ih a env h { C with x := fun k => bif Nat.beq k id then C.n else C.x k } { C' with x := fun k => bif Nat.beq k id then C'.n else C'.x k } ⟨hC.1, ?_, hC.2.2⟩ hk
      intro k e h hk
      dsimp only at hk ⊢
      cases hb : Nat.beq k id with
      | true => rw [hb] at hk; exact hC.1 _ _ hk
      | false => rw [hb] at hk; exact hC.2.1 _ _ _ hk
    · rename_i js m a
      simp only [codeD] at hk ⊢
      cases hc : (subM (modsD A c a) m && subM (jsMask js) m) with
      | false => rw [hc] at hk; exact hk.elim
      | true =>
        rw [hc] at hk
        refine ih a env h { n := fun e h => toJ js e h fun x h => C.n (envJ A js m env x) h, x := fun k => bif Nat.beq k id then (fun e h => toJ js e h fun x h => C.n (envJ A js m env x) h) else C.x k, r := C.r }
          { n := fun e h => toJ js e h fun x h => C'.n (envJ A js m env x) h, x := fun k => bif Nat.beq k id then (fun e h => toJ js e h fun x h => C'.n (envJ A js m env x) h) else C'.x k, r := C'.r } ⟨fun e h hk => toJ_mono (fun z h hk => hC.1 _ _ hk) hk, ?_, hC.2.2⟩ hk
        intro k e h hk
        dsimp only at hk ⊢
        cases hb : Nat.beq k id with
        | true => rw [hb] at hk; exact toJ_mono (fun z h hk => hC.1 _ _ hk) hk
        | false => rw [hb] at hk; exact hC.2.1 _ _ _ hk
  | loop c ih =>
    intro a env h C C' hC hk
    cases a <;> try exact hk.elim
    rename_i js m a
    simp only [codeD] at hk ⊢
    cases hc : (subM (modsD A c a) m && subM (jsMask js) m) with
    | false => rw [hc] at hk; exact hk.elim
    | true =>
      rw [hc] at hk
      simp only [cond_true] at hk ⊢
      split at hk
      · obtain ⟨I, μ, h0, hr⟩ := hk
        exact ⟨I, μ, h0, fun x h hI => ih a _ h { C with n := fun e h' => toJ js e h' fun x' h' => I x' h' ∧ μ x' h' < μ x h } { C' with n := fun e h' => toJ js e h' fun x' h' => I x' h' ∧ μ x' h' < μ x h } ⟨fun e h hk => hk, hC.2⟩ (hr x h hI)⟩
      · exact hk.elim
  | exit id => intro a env h C C' hC hk; exact hC.2.1 _ _ _ hk
  | ret => intro a env h C C' hC hk; exact hC.2.2 _ _ _ hk
  | scope c ih => intro a env h C C' hC hk; exact hk.elim
  | goto l => intro a env h C C' hC hk; exact hk.elim
  | refuse s => intro a env h C C' hC hk; exact hk.elim
  | rangeFunc f p x y => intro a env h C C' hC hk; exact hk.elim

/-! ### what is not turned stays known -/
def Agr (A : Ann) (m : Nat) (env env' : Env) : Prop := ∀ s, m.testBit s = false → A.refOf s = none → env' s = env s
theorem Agr.refl (m : Nat) (env : Env) : Agr A m env env := fun _ _ _ => rfl
theorem Agr.trans {m m' : Nat} {a b c : Env} (h : Agr A m a b) (k : Agr A m' b c) : Agr A (m ||| m') a c := by
  intro s hs hr
  simp only [Nat.testBit_or, Bool.or_eq_false_iff] at hs
  exact (k s hs.2 hr).trans (h s hs.1 hr)
theorem Agr.mono {m m' : Nat} {a b : Env} (h : Agr A m a b) (hm : ∀ s, m.testBit s = true → m'.testBit s = true) : Agr A m' a b := by
  intro s hs hr
  refine h s ?_ hr
  cases hb : m.testBit s with
  | false => rfl
  | true => rw [hm s hb] at hs; cases hs
theorem subM_spec {a b : Nat} (h : subM a b = true) : ∀ s, a.testBit s = true → b.testBit s = true := by
  intro s hs
  have := beqT.1 h
  rw [← this, Nat.testBit_or, hs, Bool.true_or]

theorem agr_put {env : Env} {d : Option Tmp} {e : EV} : Agr A (bit1 d) env (put A env d e) := by
  intro s hs hr
  cases d with
  | none => rfl
  | some d =>
    have hne : s ≠ d := by
      rintro rfl
      simp [bit1] at hs
    rcases put_ne (A := A) (env := env) e hne with h | ⟨_, _, h3⟩
    · exact h
    · rw [hr] at h3; cases h3

theorem stepD_agr {ops : Array Oper} {o : Oper} {env : Env} {h : Hp} {K : Env → Hp → Prop} (hk : stepD A P N ops o env h K) :
    stepD A P N ops o env h fun e h => Agr A (bit1 o.dst ||| bit1 (effDst A o)) env e ∧ K e h := by
  refine stepD_trans hk (AgreeO.refl o env) fun d hd e h' _ hk => ⟨?_, hk⟩
  rcases hd with rfl | rfl
  · exact agr_put.mono fun s hs => by rw [Nat.testBit_or, hs, Bool.true_or]
  · exact agr_put.mono fun s hs => by rw [Nat.testBit_or, hs, Bool.or_true]

theorem mask_mem {A : Ann} {o : Oper} : ∀ {l : List Oper}, o ∈ l → ∀ s, (bit1 o.dst ||| bit1 (effDst A o)).testBit s = true → (maskW A l).testBit s = true := by
  intro l
  induction l with
  | nil => intro h; cases h
  | cons x l ih =>
    intro h s hs
    simp only [maskW, Nat.testBit_or, Bool.or_eq_true] at hs ⊢
    rcases List.mem_cons.1 h with rfl | h
    · rcases hs with hs | hs
      · exact .inl hs
      · exact .inr (.inl hs)
    · exact .inr (.inr (ih h s (by simpa [Nat.testBit_or] using hs)))

theorem opsD_agr {ops : Array Oper} : ∀ {l : Seq} {env : Env} {h : Hp} {K : Env → Hp → Prop}, opsD A P N ops l env h K → opsD A P N ops l env h fun e h => Agr A (maskW A ops.toList) env e ∧ K e h := by
  intro l
  induction l with
  | nil => intro env h K hk; exact ⟨Agr.refl _ _, hk⟩
  | cons y l ih =>
    intro env h K hk
    obtain ⟨i, ks⟩ := y
    rw [opsD_cons] at hk ⊢
    obtain ⟨o, ho, hk⟩ := hk
    refine ⟨o, ho, stepD_mono (stepD_agr hk) fun e h ⟨hag, hkk, hk⟩ => ⟨hkk, opsD_mono ?_ (ih hk)⟩⟩
    rintro e' h' ⟨hag', hk'⟩
    refine ⟨(hag.trans hag').mono fun s hs => ?_, hk'⟩
    rw [Nat.testBit_or, Bool.or_eq_true] at hs
    rcases hs with hs | hs
    · exact mask_mem (by simpa using List.mem_of_getElem? (by simpa using ho : ops.toList[i]? = some o)) s hs
    · exact hs

theorem stepX_agr {ops : Array Oper} {o : Oper} {env : Env} {h : Hp} {K : Env → Hp → Prop} {S : Value → Env → Hp → Prop} (hk : stepX A P N ops o env h K S) :
    stepX A P N ops o env h (fun e h => Agr A (bit1 o.dst ||| bit1 (effDst A o)) env e ∧ K e h) S := by
  unfold stepX at hk ⊢
  cases hx : isX A P o with
  | true => rw [hx] at hk; exact panX_mono (K' := fun e h => Agr A (bit1 o.dst ||| bit1 (effDst A o)) env e ∧ K e h) (fun e h hk => ⟨agr_put.mono fun s hs => by rw [Nat.testBit_or, hs, Bool.true_or], hk⟩) (fun _ _ _ h => h) hk
  | false => rw [hx] at hk; exact stepD_agr hk
theorem opsX_agr {ops : Array Oper} : ∀ {l : List Nat} {env : Env} {h : Hp} {K : Env → Hp → Prop} {S : Value → Env → Hp → Prop}, opsX A P N ops l env h K S → opsX A P N ops l env h (fun e h => Agr A (maskW A ops.toList) env e ∧ K e h) S := by
  intro l
  induction l with
  | nil => intro env h K S hk; exact ⟨Agr.refl _ _, hk⟩
  | cons i l ih =>
    intro env h K S hk
    unfold opsX at hk ⊢
    split at hk
    · rename_i o ho
      refine stepX_mono ?_ (fun _ _ _ h => h) (stepX_agr hk)
      rintro e h ⟨hag, hk⟩
      refine opsX_mono ?_ (fun _ _ _ h => h) (ih hk)
      rintro e' h' ⟨hag', hk'⟩
      refine ⟨(hag.trans hag').mono fun s hs => ?_, hk'⟩
      rw [Nat.testBit_or, Bool.or_eq_true] at hs
      rcases hs with hs | hs
      · exact mask_mem (by simpa using List.mem_of_getElem? (by simpa using ho : ops.toList[i]? = some o)) s hs
      · exact hs
    · exact hk.elim

def Ct.agr (C : Ct) (A : Ann) (m : Nat) (env : Env) : Ct :=
  { n := fun e h => Agr A m env e ∧ C.n e h, x := fun k e h => Agr A m env e ∧ C.x k e h, r := C.r }

theorem lookJ_some : ∀ {js : JS} {x : JT js} {s : Nat} {e : EV}, lookJ js x s = some e → (jsMask js).testBit s = true := by
  intro js
  match js with
  | [] => intro x s e h; cases h
  | [(t, b, c)] =>
    intro x s e h
    simp only [lookJ] at h
    cases hb : Nat.beq s t with
    | false => rw [hb] at h; cases h
    | true => rw [beqT.1 hb]; simp [jsMask]
  | (t, b, c) :: y :: l =>
    intro x s e h
    simp only [lookJ] at h
    cases hb : Nat.beq s t with
    | true => rw [beqT.1 hb]; simp [jsMask, Nat.testBit_or, Nat.testBit_two_pow]
    | false =>
      rw [hb] at h
      have := lookJ_some (js := y :: l) h
      unfold jsMask
      rw [Nat.testBit_or, this, Bool.or_true]

theorem agr_envJ {js : JS} {m : Nat} {env : Env} {x : JT js} (hj : subM (jsMask js) m = true) : Agr A m env (envJ A js m env x) := by
  intro s hs hr
  unfold envJ
  cases hl : lookJ js x s with
  | some e =>
    have := subM_spec hj s (lookJ_some hl)
    rw [hs] at this; cases this
  | none => simp [hs, hr]

theorem codeD_le {c : Code} {a : An} {env : Env} {h : Hp} {C C' : Ct} (hk : codeD A P N c a env h C) (hC : C.le C') : codeD A P N c a env h C' :=
  codeD_mono c a env h C C' hC hk

theorem codeD_agr : ∀ (c : Code) (a : An) (env : Env) (h : Hp) (C : Ct), codeD A P N c a env h C → codeD A P N c a env h (C.agr A (modsD A c a) env) := by
  intro c
  induction c with
  | skip => intro a env h C hk; exact ⟨Agr.refl _ _, hk⟩
  | label l => intro a env h C hk; exact ⟨Agr.refl _ _, hk⟩
  | region id ops draw =>
    intro a env h C hk
    cases a <;> try exact hk.elim
    · rename_i seq
      cases draw with
      | true =>
        simp only [codeD] at hk ⊢
        cases hc : canonOk A P ops seq with
        | false => rw [hc] at hk; exact hk.elim
        | true => rw [hc] at hk; exact opsD_agr hk
      | false => exact opsD_agr hk
    · cases draw with
      | true => exact hk.elim
      | false => exact opsX_agr hk
  | seq x y ihx ihy =>
    intro a env h C hk
    cases a <;> try exact hk.elim
    · rename_i a b
      simp only [codeD] at hk ⊢
      refine codeD_le (ihx a env h { C with n := fun e h => codeD A P N y b e h C } hk) ⟨?_, ?_, fun _ e h hk => hk⟩
      · rintro e h ⟨hag, hk⟩
        refine codeD_le (ihy b e h C hk) ⟨?_, ?_, fun _ e h hk => hk⟩
        · rintro e' h' ⟨hag', hk'⟩; exact ⟨hag.trans hag', hk'⟩
        · rintro k e' h' ⟨hag', hk'⟩; exact ⟨hag.trans hag', hk'⟩
      · rintro k e h ⟨hag, hk⟩
        exact ⟨hag.mono fun s hs => by show (modsD A x a ||| modsD A y b).testBit s = true; rw [Nat.testBit_or, hs, Bool.true_or], hk⟩
    · rename_i js m a b
      simp only [codeD] at hk ⊢
      cases hc : (subM (modsD A x a) m && subM (jsMask js) m) with
      | false => rw [hc] at hk; exact hk.elim
      | true =>
        rw [hc] at hk
        simp only [cond_true] at hk ⊢
        simp only [Bool.and_eq_true] at hc
        refine codeD_le (ihx a env h { C with n := fun e h => toJ js e h fun x h => codeD A P N y b (envJ A js m env x) h C } hk) ⟨?_, ?_, fun _ e h hk => hk⟩
        · rintro e h ⟨hag, hk⟩
          dsimp only at hk ⊢
          refine toJ_mono (fun z h hk => ?_) hk
          refine codeD_le (ihy b _ h C hk) ⟨?_, ?_, fun _ e h hk => hk⟩
          · rintro e' h' ⟨hag', hk'⟩; exact ⟨(agr_envJ hc.2).trans hag', hk'⟩
          · rintro k e' h' ⟨hag', hk'⟩; exact ⟨(agr_envJ hc.2).trans hag', hk'⟩
        · rintro k e h ⟨hag, hk⟩
          exact ⟨hag.mono fun s hs => by show (m ||| modsD A y b).testBit s = true; rw [Nat.testBit_or, subM_spec hc.1 s hs, Bool.true_or], hk⟩
  | cond o x y ihx ihy =>
    intro a env h C hk
    cases a <;> try exact hk.elim
    rename_i a b
    simp only [codeD] at hk ⊢
    split at hk
    · rename_i t ht
      cases t
      · refine codeD_le (ihy b env h C hk) ⟨?_, ?_, fun _ e h hk => hk⟩
        · rintro e h ⟨hag, hk⟩; exact ⟨hag.mono fun s hs => by show (modsD A x a ||| modsD A y b).testBit s = true; rw [Nat.testBit_or, hs, Bool.or_true], hk⟩
        · rintro k e h ⟨hag, hk⟩; exact ⟨hag.mono fun s hs => by show (modsD A x a ||| modsD A y b).testBit s = true; rw [Nat.testBit_or, hs, Bool.or_true], hk⟩
      · refine codeD_le (ihx a env h C hk) ⟨?_, ?_, fun _ e h hk => hk⟩
        · rintro e h ⟨hag, hk⟩; exact ⟨hag.mono fun s hs => by show (modsD A x a ||| modsD A y b).testBit s = true; rw [Nat.testBit_or, hs, Bool.true_or], hk⟩
        · rintro k e h ⟨hag, hk⟩; exact ⟨hag.mono fun s hs => by show (modsD A x a ||| modsD A y b).testBit s = true; rw [Nat.testBit_or, hs, Bool.true_or], hk⟩
    · exact hk.elim
  | block id c ih =>
    intro a env h C hk
    cases a <;> try exact hk.elim
    · rename_i a
      simp only [codeD] at hk ⊢
      refine codeD_le (ih a env h { C with x := fun k => bif Nat.beq k id then C.n else C.x k } hk) ⟨fun e h hk => hk, ?_, fun _ e h hk => hk⟩
      rintro k e h ⟨hag, hk⟩
      dsimp only at hk ⊢
      cases hb : Nat.beq k id with
      | true => rw [hb] at hk; exact ⟨hag, hk⟩
      | false => rw [hb] at hk; exact ⟨hag, hk⟩
    · rename_i js m a
      simp only [codeD] at hk ⊢
      cases hc : (subM (modsD A c a) m && subM (jsMask js) m) with
      | false => rw [hc] at hk; exact hk.elim
      | true =>
        rw [hc] at hk
        simp only [cond_true] at hk ⊢
        simp only [Bool.and_eq_true] at hc
        refine codeD_le (ih a env h { n := fun e h => toJ js e h fun x h => C.n (envJ A js m env x) h, x := fun k => bif Nat.beq k id then (fun e h => toJ js e h fun x h => C.n (envJ A js m env x) h) else C.x k, r := C.r } hk) ⟨?_, ?_, fun _ e h hk => hk⟩
        · rintro e h ⟨hag, hk⟩
          exact toJ_mono (fun z h hk => ⟨agr_envJ hc.2, hk⟩) hk
        · rintro k e h ⟨hag, hk⟩
          dsimp only at hk ⊢
          cases hb : Nat.beq k id with
          | true => rw [hb] at hk; exact toJ_mono (fun z h hk => ⟨agr_envJ hc.2, hk⟩) hk
          | false => rw [hb] at hk; exact ⟨hag.mono (subM_spec hc.1), hk⟩
  | loop c ih =>
    intro a env h C hk
    cases a <;> try exact hk.elim
    rename_i js m a
    simp only [codeD] at hk ⊢
    cases hc : (subM (modsD A c a) m && subM (jsMask js) m) with
    | false => rw [hc] at hk; exact hk.elim
    | true =>
      rw [hc] at hk
      simp only [cond_true] at hk ⊢
      simp only [Bool.and_eq_true] at hc
      split at hk
      · obtain ⟨I, μ, h0, hr⟩ := hk
        refine ⟨I, μ, h0, fun x h hI => codeD_le (ih a _ h { C with n := fun e h' => toJ js e h' fun x' h' => I x' h' ∧ μ x' h' < μ x h } (hr x h hI)) ⟨fun e h hk => hk.2, ?_, fun _ e h hk => hk⟩⟩
        rintro k e h ⟨hag, hk⟩
        refine ⟨((agr_envJ hc.2).trans (hag.mono (subM_spec hc.1))).mono fun s hs => ?_, hk⟩
        rw [Nat.testBit_or, Bool.or_self] at hs; exact hs
      · exact hk.elim
  | exit id => intro a env h C hk; exact ⟨Agr.refl _ _, hk⟩
  | ret => intro a env h C hk; exact hk
  | scope c ih => intro a env h C hk; exact hk.elim
  | goto l => intro a env h C hk; exact hk.elim
  | refuse s => intro a env h C hk; exact hk.elim
  | rangeFunc f p x y => intro a env h C hk; exact hk.elim
end
end Go.Eng
