/- Words of control; from a contract to a row. -/
import Derived.Test.YtmkgcdgpokidjaaGreatEW
import Derived.Below
set_option linter.unusedVariables false
namespace Go.Eng

theorem cond_t {b : Bool} {A B : Prop} (hb : b = true) (h : A) : condP b A B := by subst hb; exact h
theorem cond_f {b : Bool} {A B : Prop} (hb : b = false) (h : B) : condP b A B := by subst hb; exact h
theorem cond_i {b : Bool} {A B : Prop} (h1 : b = true → A) (h2 : b = false → B) : condP b A B := by
  cases b
  · exact h2 rfl
  · exact h1 rfl
/-- Of a comparison. -/
theorem cond_d {p : Prop} [Decidable p] {A B : Prop} (h1 : p → A) (h2 : ¬ p → B) : condP (decide p) A B := by
  by_cases h : p
  · rw [decide_eq_true h]; exact h1 h
  · rw [decide_eq_false h]; exact h2 h
/-- Two roads come together: what holds there. -/
theorem join_i {T : Type} {J0 : T → Hp → Prop} {B : (T → Hp → Prop) → Prop} (S : T → Hp → Prop) (h1 : ∀ x h, S x h → J0 x h) (h2 : ∀ J : T → Hp → Prop, (∀ x h, S x h → J x h) → B J) : joinP J0 B := h2 J0 h1
/-- A loop: what holds at its head, and what grows less. -/
theorem loop_i {T : Type} {x0 : T} {h0 : Hp} {B : (T → Hp → Prop) → T → Hp → Prop} (I : T → Hp → Prop) (μ : T → Nat) (hi : I x0 h0)
    (step : ∀ (J : T → Hp → Prop) (x : T) (h : Hp), (∀ x' h', I x' h' → μ x' < μ x → J x' h') → I x h → B J x h) : loopP x0 h0 B :=
  ⟨I, fun x _ => μ x, hi, fun x h hI => step _ x h (fun _ _ a b => ⟨a, b⟩) hI⟩

theorem callP.mono {P : Program} {f : FuncId} {args : List Value} {c : Cdc} {h : Hp} {K K' : c.T → Hp → Prop} (s : callP P f args c h K) (hk : ∀ x h', K x h' → K' x h') : callP P f args c h K' :=
  Spec.mono s fun _ _ ⟨x, e, hx⟩ => ⟨x, e, hk _ _ hx⟩

theorem w64 {n : Int} (h1 : -9223372036854775808 ≤ n) (h2 : n ≤ 9223372036854775807) : IntKind.i64.wrap n = n := by
  rw [IntKind.wrap_i64]; omega
theorem w64n {n : Nat} (h : n < 9223372036854775807) : IntKind.i64.wrap ((n : Int) + 1) = ((n + 1 : Nat) : Int) := by
  rw [w64 (by omega) (by omega)]; omega

/-- A contract that leaves the whole heap as it was. -/
theorem spec_below {P : Program} {f : FuncId} {args : Array Value} {W : World} {R : Value → Prop} (s : Spec P f args (hpOf W) fun v h' => R v ∧ (hpOf W).sub h') :
    Calls P f args W fun e W' => (∃ v, e = .returned v ∧ R v) ∧ RowKit.Below W.heap.size W W' := by
  refine (s W Hp.emp (hpOf_le W) (Hp.emp_le W) (fun b => .inr rfl)).mono ?_
  rintro e W' ⟨v, h', rfl, ⟨hR, hsub⟩, hle, _, _, sm⟩
  have hb : ∀ k, k < W.heap.size → W'.heap[k]? = W.heap[k]? := by
    intro k hk
    have h1 : W.heap[k]? = some W.heap[k] := Array.getElem?_eq_getElem hk
    rw [h1]
    exact hle k _ (hsub k _ h1)
  refine ⟨⟨v, rfl, hR⟩, sm.os, sm.tape, sm.output, ?_, hb⟩
  rcases Nat.eq_zero_or_pos W.heap.size with h0 | h0
  · omega
  · have := hb (W.heap.size - 1) (by omega)
    rw [Array.getElem?_eq_getElem (show W.heap.size - 1 < W.heap.size by omega)] at this
    rcases Nat.lt_or_ge (W.heap.size - 1) W'.heap.size with h | h
    · omega
    · rw [Array.getElem?_eq_none h] at this; cases this

/-- Place by place. -/
def All2 {α β : Type} (R : α → β → Prop) : List α → List β → Prop
  | [], [] => True
  | a :: l, b :: m => R a b ∧ All2 R l m
  | _, _ => False
theorem All2.len {α β : Type} {R : α → β → Prop} : ∀ {l : List α} {m : List β}, All2 R l m → l.length = m.length
  | [], [], _ => rfl
  | _ :: _, _ :: _, h => by simp [All2.len h.2]
  | [], _ :: _, h => h.elim
  | _ :: _, [], h => h.elim
theorem All2.get {α β : Type} {R : α → β → Prop} : ∀ {l : List α} {m : List β}, All2 R l m → ∀ (i : Nat) (a : α), l[i]? = some a → ∃ b, m[i]? = some b ∧ R a b
  | [], [], _, i, a, h => by cases h
  | x :: l, y :: m, hr, 0, a, h => by simp at h; subst h; exact ⟨y, rfl, hr.1⟩
  | x :: l, y :: m, hr, i + 1, a, h => All2.get hr.2 i a (by simpa using h)
  | [], _ :: _, h, _, _, _ => h.elim
  | _ :: _, [], h, _, _, _ => h.elim
theorem All2.mono {α β : Type} {R S : α → β → Prop} (hRS : ∀ a b, R a b → S a b) : ∀ {l : List α} {m : List β}, All2 R l m → All2 S l m
  | [], [], _ => trivial
  | _ :: _, _ :: _, h => ⟨hRS _ _ h.1, All2.mono hRS h.2⟩
  | [], _ :: _, h => h.elim
  | _ :: _, [], h => h.elim
theorem All2.app {α β : Type} {R : α → β → Prop} : ∀ {l : List α} {m : List β} {l' : List α} {m' : List β}, All2 R l m → All2 R l' m' → All2 R (l ++ l') (m ++ m')
  | [], [], _, _, _, h => h
  | _ :: _, _ :: _, _, _, h, h' => ⟨h.1, All2.app h.2 h'⟩
  | [], _ :: _, _, _, h, _ => h.elim
  | _ :: _, [], _, _, h, _ => h.elim
theorem All2.of {α β : Type} {R : α → β → Prop} : ∀ (l : List α), (∀ a ∈ l, ∃ b, R a b) → ∃ m, All2 R l m
  | [], _ => ⟨[], trivial⟩
  | a :: l, h => by
    obtain ⟨b, hb⟩ := h a (by simp)
    obtain ⟨m, hm⟩ := All2.of l fun x hx => h x (by simp [hx])
    exact ⟨b :: m, hb, hm⟩
/-- Rows of bytes. -/
def Rows2 (g : Hp) : List Sl → List (List Int) → Prop := All2 fun s bs => Row (cI .u8) g s bs
theorem Rows2.sub {g h : Hp} (hs : g.sub h) {l : List Sl} {m : List (List Int)} (r : Rows2 g l m) : Rows2 h l m := All2.mono (fun _ _ h => Row.sub h hs) r

theorem take_foldl {α β : Type} (f : α → β → α) (a : α) (l : List β) {i : Nat} {x : β} (hx : l[i]? = some x) : (l.take (i + 1)).foldl f a = f ((l.take i).foldl f a) x := by
  have : l.take (i + 1) = l.take i ++ [x] := by
    rw [List.take_add_one, hx]; rfl
  rw [this, List.foldl_append]; rfl
end Go.Eng
