/- Types: the codecs of Go's plain types, of structs, of several results. -/
import Derived.Test.YtmkgcdgpokidjaaGreatEQD
set_option linter.unusedVariables false
namespace Go.Eng

/-- A slice's three parts. -/
structure Sl where
  a : Option Addr
  len : Nat
  cap : Nat

/-- Kinds of leaves. -/
inductive Lk where
  | i (k : IntKind)
  | b
  | s
  | p
  | sl
  | c

abbrev Lk.T : Lk → Type
  | .i _ => Int
  | .b => Bool
  | .s => ByteArray
  | .p => Option Addr
  | .sl => Sl
  | .c => Option Nat
def Lk.enc : (l : Lk) → l.T → Value
  | .i k, x => .int k x
  | .b, x => .bool x
  | .s, x => .string x
  | .p, x => .pointer x
  | .sl, x => .slice x.a x.len x.cap
  | .c, x => .chan x
def dI (k : IntKind) : Value → Option Int
  | .int j n => match decide (j = k) with
    | true => some n
    | false => none
  | _ => none
def dB : Value → Option Bool
  | .bool b => some b
  | _ => none
def dS : Value → Option ByteArray
  | .string s => some s
  | _ => none
def dP : Value → Option (Option Addr)
  | .pointer p => some p
  | _ => none
def dSl : Value → Option Sl
  | .slice a l c => some ⟨a, l, c⟩
  | _ => none
def dC : Value → Option (Option Nat)
  | .chan c => some c
  | _ => none
def Lk.dec : (l : Lk) → Value → Option l.T
  | .i k, v => dI k v
  | .b, v => dB v
  | .s, v => dS v
  | .p, v => dP v
  | .sl, v => dSl v
  | .c, v => dC v

theorem Lk.law (l : Lk) (v : Value) (x : l.T) (h : l.dec v = some x) : l.enc x = v := by
  cases l
  case i k =>
    simp only [Lk.dec] at h
    unfold dI at h
    split at h
    · split at h
      · rename_i hd; have := of_decide_eq_true hd; subst this; cases h; rfl
      · cases h
    · cases h
  case b => simp only [Lk.dec] at h; unfold dB at h; split at h <;> cases h; rfl
  case s => simp only [Lk.dec] at h; unfold dS at h; split at h <;> cases h; rfl
  case p => simp only [Lk.dec] at h; unfold dP at h; split at h <;> cases h; rfl
  case sl => simp only [Lk.dec] at h; unfold dSl at h; split at h <;> cases h; rfl
  case c => simp only [Lk.dec] at h; unfold dC at h; split at h <;> cases h; rfl
theorem Lk.ecd (l : Lk) (x : l.T) : l.dec (l.enc x) = some x := by
  cases l
  case i k => simp only [Lk.dec, Lk.enc, dI, decide_true]
  all_goals rfl
theorem Lk.one (l : Lk) (x : l.T) : isOne (l.enc x) = true := by cases l <;> rfl

/-- A leaf as a type. -/
abbrev leafC (l : Lk) : Cdc where
  T := l.T
  enc := l.enc
  dec := l.dec
  agg := false
  n := 1
  law := l.law
  ecd := l.ecd
  mem := true
  form := fun _ x => ⟨l.one x, rfl⟩

abbrev cI (k : IntKind) : Cdc := leafC (.i k)
abbrev cB : Cdc := leafC .b
abbrev cS : Cdc := leafC .s
abbrev cP : Cdc := leafC .p
abbrev cSl : Cdc := leafC .sl
abbrev cC : Cdc := leafC .c
/-- A function value: a function, and what it bears. -/
structure FnV where
  g : Nat
  first : Array Value
  cap : Array Value
abbrev cF : Cdc where
  T := FnV
  enc x := .func (.func x.g) x.first x.cap
  dec v := match v with
    | .func (.func g) a b => some ⟨g, a, b⟩
    | _ => none
  agg := false
  n := 1
  law := by
    intro v x h
    split at h
    · cases h; rfl
    · cases h
  ecd := fun _ => rfl
  mem := true
  form := fun _ _ => ⟨rfl, rfl⟩
abbrev cM : Cdc where
  T := Option Nat
  enc x := .map x
  dec v := match v with
    | .map x => some x
    | _ => none
  agg := false
  n := 1
  law := by
    intro v x h
    split at h
    · cases h; rfl
    · cases h
  ecd := fun _ => rfl
  mem := true
  form := fun _ _ => ⟨rfl, rfl⟩

/-! ### rows of leaves -/
abbrev LT : List Lk → Type
  | [] => Unit
  | [x] => x.T
  | x :: y :: l => x.T × LT (y :: l)
def encL : (l : List Lk) → LT l → List Value
  | [], _ => []
  | [x], v => [x.enc v]
  | x :: y :: l, v => x.enc v.1 :: encL (y :: l) v.2
def decL : (l : List Lk) → List Value → Option (LT l)
  | [], vs => match vs with
    | [] => some ()
    | _ :: _ => none
  | [x], vs => match vs with
    | [v] => x.dec v
    | _ => none
  | x :: y :: l, vs => match vs with
    | v :: vs => match x.dec v with
      | some z => match decL (y :: l) vs with
        | some r => some (z, r)
        | none => none
      | none => none
    | [] => none
theorem decL_law : ∀ (l : List Lk) (vs : List Value) (x : LT l), decL l vs = some x → encL l x = vs := by
  intro l
  induction l with
  | nil => intro vs x h; cases vs <;> first | rfl | cases h
  | cons t l ih =>
    cases l with
    | nil =>
      intro vs x h
      match vs, h with
      | [v], h => exact congrArg (fun z => [z]) (t.law v x h)
    | cons u l =>
      intro vs x h
      match vs, h with
      | v :: vs, h =>
        unfold decL at h
        dsimp only at h
        split at h
        · rename_i z hz
          split at h
          · rename_i r hr
            cases h
            show t.enc z :: encL (u :: l) r = _
            rw [t.law v z hz, ih vs r hr]
          · cases h
        · cases h
theorem decL_ecd : ∀ (l : List Lk) (x : LT l), decL l (encL l x) = some x := by
  intro l
  induction l with
  | nil => intro x; rfl
  | cons t l ih =>
    cases l with
    | nil => intro x; exact t.ecd x
    | cons u l =>
      intro x
      have h1 := t.ecd x.1
      have h2 := ih x.2
      unfold encL decL
      dsimp only
      rw [h1]
      dsimp only
      rw [h2]
theorem encL_len : ∀ (l : List Lk) (x : LT l), (encL l x).length = l.length := by
  intro l
  induction l with
  | nil => intro x; rfl
  | cons t l ih =>
    cases l with
    | nil => intro x; rfl
    | cons u l => intro x; exact congrArg (· + 1) (ih x.2)
theorem encL_one : ∀ (l : List Lk) (x : LT l), ∀ v ∈ encL l x, isOne v = true := by
  intro l
  induction l with
  | nil => intro x v hv; cases hv
  | cons t l ih =>
    cases l with
    | nil => intro x v hv; rw [show encL [t] x = [t.enc x] from rfl, List.mem_singleton] at hv; subst hv; exact t.one x
    | cons u l =>
      intro x v hv
      rw [show encL (t :: u :: l) x = t.enc x.1 :: encL (u :: l) x.2 from rfl, List.mem_cons] at hv
      rcases hv with rfl | hv
      · exact t.one _
      · exact ih x.2 v hv

def decA {S : Type} (l : List Lk) (to : LT l → S) : Value → Option S
  | .agg a => match decL l a.toList with
    | some x => some (to x)
    | none => none
  | _ => none
/-- A struct or an array. -/
abbrev aggC (S : Type) (l : List Lk) (to : LT l → S) (of : S → LT l) (h1 : ∀ x, of (to x) = x) (h2 : ∀ s, to (of s) = s) : Cdc where
  T := S
  enc s := .agg (encL l (of s)).toArray
  dec := decA l to
  agg := true
  n := l.length
  law := by
    intro v x h
    unfold decA at h
    split at h
    · split at h
      · rename_i y hy
        cases h
        rw [h1, decL_law l _ y hy]
      · cases h
    · cases h
  ecd := by
    intro x
    simp only [decA, decL_ecd, h2]
  mem := true
  form := fun _ x => ⟨_, rfl, encL_len l _, encL_one l _⟩

/-! ### several results -/
abbrev TT : List Cdc → Type
  | [] => Unit
  | [x] => x.T
  | x :: y :: l => x.T × TT (y :: l)
def encT : (l : List Cdc) → TT l → List Value
  | [], _ => []
  | [x], v => [x.enc v]
  | x :: y :: l, v => x.enc v.1 :: encT (y :: l) v.2
def decT : (l : List Cdc) → List Value → Option (TT l)
  | [], vs => match vs with
    | [] => some ()
    | _ :: _ => none
  | [x], vs => match vs with
    | [v] => x.dec v
    | _ => none
  | x :: y :: l, vs => match vs with
    | v :: vs => match x.dec v with
      | some z => match decT (y :: l) vs with
        | some r => some (z, r)
        | none => none
      | none => none
    | [] => none
theorem decT_law : ∀ (l : List Cdc) (vs : List Value) (x : TT l), decT l vs = some x → encT l x = vs := by
  intro l
  induction l with
  | nil => intro vs x h; cases vs <;> first | rfl | cases h
  | cons t l ih =>
    cases l with
    | nil =>
      intro vs x h
      match vs, h with
      | [v], h => exact congrArg (fun z => [z]) (t.law v x h)
    | cons u l =>
      intro vs x h
      match vs, h with
      | v :: vs, h =>
        unfold decT at h
        dsimp only at h
        split at h
        · rename_i z hz
          split at h
          · rename_i r hr
            cases h
            show t.enc z :: encT (u :: l) r = _
            rw [t.law v z hz, ih vs r hr]
          · cases h
        · cases h
theorem decT_ecd : ∀ (l : List Cdc) (x : TT l), decT l (encT l x) = some x := by
  intro l
  induction l with
  | nil => intro x; rfl
  | cons t l ih =>
    cases l with
    | nil => intro x; exact t.ecd x
    | cons u l =>
      intro x
      have h1 := t.ecd x.1
      have h2 := ih x.2
      unfold encT decT
      dsimp only
      rw [h1]
      dsimp only
      rw [h2]
def decTup (l : List Cdc) : Value → Option (TT l)
  | .tuple a => decT l a.toList
  | _ => none
abbrev tupC (l : List Cdc) : Cdc where
  T := TT l
  enc x := .tuple (encT l x).toArray
  dec := decTup l
  agg := false
  n := 0
  law := by
    intro v x h
    unfold decTup at h
    split at h
    · rw [decT_law l _ x h]
    · cases h
  ecd := by intro x; simp only [decTup, decT_ecd]
  mem := false
  form := fun h => by cases h
end Go.Eng
