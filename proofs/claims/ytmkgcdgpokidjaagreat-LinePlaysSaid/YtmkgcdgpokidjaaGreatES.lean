/- What is to be known of a program, by a look at its tables. -/
import Derived.Test.YtmkgcdgpokidjaaGreatER
set_option linter.unusedVariables false
namespace Go.Eng

def memL : List Nat → Nat → Bool
  | [], _ => false
  | x :: l, n => bif Nat.beq n x then true else memL l n
theorem memL_iff {l : List Nat} {n : Nat} : memL l n = true → n ∈ l := by
  induction l with
  | nil => intro h; cases h
  | cons x l ih =>
    intro h
    unfold memL at h
    cases hb : Nat.beq n x with
    | true => rw [beqT.1 hb]; exact List.mem_cons_self
    | false => rw [hb] at h; exact List.mem_cons_of_mem _ (ih h)

def namedOk (P : Program) (i : TypeInfo) : Bool :=
  match i.desc with
  | .named _ u => (P.info? u).isSome
  | _ => true

theorem reckon_desc {info : TypeId → Option TypeInfo} {d : TypeDesc} {i : TypeInfo} (h : Made.reckon info d = some i) : ∀ n u, i.desc ≠ .named n u := by
  intro n u hd
  unfold Made.reckon at h
  cases d <;> dsimp only at h
  case struct fs =>
    unfold Made.reckonStruct at h
    simp only [Option.pure_def, Option.bind_eq_bind, Option.bind_eq_some_iff] at h
    obtain ⟨r, _, h⟩ := h
    split at h <;> (cases h; cases hd)
  all_goals first | (cases h; done) | skip
  case pointer e =>
    cases he : info e with
    | none => rw [he] at h; cases h
    | some x =>
      rw [he] at h
      change (match x.desc with
        | .named _ _ => none
        | .struct fs => if fs.any (·.embedded) then none else _
        | _ => _) = some i at h
      cases hs : Made.spell x with
      | none => simp only [hs] at h; split at h <;> first | (cases h; done) | (split at h <;> cases h; done)
      | some y => simp only [hs] at h; split at h <;> first | (cases h; done) | (cases h; cases hd; done) | (split at h <;> first | (cases h; done) | (cases h; cases hd; done))
  case slice e =>
    simp only [Option.pure_def, Option.bind_eq_bind, Option.bind_eq_some_iff, Made.word] at h
    obtain ⟨x, _, y, _, h⟩ := h
    cases h; cases hd
  case map k e =>
    simp only [Option.pure_def, Option.bind_eq_bind, Option.bind_eq_some_iff, Made.word] at h
    obtain ⟨x, _, y, _, z, _, v, _, h⟩ := h
    cases h; cases hd
  case chan d e =>
    simp only [Option.pure_def, Option.bind_eq_bind, Option.bind_eq_some_iff, Made.word] at h
    obtain ⟨x, _, y, _, h⟩ := h
    cases h; cases hd
  case func ps rs v =>
    simp only [Option.pure_def, Option.bind_eq_bind, Option.bind_eq_some_iff, Made.word] at h
    obtain ⟨x, _, h⟩ := h
    cases h; cases hd
  case array n e =>
    simp only [Option.pure_def, Option.bind_eq_bind, Option.bind_eq_some_iff] at h
    obtain ⟨x, _, y, _, h⟩ := h
    cases h; cases hd

theorem infoAt_desc {T : Tables} : ∀ (f : Nat) {t : TypeId} {i : TypeInfo}, ¬ t < T.types.size → Made.infoAt T f t = some i → ∀ n u, i.desc ≠ .named n u := by
  intro f
  cases f with
  | zero => intro t i _ h; cases h
  | succ f =>
    intro t i ht h
    unfold Made.infoAt at h
    rw [if_neg ht] at h
    simp only [Option.bind_eq_some_iff] at h
    obtain ⟨d, _, h⟩ := h
    exact reckon_desc h

/-- By a look at the tables. -/
def progB (P : Program) : Bool :=
  P.types.toList.all (namedOk P) && P.funcs.toList.all fun fn => !(fn.name == "runtime.NumGoroutine")
theorem formed_of {P : Program} (h : progB P = true) : Formed P := by
  intro t n hn
  simp only [progB, Bool.and_eq_true, List.all_eq_true] at h
  unfold sizeT at hn
  cases hi : P.info? t with
  | none => rw [hi] at hn; cases hn
  | some i =>
    unfold Program.underlying
    rw [hi]
    cases hd : i.desc with
    | named nm u =>
      have hnamed : namedOk P i = true := by
        by_cases ht : t < P.types.size
        · have : P.types[t]? = some i := by
            unfold Tables.info? at hi
            rw [if_pos ht] at hi; exact hi
          exact h.1 i (Array.mem_toList_iff.2 (Array.mem_of_getElem? this))
        · unfold Tables.info? at hi
          rw [if_neg ht] at hi
          exact absurd hd (infoAt_desc _ ht hi _ _)
      unfold namedOk at hnamed
      rw [hd] at hnamed
      dsimp only at hnamed
      obtain ⟨j, hj⟩ := Option.isSome_iff_exists.1 hnamed
      refine ⟨j.desc, ?_⟩
      obtain ⟨desc, _⟩ := i
      cases hd
      simp [hj]
    | _ =>
      refine ⟨i.desc, ?_⟩
      obtain ⟨desc, _⟩ := i
      cases hd
      rfl
theorem noNG_of {P : Program} (h : progB P = true) : NoNG P := by
  intro g fn hg
  simp only [progB, Bool.and_eq_true, List.all_eq_true] at h
  have := h.2 fn (Array.mem_toList_iff.2 (Array.mem_of_getElem? hg))
  simpa using this

/-- The hints for slots bear no box with two names. -/
def goodB (A : Ann) : Bool := A.refs.all fun x => !A.isProm x.1
theorem lookRef_mem : ∀ {l : List (Nat × Nat)} {s t : Nat}, lookRef l s = some t → (s, t) ∈ l := by
  intro l
  induction l with
  | nil => intro s t h; cases h
  | cons x l ih =>
    intro s t h
    obtain ⟨a, b⟩ := x
    unfold lookRef at h
    cases hb : Nat.beq s a with
    | true => rw [hb] at h; simp only [cond_true, Option.some.injEq] at h; rw [beqT.1 hb, h]; exact List.mem_cons_self
    | false => rw [hb] at h; exact List.mem_cons_of_mem _ (ih h)
theorem prem_of {P : Program} {A : Ann} {l : List Nat} (hp : progB P = true) (hd : Nat.ble 20 P.depth = true) (hl : l.all (eqTy P 20) = true) (he : A.eqs = memL l) (hg : goodB A = true) : Prem P A where
  good := by
    intro s t h
    have := List.all_eq_true.1 hg _ (lookRef_mem h)
    simpa using this
  eqs := by
    intro t h
    rw [he] at h
    exact List.all_eq_true.1 hl t (memL_iff h)
  dep := Nat.le_of_ble_eq_true hd
  noNG := noNG_of hp
  formed := formed_of hp
end Go.Eng
