/- Chapter 4: the rest of sum's functions, and what the four laws compute. -/
import Derived.Test.YtplfogbgobkcfaaSumP
set_option linter.unusedVariables false
namespace Go.Proofs.Ytplfogbgobkcfaa
open Go.Eng

theorem len_lt {n m : Nat} (h : n ≤ m) (hm : m ≤ 9223372036854775806) : n < 9223372036854775807 := by omega

theorem rof_ok {p0 : Sl} {g h : Hp} {bs : List Int} (hg : g.sub h) (r : Row (cI .u8) g p0 bs) (hl : bs.length ≤ 9223372036854775807) {Q : Int → Hp → Prop} (hq : Q (bs.foldl nextV 0) h) :
    callP Try.prog 20 [Value.slice p0.a p0.len p0.cap] (cI .u32) h Q := by
  refine c20 ?_
  unfold F20
  refine loop_i (fun z h' => ∃ i : Nat, z.2 = i ∧ i ≤ bs.length ∧ z.1 = (bs.take i).foldl nextV 0 ∧ h' = h) (fun z => bs.length - z.2.toNat) ⟨0, rfl, Nat.zero_le _, rfl, rfl⟩ ?_
  rintro J ⟨s, n⟩ h' again ⟨i, hi, hle, hs, rfl⟩
  dsimp only at hi hs
  subst hi hs
  refine cond_d (fun hlt => ?_) (fun hge => ?_)
  · dsimp only at hlt
    rw [r.1] at hlt
    have hlt : i < bs.length := by omega
    have hi : bs[i]? = some bs[i] := List.getElem?_eq_getElem hlt
    refine idx_row r (by omega) (by omega) fun a ha => load_row r hg rfl ha (i := i) hi (by simp) ?_
    refine rnext_ok (again _ _ ⟨i + 1, ?_, by omega, ?_, rfl⟩ ?_)
    · dsimp only; exact w64n (by omega)
    · exact (take_foldl nextV _ bs hi).symm
    · dsimp only; rw [w64n (by omega)]; omega
  · dsimp only at hge
    rw [r.1] at hge
    have : i = bs.length := by omega
    subst this
    rw [List.take_length]
    exact hq

theorem chain_ok {p0 : Int} {p1 : Sl} {g h : Hp} {bs : List Int} (hg : g.sub h) (r : Row (cI .u8) g p1 bs) (hl : bs.length ≤ 9223372036854775807) {Q : Int → Hp → Prop} (hq : Q (chainV p0 bs) h) :
    callP Try.prog 21 [Value.int .u64 p0, Value.slice p1.a p1.len p1.cap] (cI .u64) h Q := by
  refine c21 ?_
  unfold F21
  refine loop_i (fun z h' => ∃ i : Nat, z.2 = i ∧ i ≤ bs.length ∧ z.1 = (bs.take i).foldl mixV (xorI .u64 p0 1469598103934665603) ∧ h' = h) (fun z => bs.length - z.2.toNat) ⟨0, rfl, Nat.zero_le _, rfl, rfl⟩ ?_
  rintro J ⟨s, n⟩ h' again ⟨i, hi, hle, hs, rfl⟩
  dsimp only at hi hs
  subst hi hs
  refine cond_d (fun hlt => ?_) (fun hge => ?_)
  · dsimp only at hlt
    rw [r.1] at hlt
    have hlt : i < bs.length := by omega
    have hi : bs[i]? = some bs[i] := List.getElem?_eq_getElem hlt
    refine idx_row r (by omega) (by omega) fun a ha => load_row r hg rfl ha (i := i) hi (by simp) ?_
    refine again _ _ ⟨i + 1, ?_, by omega, ?_, rfl⟩ ?_
    · dsimp only; exact w64n (by omega)
    · exact (take_foldl mixV _ bs hi).symm
    · dsimp only; rw [w64n (by omega)]; omega
  · dsimp only at hge
    rw [r.1] at hge
    have : i = bs.length := by omega
    subst this
    rw [List.take_length]
    exact ⟨by decide, hq⟩
theorem rchain_ok {p0 : Int} {p1 : Sl} {g h : Hp} {bs : List Int} (hg : g.sub h) (r : Row (cI .u8) g p1 bs) (hl : bs.length ≤ 9223372036854775807) {Q : Int → Hp → Prop} (hq : Q (chainV p0 bs) h) :
    callP Try.prog 22 [Value.int .u64 p0, Value.slice p1.a p1.len p1.cap] (cI .u64) h Q := by
  refine c22 ?_
  have : F22 p0 p1 h Q = F21 p0 p1 h Q := rfl
  rw [this]
  unfold F21
  refine loop_i (fun z h' => ∃ i : Nat, z.2 = i ∧ i ≤ bs.length ∧ z.1 = (bs.take i).foldl mixV (xorI .u64 p0 1469598103934665603) ∧ h' = h) (fun z => bs.length - z.2.toNat) ⟨0, rfl, Nat.zero_le _, rfl, rfl⟩ ?_
  rintro J ⟨s, n⟩ h' again ⟨i, hi, hle, hs, rfl⟩
  dsimp only at hi hs
  subst hi hs
  refine cond_d (fun hlt => ?_) (fun hge => ?_)
  · dsimp only at hlt
    rw [r.1] at hlt
    have hlt : i < bs.length := by omega
    have hi : bs[i]? = some bs[i] := List.getElem?_eq_getElem hlt
    refine idx_row r (by omega) (by omega) fun a ha => load_row r hg rfl ha (i := i) hi (by simp) ?_
    refine again _ _ ⟨i + 1, ?_, by omega, ?_, rfl⟩ ?_
    · dsimp only; exact w64n (by omega)
    · exact (take_foldl mixV _ bs hi).symm
    · dsimp only; rw [w64n (by omega)]; omega
  · dsimp only at hge
    rw [r.1] at hge
    have : i = bs.length := by omega
    subst this
    rw [List.take_length]
    exact ⟨by decide, hq⟩

/-- One row, handed in as a row of rows. -/
theorem of1_ok {b : Nat} {e : TypeId} {l : List Hp} {s : Sl} {h : Hp} {bs : List Int} (o : On h l) (i : Nat) (hi : l[i]? = some (ob b [Value.slice s.a s.len s.cap] e)) (r : Row (cI .u8) h s bs) (hl : bs.length ≤ 9223372036854775807)
    {Q : Int → Hp → Prop} (hq : Q (bs.foldl nextV 0) h) : callP Try.prog 18 [Value.slice (some ⟨b, 0, none⟩) 1 1] (cI .u32) h Q := by
  have r1 : Row cSl h ⟨some ⟨b, 0, none⟩, 1, 1⟩ [s] := (row_ob (cd := cSl) (xs := [s]) rfl rfl).sub (o.get hi)
  refine of_ok (p0 := ⟨some ⟨b, 0, none⟩, 1, 1⟩) (ss := [s]) (bss := [bs]) (Hp.sub_refl h) r1 ⟨r, trivial⟩ (by simp) (by simpa using hl) ?_
  simpa using hq

theorem known_ok {h : Hp} {l : List Hp} (o : On h l) {Q : Bool → Hp → Prop} (hq : ∀ h', On h' l → Q true h') : callP Try.prog 19 [] cB h Q := by
  refine c19 ?_
  unfold F19
  refine alloc_ob o fun k1 h1 o1 => alloc_ob o1 fun k2 h2 o2 => ?_
  have r0 : Row (cI .u8) h2 ⟨some ⟨k1, 0, none⟩, 1, 1⟩ [0] := (row_ob (cd := cI .u8) (xs := [(0 : Int)]) rfl rfl).sub (o2.get (i := 1) rfl)
  refine of1_ok (s := ⟨some ⟨k1, 0, none⟩, 1, 1⟩) o2 0 rfl r0 (by simp) ?_
  refine cond_t (by decide +kernel) ?_
  refine of_ok (p0 := ⟨none, 0, 0⟩) (ss := []) (bss := []) (Hp.sub_refl h2) (Row.nil _) trivial (by simp) (by simp) ?_
  have e : ((([] : List (List Int)).flatten.foldl nextV 0) == (0 : Int)) = true := rfl
  rw [e]
  exact hq _ (o2.tail.tail)

/-! ### the laws -/
/-- What a law says of the heap that it found. -/
def Lawful (g : Hp) (v : Bool) (h' : Hp) : Prop := v = true ∧ g.sub h'

theorem tells_ok {g : Hp} {p0 : Sl} {p1 : Int} {bs : List Int} (r : Row (cI .u8) g p0 bs) (hl : bs.length ≤ 9223372036854775807) : F5 p0 p1 g (Lawful g) := by
  unfold F5
  refine cond_i (fun _ => ⟨rfl, Hp.sub_refl g⟩) fun _ => ?_
  refine alloc_ob (On.self g) fun k1 h1 o1 => ?_
  have hg : g.sub h1 := o1.get (i := 1) rfl
  refine of1_ok (s := p0) o1 0 rfl (r.sub hg) hl ?_
  refine rof_ok hg r hl ?_
  refine cond_t (by simp) ?_
  refine chain_ok hg r hl (rchain_ok hg r hl ?_)
  refine cond_t (by simp) ?_
  exact known_ok o1 fun h' o' => ⟨rfl, o'.get (i := 1) rfl⟩

theorem chains_ok {g : Hp} {p0 p1 : Int} {p2 : Sl} {bs : List Int} (r : Row (cI .u8) g p2 bs) (hl : bs.length ≤ 9223372036854775807)
    (pure : bs.length ≤ 200 → (chainV p0 bs == chainV p1 bs) = (p0 == p1)) : F6 p0 p1 p2 g (Lawful g) := by
  unfold F6
  refine cond_d (fun _ => ⟨rfl, Hp.sub_refl g⟩) fun hle => ?_
  rw [r.1] at hle
  refine chain_ok (Hp.sub_refl g) r hl (chain_ok (Hp.sub_refl g) r hl ?_)
  refine cond_t (by rw [pure (by omega)]; simp) ?_
  exact known_ok (On.self g) fun h' o' => ⟨rfl, o'.get (i := 0) rfl⟩
end Go.Proofs.Ytplfogbgobkcfaa
