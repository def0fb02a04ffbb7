/- Arguments: what is to be read of them. -/
import Derived.Test.YtmkgcdgpokidjaaGreatEV
import Derived.ChangeArms
import Derived.ChangeSlices
import Derived.WideShapes
import Derived.OpenShut
import Derived.SizedLaws
set_option linter.unusedVariables false
namespace Go.Eng
open Go.RowKit Go.ChangeShapes Go.WideShapes

/-- The cells can be read at that type. -/
def Opn (P : Program) (W : World) (t : TypeId) (cs : List Value) : Prop :=
  ∃ (H : Type) (enc : TypeId × Value → H) (base : Nat) (spare : Nat → Bool) (held : Bool) (fuel : Nat) (y : DataW H × List MemPlace), DataW.trod enc P W base spare held fuel t cs = some y ∧ ∀ n ∈ y.1.weights P t, n ≤ reachBytes

def flatF (P : Program) (rec : TypeId → Option (List (Lk × TypeId))) : List Field → Nat → Option (List (Lk × TypeId))
  | [], _ => some []
  | f :: fs, off => bif Nat.beq f.offset off then
      match rec f.type with
      | some l => bif Nat.beq l.length (P.cellsOf f.type) then
          match flatF P rec fs (off + l.length) with
          | some r => some (l ++ r)
          | none => none
        else none
      | none => none
    else none
/-- The leaves of a type, with their types. -/
def flat (P : Program) : Nat → TypeId → Option (List (Lk × TypeId))
  | 0, _ => none
  | d + 1, t => match P.underlying t with
    | some (.int k) => some [(.i k, t)]
    | some .bool => some [(.b, t)]
    | some .string => some [(.s, t)]
    | some (.slice _) => some [(.sl, t)]
    | some (.struct fs) => match flatF P (flat P d) fs.toList 0 with
      | some l => bif Nat.beq l.length (P.cellsOf t) then some l else none
      | none => none
    | some (.array n e) => match flat P d e with
      | some l => bif Nat.beq l.length (P.cellsOf e) && Nat.beq (n * l.length) (P.cellsOf t) then some (List.replicate n l).flatten else none
      | none => none
    | _ => none

def leafOk (P : Program) (W : World) : Lk → TypeId → Value → Prop
  | .i k, _, v => ∃ n, v = .int k n ∧ (Lit.int k n).wf = true
  | .b, _, v => ∃ b, v = .bool b
  | .s, _, v => ∃ s, v = .string s ∧ s.size ≤ maxLen
  | .sl, t, v => (∃ a l c, v = .slice a l c) ∧ Opn P W t [v]
  | _, _, _ => False

def okLeaf (P : Program) (W : World) : (lk : Lk) → TypeId → lk.T → Prop
  | .i k, _, n => (Lit.int k n).wf = true
  | .s, _, s => s.size ≤ maxLen
  | .sl, t, s => Opn P W t [.slice s.a s.len s.cap]
  | _, _, _ => True
def okL (P : Program) (W : World) : (ls : List (Lk × TypeId)) → LT (ls.map (·.1)) → Prop
  | [], _ => True
  | [a], x => okLeaf P W a.1 a.2 x
  | a :: b :: l, x => okLeaf P W a.1 a.2 x.1 ∧ okL P W (b :: l) x.2

theorem leaf_enc {P : Program} {W : World} : ∀ (lk : Lk) (t : TypeId) (v : Value), leafOk P W lk t v → ∃ x : lk.T, v = lk.enc x ∧ okLeaf P W lk t x := by
  intro lk t v h
  cases lk with
  | i k => obtain ⟨n, rfl, h⟩ := h; exact ⟨n, rfl, h⟩
  | b => obtain ⟨b, rfl⟩ := h; exact ⟨b, rfl, trivial⟩
  | s => obtain ⟨s, rfl, h⟩ := h; exact ⟨s, rfl, h⟩
  | p => exact h.elim
  | sl => obtain ⟨⟨a, l, c, rfl⟩, h⟩ := h; exact ⟨⟨a, l, c⟩, rfl, h⟩
  | c => exact h.elim

theorem leaves_enc {P : Program} {W : World} : ∀ (ls : List (Lk × TypeId)) (cs : List Value), cs.length = ls.length → (∀ (i : Nat) (lt : Lk × TypeId) (v : Value), ls[i]? = some lt → cs[i]? = some v → leafOk P W lt.1 lt.2 v) →
    ∃ x : LT (ls.map (·.1)), cs = encL (ls.map (·.1)) x ∧ okL P W ls x := by
  intro ls
  induction ls with
  | nil => intro cs hl _; rw [List.length_nil, List.length_eq_zero_iff] at hl; subst hl; exact ⟨(), rfl, trivial⟩
  | cons a ls ih =>
    intro cs hl hk
    cases cs with
    | nil => simp at hl
    | cons v cs =>
      obtain ⟨x, hx, ok⟩ := leaf_enc a.1 a.2 v (hk 0 a v rfl rfl)
      obtain ⟨y, hy, oy⟩ := ih cs (by simpa using hl) fun i lt u h1 h2 => hk (i + 1) lt u (by simpa using h1) (by simpa using h2)
      cases ls with
      | nil =>
        refine ⟨x, ?_, ok⟩
        have : cs = [] := by simpa using hl
        subst this
        rw [hx]; rfl
      | cons b ls => exact ⟨(x, y), by rw [hx, hy]; rfl, ok, oy⟩

section
variable {H : Type} {enc : TypeId × Value → H} {P : Program} {W : World} {base : Nat} {spare : Nat → Bool} {held : Bool}

theorem weights_mem_all {e : TypeId} : ∀ {ds : List (DataW H)} {d : DataW H}, d ∈ ds → ∀ n ∈ d.weights P e, n ∈ DataW.weightsAll P e ds
  | d0 :: ds, d, hd, n, hn => by
    simp only [DataW.weightsAll, List.mem_append]
    rcases List.mem_cons.1 hd with rfl | hd
    · exact .inl hn
    · exact .inr (weights_mem_all hd n hn)

theorem trod_slice_opn {e t : TypeId} {fuel : Nat} {cs : List Value} {y : DataW H × List MemPlace} (ht : P.underlying t = some (.slice e)) (h : DataW.trod enc P W base spare held fuel t cs = some y) :
    ∃ a l c, cs = [.slice a l c] := by
  rcases DataW.trod_slice ht h with ⟨h0, _⟩ | ⟨a, len, cap, _, _, _, _, rfl, _⟩
  · exact ⟨_, _, _, h0⟩
  · exact ⟨_, _, _, rfl⟩

theorem flat_leaves : ∀ (d : Nat) (t : TypeId) (ls : List (Lk × TypeId)) (fuel : Nat) (cs : List Value) (y : DataW H × List MemPlace), flat P d t = some ls → DataW.trod enc P W base spare held fuel t cs = some y → (∀ n ∈ y.1.weights P t, n ≤ reachBytes) →
    cs.length = ls.length ∧ ∀ (i : Nat) (lt : Lk × TypeId) (v : Value), ls[i]? = some lt → cs[i]? = some v → leafOk P W lt.1 lt.2 v := by
  intro d
  induction d with
  | zero => intro t ls fuel cs y h; cases h
  | succ d ih =>
    intro t ls fuel cs y hf h hwt
    unfold flat at hf
    split at hf
    · rename_i k hu
      cases hf
      obtain ⟨n, rfl, _, hw⟩ := DataW.trod_int hu h
      refine ⟨rfl, fun i lt v h1 h2 => ?_⟩
      cases i with
      | zero => cases h1; cases h2; exact ⟨n, rfl, hw⟩
      | succ i => cases h1
    · rename_i hu
      cases hf
      obtain ⟨b, rfl, _⟩ := DataW.trod_bool hu h
      refine ⟨rfl, fun i lt v h1 h2 => ?_⟩
      cases i with
      | zero => cases h1; cases h2; exact ⟨b, rfl⟩
      | succ i => cases h1
    · rename_i hu
      cases hf
      obtain ⟨s, rfl, _, hs⟩ := DataW.trod_string hu h
      refine ⟨rfl, fun i lt v h1 h2 => ?_⟩
      cases i with
      | zero => cases h1; cases h2; exact ⟨s, rfl, hs⟩
      | succ i => cases h1
    · rename_i e hu
      cases hf
      obtain ⟨a, l, c, rfl⟩ := trod_slice_opn hu h
      refine ⟨rfl, fun i lt v h1 h2 => ?_⟩
      cases i with
      | zero => cases h1; cases h2; exact ⟨⟨a, l, c, rfl⟩, ⟨H, enc, base, spare, held, fuel, y, h, hwt⟩⟩
      | succ i => cases h1
    · rename_i fs hu
      split at hf
      · rename_i l hl
        cases hb : Nat.beq l.length (P.cellsOf t) with
        | false => rw [hb] at hf; cases hf
        | true =>
          rw [hb] at hf
          cases hf
          obtain ⟨xs, n, _, hy, hlen, hxl, hfield⟩ := DataW.trod_struct hu h
          subst hy
          refine ⟨by rw [hlen]; exact (Nat.eq_of_beq_eq_true hb).symm, ?_⟩
          have hall : ∀ f ∈ fs.toList, ∃ z, DataW.trod enc P W base spare held n f.type ((cs.drop f.offset).take (P.cellsOf f.type)) = some z ∧ ∀ m ∈ z.1.weights P f.type, m ≤ reachBytes := by
            intro f hf
            obtain ⟨i, hi⟩ := List.getElem?_of_mem hf
            have hi' : fs[i]? = some f := by simpa using hi
            have hlt : i < xs.length := by rw [hxl]; exact (Array.getElem?_eq_some_iff.1 hi').1
            refine ⟨xs[i], by rw [hfield i f hi']; simp [hlt], fun m hm => hwt m ?_⟩
            simp only [DataW.weights, hu]
            exact DataW.weights_mem_each (j := i) (t := f.type) (d := xs[i].1) (by simp [hi]) (by simp [hlt]) m hm
          have key : ∀ (fl : List Field) (off : Nat) (r : List (Lk × TypeId)), flatF P (flat P d) fl off = some r → (∀ f ∈ fl, ∃ z, DataW.trod enc P W base spare held n f.type ((cs.drop f.offset).take (P.cellsOf f.type)) = some z ∧ ∀ m ∈ z.1.weights P f.type, m ≤ reachBytes) →
              ∀ (i : Nat) (lt : Lk × TypeId) (v : Value), r[i]? = some lt → cs[off + i]? = some v → leafOk P W lt.1 lt.2 v := by
            intro fl
            induction fl with
            | nil => intro off r hr _ i lt v h1; cases hr; cases h1
            | cons f fl ihf =>
              intro off r hr hz i lt v h1 h2
              unfold flatF at hr
              cases hb1 : Nat.beq f.offset off with
              | false => rw [hb1] at hr; cases hr
              | true =>
                rw [hb1] at hr
                have e1 := Nat.eq_of_beq_eq_true hb1
                simp only [cond_true] at hr
                split at hr
                · rename_i l' hl'
                  cases hb2 : Nat.beq l'.length (P.cellsOf f.type) with
                  | false => rw [hb2] at hr; cases hr
                  | true =>
                    rw [hb2] at hr
                    have e2 := Nat.eq_of_beq_eq_true hb2
                    simp only [cond_true] at hr
                    split at hr
                    · rename_i r' hr'
                      cases hr
                      obtain ⟨z, hz0, hzw⟩ := hz f (by simp)
                      obtain ⟨_, hleaf⟩ := ih f.type l' n _ z hl' hz0 hzw
                      by_cases hi : i < l'.length
                      · rw [List.getElem?_append_left hi] at h1
                        refine hleaf i lt v h1 ?_
                        rw [List.getElem?_take_of_lt (by omega), List.getElem?_drop, e1]
                        exact h2
                      · rw [List.getElem?_append_right (by omega)] at h1
                        exact ihf _ _ hr' (fun g hg => hz g (by simp [hg])) (i - l'.length) lt v h1 (by rw [show off + l'.length + (i - l'.length) = off + i by omega]; exact h2)
                    · cases hr
                · cases hr
          intro i lt v h1 h2
          exact key _ 0 _ hl hall i lt v h1 (by rw [Nat.zero_add]; exact h2)
      · cases hf
    · rename_i n e hu
      split at hf
      · rename_i l hl
        cases hb : (Nat.beq l.length (P.cellsOf e) && Nat.beq (n * l.length) (P.cellsOf t)) with
        | false => rw [hb] at hf; cases hf
        | true =>
          rw [hb] at hf
          cases hf
          rw [Bool.and_eq_true] at hb
          have e1 := Nat.eq_of_beq_eq_true hb.1
          have e2 := Nat.eq_of_beq_eq_true hb.2
          obtain ⟨xs, m, _, hy, hlen, hxl, hget⟩ := DataW.trod_array hu h
          subst hy
          have hall : ∀ i, i < n → ∃ z, DataW.trod enc P W base spare held m e ((cs.drop (i * P.cellsOf e)).take (P.cellsOf e)) = some z ∧ ∀ k ∈ z.1.weights P e, k ≤ reachBytes := fun i hi =>
            ⟨xs[i], by rw [hget i hi]; exact List.getElem?_eq_getElem (by omega), fun k hk => hwt k (by
              simp only [DataW.weights, hu]
              exact weights_mem_all (List.mem_map.2 ⟨xs[i], List.getElem_mem _, rfl⟩) k hk)⟩
          have flen : ∀ n : Nat, ((List.replicate n l).flatten).length = n * l.length := by intro n; simp
          refine ⟨by rw [hlen, flen, e2], ?_⟩
          intro i lt v h1 h2
          have hi : i < n * l.length := by
            rcases Nat.lt_or_ge i (n * l.length) with h | h
            · exact h
            · rw [List.getElem?_eq_none (by rw [flen]; exact h)] at h1; cases h1
          have hpos : 0 < l.length := Nat.pos_of_ne_zero (by intro h0; rw [h0] at hi; omega)
          have get : ∀ (n i : Nat), i < n * l.length → ((List.replicate n l).flatten)[i]? = l[i % l.length]? := by
            intro n
            induction n with
            | zero => intro i hi; omega
            | succ n ihn =>
              intro i hi
              show (l ++ (List.replicate n l).flatten)[i]? = _
              rw [Nat.add_mul, Nat.one_mul] at hi
              by_cases h : i < l.length
              · rw [List.getElem?_append_left h, Nat.mod_eq_of_lt h]
              · rw [List.getElem?_append_right (by omega), ihn (i - l.length) (by omega), ← Nat.mod_eq_sub_mod (by omega)]
          rw [get n i hi] at h1
          obtain ⟨z, hz, hzw⟩ := hall (i / l.length) ((Nat.div_lt_iff_lt_mul hpos).2 hi)
          obtain ⟨_, hleaf⟩ := ih e l m _ z hl hz hzw
          refine hleaf (i % l.length) lt v h1 ?_
          rw [← e1, List.getElem?_take_of_lt (Nat.mod_lt _ hpos), List.getElem?_drop, Nat.mul_comm, Nat.div_add_mod]
          exact h2
      · cases hf
    · cases hf
end

/-- The whole heap, as a part. -/
def hpOf (W : World) : Hp := fun b => W.heap[b]?
theorem hpOf_le (W : World) : (hpOf W).le W := fun _ _ h => h
theorem hpOf_cell (W : World) (a : Addr) : (hpOf W).cell? a = W.cell? a := rfl

/-- Cells of an argument, as a value. -/
theorem open_flat {P : Program} {W : World} {d : Nat} {t : TypeId} {cs : List Value} {ls : List (Lk × TypeId)} (h : Opn P W t cs) (hf : flat P d t = some ls) : ∃ x : LT (ls.map (·.1)), cs = encL (ls.map (·.1)) x ∧ okL P W ls x := by
  obtain ⟨H, enc, base, spare, held, fuel, y, h, hw⟩ := h
  obtain ⟨h1, h2⟩ := flat_leaves d t ls fuel cs y hf h hw
  exact leaves_enc ls cs h1 h2

/-- A slice of an argument, as a row. -/
theorem open_row {P : Program} {W : World} {d : Nat} {t e : TypeId} {ls : List (Lk × TypeId)} {cd : Cdc} (mk : LT (ls.map (·.1)) → cd.T) (hmk : ∀ x, (cd.enc (mk x)).cells.toList = encL (ls.map (·.1)) x)
    {a : Option Addr} {len cap : Nat} (h : Opn P W t [.slice a len cap]) (hu : P.underlying t = some (.slice e)) (hf : flat P d e = some ls) (hc : P.cellsOf e = ls.length) :
    len ≤ cap ∧ cap ≤ maxLen ∧ len * P.bytesOf e ≤ reachBytes ∧ ∃ xs : List cd.T, Row cd (hpOf W) ⟨a, len, cap⟩ xs ∧ ∀ x ∈ xs, ∃ y, x = mk y ∧ okL P W ls y := by
  obtain ⟨H, enc, base, spare, held, fuel, y, h, hw⟩ := h
  rcases DataW.trod_slice hu h with ⟨h0, _⟩ | ⟨ad, len', cap', elems, rest, n, _, h0, hy, hb, hl, hm, hlen, hel, _, _⟩
  · cases h0
    exact ⟨Nat.le_refl _, Nat.zero_le _, by omega, [], ⟨rfl, rfl⟩, fun x hx => by cases hx⟩
  · cases h0
    subst hy
    have hw' : (elems.length + rest.length) * P.bytesOf e ≤ reachBytes := by
      have := hw ((elems.length + rest.length) * P.bytesOf e) (by simp [DataW.weights, hu])
      exact this
    refine ⟨hl, hm, Nat.le_trans (Nat.mul_le_mul_right _ (by omega)) hw', ?_⟩
    have each : ∀ i, i < len → ∃ x : LT (ls.map (·.1)), okL P W ls x ∧ ∀ j v, (encL (ls.map (·.1)) x)[j]? = some v → W.cell? (ad.add (i * ls.length + j)) = some v := by
      intro i hi
      have hi' : i < elems.length := by omega
      have := hel i hi
      rw [List.getElem?_eq_getElem hi', Option.bind_eq_some_iff] at this
      obtain ⟨cs, hcs, htr⟩ := this
      obtain ⟨x, hx, ok⟩ := open_flat (P := P) (W := W) ⟨H, enc, base, spare, held, n, _, htr, fun k hk => hw k (by
        simp only [DataW.weights, hu, List.mem_cons, List.mem_append]
        exact .inr (.inl (weights_mem_all (List.mem_map.2 ⟨elems[i], List.getElem_mem _, rfl⟩) k hk)))⟩ hf
      refine ⟨x, ok, fun j v hj => ?_⟩
      obtain ⟨_, hl1, hl2⟩ := World.cells?_some hcs
      rw [hc] at hl1 hl2
      rw [← hx] at hj
      have hjl : j < ls.length := by
        rcases Nat.lt_or_ge j ls.length with h | h
        · exact h
        · rw [List.getElem?_eq_none (by omega)] at hj; cases hj
      have := hl2 j hjl
      rw [hj] at this
      rw [← this]
      congr 1
      obtain ⟨b, o, sp⟩ := ad
      unfold Addr.add
      by_cases h1 : i * ls.length = 0 <;> by_cases h2 : j = 0 <;> simp [h1, h2, Nat.add_assoc]
    have build : ∀ m, m ≤ len → ∃ xs : List (LT (ls.map (·.1))), xs.length = m ∧ (∀ x ∈ xs, okL P W ls x) ∧ ∀ i v, (xs.flatMap (encL (ls.map (·.1))))[i]? = some v → W.cell? (ad.add i) = some v := by
      intro m
      induction m with
      | zero => exact fun _ => ⟨[], rfl, (fun x hx => absurd hx List.not_mem_nil), (fun i v hv => by cases hv)⟩
      | succ m ihm =>
        intro hm'
        obtain ⟨xs, h1, h2, h3⟩ := ihm (by omega)
        obtain ⟨x, ok, hx⟩ := each m (by omega)
        refine ⟨xs ++ [x], by simp [h1], fun z hz => ?_, fun i v hv => ?_⟩
        · rcases List.mem_append.1 hz with hz | hz
          · exact h2 z hz
          · rw [List.mem_singleton] at hz; subst hz; exact ok
        · have hxl : (xs.flatMap (encL (ls.map (·.1)))).length = m * ls.length := by
            rw [← h1]
            clear h1 h2 h3 hv
            induction xs with
            | nil => simp
            | cons z xs ihx => simp only [List.flatMap_cons, List.length_append, ihx, encL_len, List.length_map, List.length_cons, Nat.add_mul, Nat.one_mul]; omega
          rw [List.flatMap_append, List.flatMap_cons, List.flatMap_nil, List.append_nil] at hv
          by_cases hi : i < m * ls.length
          · rw [List.getElem?_append_left (by omega)] at hv; exact h3 i v hv
          · rw [List.getElem?_append_right (by omega), hxl] at hv
            have := hx (i - m * ls.length) v hv
            rw [show m * ls.length + (i - m * ls.length) = i by omega] at this
            exact this
    obtain ⟨xs, h1, h2, h3⟩ := build len (Nat.le_refl _)
    refine ⟨xs.map mk, ⟨by simp [h1], ?_⟩, fun x hx => ?_⟩
    · show (hpOf W).rds ad (cellsL cd (xs.map mk))
      have : cellsL cd (xs.map mk) = xs.flatMap (encL (ls.map (·.1))) := by
        clear h1 h2 h3
        induction xs with
        | nil => rfl
        | cons z xs ihx => rw [List.map_cons, cellsL_cons, ihx, hmk]; rfl
      rw [this]
      exact h3
    · obtain ⟨y, hy, rfl⟩ := List.mem_map.1 hx
      exact ⟨y, rfl, h2 y hy⟩
end Go.Eng
