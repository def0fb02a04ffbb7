/- Chapter 8: of boxes that have something the first one is taken of. -/
import Derived.Test.YtplfogbgobkcfaaMailF
set_option linter.unusedVariables false
namespace Go.Proofs.Ytplfogbgobkcfaa
open Go.Eng

/-- What the law puts in. -/
def put8 (hs : List Bool) (i : Nat) : List (Nat × List (List Int) × Bool) :=
  match hs with
  | [] => []
  | t :: hs => (2, (bif t then [[(i : Int)]] else []), false) :: put8 hs (i + 1)
/-- The first that is so. -/
def first8 : List Bool → Nat → Option Nat
  | [], _ => none
  | t :: hs, i => bif t then some i else first8 hs (i + 1)
def many8 (hs : List Bool) : Nat := (hs.filter id).length
theorem put8_app : ∀ (a b : List Bool) (i : Nat), put8 (a ++ b) i = put8 a i ++ put8 b (i + a.length)
  | [], b, i => by simp [put8]
  | t :: a, b, i => by simp [put8, put8_app a b (i + 1)]; congr 1; omega
theorem first8_app : ∀ (a b : List Bool) (i : Nat), first8 (a ++ b) i = match first8 a i with | some k => some k | none => first8 b (i + a.length)
  | [], b, i => rfl
  | t :: a, b, i => by
    simp only [List.cons_append, first8]
    cases t with
    | true => rfl
    | false =>
      simp only [cond_false]
      rw [first8_app a b (i + 1)]
      simp only [List.length_cons]
      rw [show i + 1 + a.length = i + (a.length + 1) by omega]
theorem put8_len : ∀ (a : List Bool) (i : Nat), (put8 a i).length = a.length
  | [], _ => rfl
  | t :: a, i => by simp [put8, put8_len a]
theorem put8_get : ∀ (a : List Bool) (i j : Nat) (t : Bool), a[j]? = some t → (put8 a i)[j]? = some (2, (bif t then [[((i + j : Nat) : Int)]] else []), false)
  | [], _, _, _, h => by cases h
  | u :: a, i, 0, t, h => by simp at h; subst h; rfl
  | u :: a, i, j + 1, t, h => by
    have := put8_get a (i + 1) j t (by simpa using h)
    simp only [put8, List.getElem?_cons_succ, this]
    rw [show i + 1 + j = i + (j + 1) by omega]

/-- How many boxes hold something (each no more than one). -/
def heldB (bs : List (Nat × List (List Int) × Bool)) : Nat := (bs.filter fun b => !b.2.1.isEmpty).length
theorem held_put8 : ∀ (a : List Bool) (i : Nat), heldB (put8 a i) = many8 a
  | [], _ => rfl
  | t :: a, i => by
    have := held_put8 a (i + 1)
    unfold heldB many8 at this ⊢
    cases t <;> simp [put8, this]
theorem firstOf_put8 : ∀ (a : List Bool) (i : Nat), firstOf (put8 a i) i = first8 a i
  | [], _ => rfl
  | t :: a, i => by
    cases t <;> simp [put8, firstOf, first8, firstOf_put8 a (i + 1)]
/-- Ones that hold no more than one: the first is taken. -/
theorem held_set : ∀ (bs : List (Nat × List (List Int) × Bool)) (i n : Nat) (m : List Int) (t : Bool), bs[i]? = some (n, [m], t) → heldB (bs.set i (n, [], t)) + 1 = heldB bs
  | [], _, _, _, _, h => by cases h
  | b :: bs, 0, n, m, t, h => by
    simp at h; subst h
    simp [heldB]
  | b :: bs, i + 1, n, m, t, h => by
    have := held_set bs i n m t (by simpa using h)
    unfold heldB at this ⊢
    simp only [List.set_cons_succ, List.filter_cons]
    split
    · simp only [List.length_cons]; omega
    · omega
theorem held_none : ∀ (bs : List (Nat × List (List Int) × Bool)) (k : Nat), firstOf bs k = none → heldB bs = 0
  | [], _, _ => rfl
  | b :: bs, k, h => by
    unfold firstOf at h
    split at h
    · rename_i hb
      have := held_none bs (k + 1) h
      unfold heldB at this ⊢
      simp [hb, this]
    · cases h

theorem many8_app (a : List Bool) (t : Bool) : many8 (a ++ [t]) = many8 a + (bif t then 1 else 0) := by
  unfold many8
  cases t <;> simp
theorem many8_le (a : List Bool) : many8 a ≤ a.length := List.length_filter_le _ _
def wantI (o : Option Nat) : Int := match o with | some k => k | none => -1
theorem first8_lt : ∀ (a : List Bool) (i k : Nat), first8 a i = some k → i ≤ k ∧ k < i + a.length ∧ a[k - i]? = some true
  | [], _, _, h => by cases h
  | t :: a, i, k, h => by
    cases t with
    | true => simp [first8] at h; subst h; simp
    | false =>
      simp only [first8, cond_false] at h
      obtain ⟨h1, h2, h3⟩ := first8_lt a (i + 1) k h
      refine ⟨by omega, by simp; omega, ?_⟩
      rw [show k - i = (k - (i + 1)) + 1 by omega]
      simpa using h3
theorem first8_none : ∀ (a : List Bool) (i : Nat), first8 a i = none → many8 a = 0
  | [], _, _ => rfl
  | t :: a, i, h => by
    cases t with
    | true => simp [first8] at h
    | false =>
      have := first8_none a (i + 1) (by simpa [first8] using h)
      unfold many8 at this ⊢
      simpa using this

theorem firsts_ok {g : Hp} {p0 : Sl} {hs : List Bool} (r : Row cB g p0 hs) : F8 p0 g (Lawful g) := by
  have hlen := r.1
  unfold F8
  refine cond_d (fun _ => ⟨rfl, Hp.sub_refl _⟩) fun h8 => ?_
  have h8 : hs.length ≤ 8 := by omega
  refine loop_i (fun z h' => ∃ (i : Nat) (cs : List Hp) (d : Hp) (ps : List (Option Addr)), z.2.2.2 = i ∧ i ≤ hs.length ∧ ps.length = i ∧ On h' (cs ++ [d, g]) ∧ Own cP d z.1 ps ∧ Boxes ps (put8 (hs.take i) 0) cs ∧
      z.2.1 = wantI (first8 (hs.take i) 0) ∧ z.2.2.1 = (many8 (hs.take i) : Nat)) (fun z => hs.length - z.2.2.2.toNat)
    ⟨0, [], Hp.emp, [], rfl, Nat.zero_le _, rfl, (On.self g).emp, Own.nil _, ⟨rfl, rfl, fun i p b c h => by cases h⟩, rfl, rfl⟩ ?_
  rintro J ⟨sl, want, many, n⟩ h' again ⟨i, cs, d, ps, hi, hle, hpl, o, w, wb, hw, hm⟩
  dsimp only at hi hw hm w
  subst hi
  have hmle : many8 (hs.take i) ≤ 8 := by have := many8_le (hs.take i); simp at this; omega
  have hcl : cs.length = i := by
    have := wb.2.1
    rw [put8_len] at this
    simp at this; omega
  have hg : g.sub h' := o.mem (by simp)
  refine cond_d (fun hlt => ?_) fun hge => ?_
  · dsimp only at hlt
    have hlt : i < hs.length := by omega
    have hti : hs[i]? = some hs[i] := List.getElem?_eq_getElem hlt
    have htake : hs.take (i + 1) = hs.take i ++ [hs[i]] := by rw [List.take_add_one, hti]; rfl
    have hput : put8 (hs.take (i + 1)) 0 = put8 (hs.take i) 0 ++ [(2, (bif hs[i] then [[(i : Int)]] else []), false)] := by
      rw [htake, put8_app]
      simp only [put8]
      simp [Nat.min_eq_left hle]
    have hfir : first8 (hs.take (i + 1)) 0 = match first8 (hs.take i) 0 with | some k => some k | none => (bif hs[i] then some i else none) := by
      rw [htake, first8_app]
      simp only [first8]
      simp [Nat.min_eq_left hle]
    refine new_ok o (fun h => by omega) fun p c h2 _ _ o2 w2 => ?_
    have w2' : IsBox p 2 [] false c := w2
    refine join_i (fun z h3 => ∃ c3, On h3 (c3 :: (cs ++ [d, g])) ∧ IsBox p 2 (bif hs[i] then [[(i : Int)]] else []) false c3 ∧ z.1 = wantI (first8 (hs.take (i + 1)) 0) ∧ z.2 = (many8 (hs.take (i + 1)) : Nat)) ?_ fun J2 hJ2 => ?_
    · rintro ⟨wa, ma⟩ h3 ⟨c3, o3, w3, hwa, hma⟩
      refine alloc_ob o3 fun k1 h4 o4 => ?_
      have rp : Row cP (ob k1 [Value.pointer p] 35) ⟨some ⟨k1, 0, none⟩, 1, 1⟩ [p] := row_ob (cd := cP) (xs := [p]) rfl rfl
      have o5 : On h4 (d :: ob k1 [Value.pointer p] 35 :: c3 :: (cs ++ [g])) := by
        refine o4.perm ?_
        have : (ob k1 [Value.pointer p] 35 :: c3 :: (cs ++ [d, g])).Perm (ob k1 [Value.pointer p] 35 :: c3 :: d :: (cs ++ [g])) := by
          refine List.Perm.cons _ (List.Perm.cons _ ?_)
          exact List.perm_middle
        refine this.trans ?_
        exact ((List.Perm.swap d c3 _).cons _).trans (List.Perm.swap d _ _)
      refine append_own (g := ob k1 [Value.pointer p] 35) (t := ⟨some ⟨k1, 0, none⟩, 1, 1⟩) o5 rfl w (by decide) rp (o5.get (i := 1) rfl) (by unfold roomP; simp; omega) fun d' p2 k2 k3 h5 o6 w6 => ?_
      refine again _ _ ⟨i + 1, cs ++ [c3], d', ps ++ [p], w64n (by omega), by omega, by simp [hpl], ?_, w6, ?_, hwa, hma⟩ ?_
      · have o7 : On h5 (d' :: c3 :: (cs ++ [g])) := o6.sublist (List.Sublist.cons_cons _ (List.sublist_cons_self _ _))
        refine o7.perm ?_
        rw [List.append_assoc]
        refine (List.Perm.swap c3 d' _).trans ?_
        have e1 : (c3 :: d' :: (cs ++ [g])).Perm (c3 :: (cs ++ [d', g])) := List.Perm.cons _ List.perm_middle.symm
        refine e1.trans ?_
        exact (List.perm_middle (l₁ := cs) (a := c3) (l₂ := [d', g])).symm
      · rw [hput]
        exact wb.push w3
      · dsimp only; rw [w64n (by omega)]; omega
    · have hg2 : g.sub h2 := o2.mem (by simp)
      refine idx_row r (by dsimp only; omega) (by dsimp only; omega) fun a ha => load_row r hg2 rfl ha (i := i) hti (by simp) ?_
      refine cond_i (fun ht => ?_) fun hf => ?_
      · have hbyte : IntKind.u8.wrap (i : Int) = (i : Int) := by
          simp [IntKind.wrap, IntKind.signed, IntKind.bits]; omega
        dsimp only
        rw [hbyte]
        refine alloc_ob o2 fun k4 h6 o6 => ?_
        have ri : Row (cI .u8) (ob k4 [Value.int .u8 (i : Int)] 5) ⟨some ⟨k4, 0, none⟩, 1, 1⟩ [(i : Int)] := row_ob (cd := cI .u8) (xs := [(i : Int)]) rfl rfl
        refine put_ok (m := ⟨some ⟨k4, 0, none⟩, 1, 1⟩) o6.swap w2' (i := 1) rfl ri (by simp) fun c7 h7 o7 w7 => ?_
        have w7' : IsBox p 2 [[(i : Int)]] false c7 := w7
        have o8 : On h7 (c7 :: (cs ++ [d, g])) := o7.sublist (List.Sublist.cons_cons _ (List.sublist_cons_self _ _))
        have hmn : IntKind.i64.wrap (many + 1) = ((many8 (hs.take (i + 1)) : Nat) : Int) := by
          rw [htake, many8_app, ht, hm]
          exact w64n (by omega)
        refine cond_d (fun hneg => ?_) fun hneg => ?_
        · refine hJ2 _ _ ⟨c7, o8, by rw [ht]; exact w7', ?_, hmn⟩
          rw [hfir, ht]
          rw [hw] at hneg
          cases hf8 : first8 (hs.take i) 0 with
          | none => rfl
          | some k => rw [hf8] at hneg; simp only [wantI] at hneg; omega
        · refine hJ2 _ _ ⟨c7, o8, by rw [ht]; exact w7', ?_, hmn⟩
          rw [hfir, ht]
          rw [hw] at hneg ⊢
          cases hf8 : first8 (hs.take i) 0 with
          | none => rw [hf8] at hneg; simp only [wantI] at hneg; omega
          | some k => rfl
      · refine hJ2 _ _ ⟨c, o2, by rw [hf]; exact w2', ?_, ?_⟩
        · rw [hfir, hf]
          dsimp only
          rw [hw]
          cases first8 (hs.take i) 0 <;> rfl
        · rw [htake, many8_app, hf]
          dsimp only
          rw [hm]; simp
  · dsimp only at hge
    have hil : i = hs.length := by omega
    subst hil
    rw [List.take_length] at wb hw hm
    have rw' : Row cP d sl ps := w.row
    have hmle' : many8 hs ≤ 8 := by have := many8_le hs; omega
    refine first_ok (l := [d, g]) o (k := 0) rfl rw' wb (by omega) (fun hnone => ?_) fun j nn m q t s d1 cs' h'' hsome hb o' wb' r' => ?_
    · rw [firstOf_put8] at hnone
      have hwn : want = -1 := by rw [hw, hnone]; rfl
      refine cond_d (fun _ => ?_) fun hneg => by dsimp only at hneg; omega
      refine cond_t rfl (cond_t rfl (cond_t rfl ?_))
      exact known8_ok o fun h9 o9 => ⟨rfl, o9.mem (by simp)⟩
    · rw [firstOf_put8] at hsome
      have hwn : want = (j : Int) := by rw [hw, hsome]; rfl
      obtain ⟨_, hjl, hjt⟩ := first8_lt hs 0 j hsome
      have hpj := put8_get hs 0 j true (by simpa using hjt)
      rw [hb] at hpj
      simp at hpj
      obtain ⟨rfl, ⟨rfl, rfl⟩, rfl⟩ := hpj
      refine cond_d (fun hneg => by dsimp only at hneg; omega) fun _ => ?_
      have hheld : heldB ((put8 hs 0).set j (2, [], false)) + 1 = many8 hs := by
        rw [held_set _ _ _ _ _ hb, held_put8]
      have hone : ∀ b ∈ (put8 hs 0).set j (2, [], false), b.2.1.length ≤ 1 := by
        intro b hb'
        rcases List.mem_or_eq_of_mem_set hb' with hb' | rfl
        · obtain ⟨k, hk⟩ := List.getElem?_of_mem hb'
          have hkl : k < hs.length := by
            have := (List.getElem?_eq_some_iff.1 hk).1
            rw [put8_len] at this; exact this
          rw [put8_get hs 0 k hs[k] (List.getElem?_eq_getElem hkl)] at hk
          cases hk
          cases hs[k] <;> simp
        · simp
      refine loop_i (fun z h3 => ∃ (k : Nat) (cs3 es : List Hp) (bs3 : List (Nat × List (List Int) × Bool)), z.2 = k ∧ k ≤ hs.length ∧ On h3 (cs3 ++ (es ++ [d1, d, g])) ∧ Boxes ps bs3 cs3 ∧ (∀ b ∈ bs3, b.2.1.length ≤ 1) ∧
          z.1 + heldB bs3 = (many8 hs : Nat) ∧ heldB bs3 ≤ hs.length - k) (fun z => hs.length - z.2.toNat)
        ⟨0, cs', [], _, rfl, Nat.zero_le _, o', wb', hone, by dsimp only; omega, by have := many8_le hs; omega⟩ ?_
      rintro J3 ⟨n3, k3⟩ h3 again3 ⟨k, cs3, es, bs3, hk, hkl, o3, wb3, hone3, hsum, hheld3⟩
      dsimp only at hk hsum
      subst hk
      refine cond_d (fun hlt => ?_) fun hge3 => ?_
      · dsimp only at hlt
        refine join_i (fun m h4 => ∃ (cs3 es : List Hp) (bs3 : List (Nat × List (List Int) × Bool)), On h4 (cs3 ++ (es ++ [d1, d, g])) ∧ Boxes ps bs3 cs3 ∧ (∀ b ∈ bs3, b.2.1.length ≤ 1) ∧ m + heldB bs3 = (many8 hs : Nat) ∧ heldB bs3 ≤ hs.length - (k + 1)) ?_ fun J4 hJ4 => ?_
        · rintro m h4 ⟨cs4, es4, bs4, o4, wb4, hone4, hsum4, hheld4⟩
          refine again3 _ _ ⟨k + 1, cs4, es4, bs4, w64n (by omega), by omega, o4, wb4, hone4, hsum4, hheld4⟩ ?_
          dsimp only; rw [w64n (by omega)]; omega
        · refine first_ok o3 (k := es.length + 1) (by rw [List.getElem?_append_right (by omega)]; simp) rw' wb3 (by omega) (fun hnone => ?_) fun i2 n2 m2 q2 t2 s2 e2 cs5 h5 hsome2 hb2 o5 wb5 w5 => ?_
          · refine cond_f rfl (hJ4 _ _ ⟨cs3, es, bs3, o3, wb3, hone3, hsum, ?_⟩)
            rw [held_none bs3 0 hnone]; omega
          · have hq2 : q2 = [] := by
              have := hone3 _ (List.mem_of_getElem? hb2)
              simp at this
              exact this
            subst hq2
            have hset := held_set bs3 i2 n2 m2 t2 hb2
            refine cond_t rfl (hJ4 _ _ ⟨cs5, e2 :: es, _, o5, wb5, ?_, ?_, ?_⟩)
            · intro b hb'
              rcases List.mem_or_eq_of_mem_set hb' with hb' | rfl
              · exact hone3 b hb'
              · simp
            · rw [w64 (by omega) (by omega)]; omega
            · omega
      · dsimp only at hge3
        refine cond_t rfl ?_
        refine cond_t (by simp [hwn]) ?_
        refine cond_t (by have := r'.1; simp at this; simp [this]) ?_
        have r1 : Row (cI .u8) d1 s [(j : Int)] := by simpa using r'.row
        refine idx_row r1 (by omega) (by simp) fun a ha => load_row r1 (o3.mem (by simp)) rfl ha (i := 0) (x := (j : Int)) rfl (by simp) ?_
        refine cond_t (by rw [w64 (by omega) (by omega)]; simp [hwn]) ?_
        refine cond_t (by rw [hm]; simp; omega) ?_
        exact known8_ok o3 fun h9 o9 => ⟨rfl, o9.mem (by simp)⟩

theorem mailFirsts_law (W : World) (p0 : Sl) (o0 : Opn Try.prog W 41 [.slice p0.a p0.len p0.cap]) : F8 p0 (hpOf W) (Lawful (hpOf W)) := by
  obtain ⟨_, _, _, xs, hr, _⟩ := open_row (d := 3) (e := 4) (ls := [(.b, 4)]) (cd := cB) id (fun _ => rfl) o0 (by kernel_rfl) (by kernel_rfl) (by kernel_rfl)
  exact firsts_ok (hs := xs) hr
end Go.Proofs.Ytplfogbgobkcfaa
