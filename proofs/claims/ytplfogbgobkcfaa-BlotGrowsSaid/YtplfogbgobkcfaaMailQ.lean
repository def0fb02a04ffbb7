/- Chapter 8: take, shut, length; the ones that are known. -/
import Derived.Test.YtplfogbgobkcfaaMailP
set_option linter.unusedVariables false
namespace Go.Proofs.Ytplfogbgobkcfaa
open Go.Eng

theorem take_ok {p : Option Addr} {n : Nat} {q : List (List Int)} {shut : Bool} {c h : Hp} {l : List Hp} (o : On h (c :: l)) (w : IsBox p n q shut c) {Q : Sl × Bool → Hp → Prop}
    (h0 : q = [] → Q (⟨none, 0, 0⟩, false) h)
    (h1 : ∀ bs q' s d c' h', q = bs :: q' → On h' (c' :: d :: l) → IsBox p n q' shut c' → Own (cI .u8) d s bs → Q (s, true) h') : callP Try.prog 26 [Value.pointer p] (tupC [cSl, cB]) h Q := by
  obtain ⟨b, e, rb, s, r', ss, ds, rfl, oc, rr⟩ := w
  refine c26 ?_
  unfold F26
  have os := o.split oc
  refine cond_f rfl ?_
  refine load_ob (x := some rb) os 0 rfl rfl ?_
  have hc := os.get (i := 1) rfl _ _ (one_at _ _)
  refine ⟨n, ss.map sv, s, r', hc, ?_⟩
  match ds, ss, q, rr, os, hc, h0, h1 with
  | [], [], [], _, _, _, h0, _ => exact h0 rfl
  | d :: ds, s1 :: ss, bs :: q, rr, os, hc, _, h1 =>
      refine ⟨s1, rfl, ?_⟩
      have o3 := (os.swap.upd (one_at _ _) (.chan n (List.toArray (ss.map sv)) false s (r' + 1) false))
      rw [one_upd] at o3
      have o6 : On _ (ob b [.chan (some rb), .bool shut] e :: Hp.one rb (.chan n (List.toArray (ss.map sv)) false s (r' + 1) false) :: d :: (ds ++ l)) := o3.swap
      have o7 := o6.perm (l' := (ob b [.chan (some rb), .bool shut] e :: Hp.one rb (.chan n (List.toArray (ss.map sv)) false s (r' + 1) false) :: ds) ++ (d :: l)) (List.Perm.cons _ (List.Perm.cons _ List.perm_middle.symm))
      obtain ⟨o8, o9⟩ := o7.joined
      exact h1 bs q s1 d _ _ rfl o8 ⟨b, e, rb, s, r' + 1, ss, ds, rfl, o9, rr.2⟩ rr.1
theorem take_nil {h : Hp} {Q : Sl × Bool → Hp → Prop} (h0 : Q (⟨none, 0, 0⟩, false) h) : callP Try.prog 26 [Value.pointer none] (tupC [cSl, cB]) h Q := by
  refine c26 ?_
  unfold F26
  exact cond_t rfl h0
theorem put_nil {m : Sl} {h : Hp} {Q : Bool → Hp → Prop} (h0 : Q false h) : callP Try.prog 24 [Value.pointer none, Value.slice m.a m.len m.cap] cB h Q := by
  refine c24 ?_
  unfold F24
  exact h0
theorem shut_nil {h : Hp} {Q : Unit → Hp → Prop} (h0 : Q () h) : callP Try.prog 25 [Value.pointer none] (tupC []) h Q := by
  refine c25 ?_
  unfold F25
  exact cond_f rfl h0
theorem len_nil {h : Hp} {Q : Int → Hp → Prop} (h0 : Q 0 h) : callP Try.prog 42 [Value.pointer none] (cI .i64) h Q := by
  refine c42 ?_
  unfold F42
  exact cond_t rfl h0
theorem shut_ok {p : Option Addr} {n : Nat} {q : List (List Int)} {shut : Bool} {c h : Hp} {l : List Hp} (o : On h (c :: l)) (w : IsBox p n q shut c) {Q : Unit → Hp → Prop}
    (h1 : ∀ c' h', On h' (c' :: l) → IsBox p n q true c' → Q () h') : callP Try.prog 25 [Value.pointer p] (tupC []) h Q := by
  obtain ⟨b, e, rb, s, r', ss, ds, rfl, oc, rr⟩ := w
  refine c25 ?_
  unfold F25
  have os := o.split oc
  refine cond_t rfl ?_
  refine store_ob (vs' := [.chan (some rb), .bool true]) os rfl rfl (Nat.le_refl 2) fun h' o' => ?_
  have o7 : On h' ((ob b [.chan (some rb), .bool true] e :: Hp.one rb (.chan n (List.toArray (ss.map sv)) false s r' false) :: ds) ++ l) := o'
  obtain ⟨o8, o9⟩ := o7.joined
  exact h1 _ _ o8 ⟨b, e, rb, s, r', ss, ds, rfl, o9, rr⟩
theorem len_ok {p : Option Addr} {n : Nat} {q : List (List Int)} {shut : Bool} {c h : Hp} {l : List Hp} (o : On h (c :: l)) (w : IsBox p n q shut c) {Q : Int → Hp → Prop} (h1 : Q q.length h) : callP Try.prog 42 [Value.pointer p] (cI .i64) h Q := by
  obtain ⟨b, e, rb, s, r', ss, ds, rfl, oc, rr⟩ := w
  refine c42 ?_
  unfold F42
  have os := o.split oc
  refine cond_f rfl ?_
  refine load_ob (x := some rb) os 0 rfl rfl ?_
  refine ⟨n, _, false, s, r', os.get (i := 1) rfl _ _ (one_at _ _), ?_⟩
  have := Owns.len rr
  simpa [this] using h1

/-- A block that is marked can be read as it was. -/
theorem mark_ob {b : Nat} {vs : List Value} {e : TypeId} {h : Hp} {l : List Hp} (o : On h (ob b vs e :: l)) {K : Hp → Prop} (hk : ∀ h', On h' (Hp.one b (.cells vs.toArray e (frz vs.length (0, 0))) :: l) → K h') : markP ⟨b, 0, none⟩ h K := by
  refine ⟨vs.toArray, e, (0, 0), o.get (i := 0) rfl _ _ (ob_at b vs e), hk _ ?_⟩
  have := o.upd (ob_at b vs e) (.cells vs.toArray e (frz vs.toArray.size (0, 0)))
  unfold ob at this
  rw [one_upd] at this
  simpa using this
theorem row_one {cd : Cdc} {b : Nat} {e : TypeId} {fz : Nat × Nat} {n cap : Nat} {vs : List Value} {xs : List cd.T} (hv : vs = cellsL cd xs) (hn : n = xs.length) : Row cd (Hp.one b (.cells vs.toArray e fz)) ⟨some ⟨b, 0, none⟩, n, cap⟩ xs := by
  refine ⟨hn, ?_⟩
  subst hv
  exact rds_block (one_at b _) (by simp)

theorem known8_ok {h : Hp} {l : List Hp} (o : On h l) {Q : Bool → Hp → Prop} (hq : ∀ h', On h' l → Q true h') : callP Try.prog 27 [] cB h Q := by
  refine c27 ?_
  unfold F27
  refine new_ok o (fun h => by omega) fun p c h1 _ _ o1 w1 => ?_
  refine alloc_ob o1 fun k1 h2 o2 => mark_ob o2 fun h3 o3 => ?_
  have ra := row_one (cd := cI .u8) (b := k1) (e := 5) (fz := frz 1 (0, 0)) (n := 1) (cap := 1) (xs := [(97 : Int)]) rfl rfl
  refine put_ok (m := ⟨some ⟨k1, 0, none⟩, 1, 1⟩) o3.swap w1 (i := 1) rfl ra (by simp) fun c1 h4 o4 w4 => ?_
  refine alloc_ob o4 fun k2 h5 o5 => mark_ob o5 fun h6 o6 => ?_
  have rb := row_one (cd := cI .u8) (b := k2) (e := 5) (fz := frz 1 (0, 0)) (n := 1) (cap := 1) (xs := [(98 : Int)]) rfl rfl
  refine put_ok (m := ⟨some ⟨k2, 0, none⟩, 1, 1⟩) o6.swap w4 (i := 1) rfl rb (by simp) fun c2 h7 o7 w7 => ?_
  have w7' : IsBox p 1 [[97]] false c2 := w7
  refine take_ok o7 w7' (fun h => by cases h) fun bs q' s d8 c3 h8 hq8 o8 w8 r8 => ?_
  cases hq8
  refine cond_t rfl (cond_t rfl (cond_t rfl ?_))
  refine str_row r8.row (o8.get (i := 1) rfl) ?_
  refine cond_t (by decide +kernel) ?_
  refine new_ok o8 (fun _ => ?_) fun p c h' hn _ _ _ => by omega
  exact hq _ o8.tail.tail.tail.tail
end Go.Proofs.Ytplfogbgobkcfaa
