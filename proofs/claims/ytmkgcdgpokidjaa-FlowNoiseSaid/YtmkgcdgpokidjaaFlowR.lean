/- Chapter 7: what a push does. -/
import Derived.Test.YtmkgcdgpokidjaaFlowQ
set_option linter.unusedVariables false
namespace Go.Proofs.Ytmkgcdgpokidjaa
open Go.Eng

theorem least {p : Nat → Prop} : ∀ n, p n → ∃ k, p k ∧ ∀ m, p m → k ≤ m := by
  intro n
  induction n using Nat.strongRecOn with
  | _ n ih =>
    intro hn
    by_cases h : ∃ m, m < n ∧ p m
    · obtain ⟨m, hm, hp⟩ := h
      exact ih m hm hp
    · exact ⟨n, hn, fun m hm => by
        rcases Nat.lt_or_ge m n with h' | h'
        · exact absurd ⟨m, h', hm⟩ h
        · exact h'⟩
open Classical in
/-- A loop: what holds at its head, and how far it yet goes. -/
theorem loop_n {T : Type} {x0 : T} {h0 : Hp} {B : (T → Hp → Prop) → T → Hp → Prop} (I : Nat → T → Hp → Prop) (n : Nat) (hi : I n x0 h0)
    (step : ∀ (J : T → Hp → Prop) (n : Nat) (x : T) (h : Hp), (∀ m x' h', I m x' h' → m < n → J x' h') → I n x h → B J x h) : loopP x0 h0 B := by
  refine ⟨fun x h => ∃ n, I n x h, fun x h => if h' : ∃ n, I n x h then Classical.choose (least (p := fun n => I n x h) _ h'.choose_spec) else 0, ⟨n, hi⟩, fun x h hI => ?_⟩
  have key : ∀ x h (h' : ∃ n, I n x h), (if h' : ∃ n, I n x h then Classical.choose (least (p := fun n => I n x h) _ h'.choose_spec) else 0) = Classical.choose (least (p := fun n => I n x h) _ h'.choose_spec) := fun x h h' => dif_pos h'
  have hs := Classical.choose_spec (least (p := fun n => I n x h) _ hI.choose_spec)
  refine step _ _ x h (fun m x' h' hm hlt => ⟨⟨m, hm⟩, ?_⟩) hs.1
  have hE : ∃ n, I n x' h' := ⟨m, hm⟩
  have hs' := Classical.choose_spec (least (p := fun n => I n x' h') _ hE.choose_spec)
  dsimp only
  rw [key x h hI, key x' h' hE]
  exact Nat.lt_of_le_of_lt (hs'.2 m hm) hlt

/-- Midway through these bytes. -/
def Mid (all rest : List Int) (outs : List (List Int)) (n : Nat) : Prop :=
  (flowV all).1 = outs ++ (flowV rest).1 ∧ (flowV all).2.1 = (flowV rest).2.1 ∧ (flowV all).2.2 = n + (flowV rest).2.2 ∧ Bytes rest ∧ outs.length + n + rest.length ≤ all.length
theorem Mid.start {all : List Int} (hb : Bytes all) : Mid all all [] 0 := ⟨rfl, rfl, by omega, hb, by simp⟩
theorem Mid.none {all rest : List Int} {outs : List (List Int)} {n : Nat} (m : Mid all rest outs n) (h0 : rest ≠ []) (h : mayV rest = false) (hf : frameG rest = none) : Mid all (rest.drop 1) outs (n + 1) := by
  obtain ⟨m1, m2, m3, m4, m5⟩ := m
  rw [flowV_none h0 h hf] at m1 m2 m3
  have := List.length_pos_iff.2 h0
  exact ⟨m1, m2, by dsimp only at m3; omega, m4.drop 1, by rw [List.length_drop]; omega⟩
theorem Mid.some {all rest : List Int} {outs : List (List Int)} {n : Nat} {b : List Int} {k : Nat} (m : Mid all rest outs n) (h : mayV rest = false) (hf : frameG rest = some (b, k)) : Mid all (rest.drop k) (outs ++ [b]) n := by
  obtain ⟨m1, m2, m3, m4, m5⟩ := m
  rw [flowV_some h hf] at m1 m2 m3
  have := frameG_pos hf
  exact ⟨by rw [m1]; simp, m2, m3, m4.drop k, by rw [List.length_drop, List.length_append, List.length_singleton]; omega⟩
theorem Mid.stop {all rest : List Int} {outs : List (List Int)} {n : Nat} (m : Mid all rest outs n) (h : rest = [] ∨ mayV rest = true) : flowV all = (outs, rest, n) := by
  obtain ⟨m1, m2, m3, m4, m5⟩ := m
  have e : flowV rest = ([], rest, 0) := by
    rcases h with rfl | h
    · rfl
    · exact flowV_may h
  rw [e] at m1 m2 m3
  obtain ⟨a, b, c⟩ : (flowV all).1 = outs ∧ (flowV all).2.1 = rest ∧ (flowV all).2.2 = n := ⟨by simpa using m1, m2, by simpa using m3⟩
  rw [← a, ← b, ← c]

theorem push7_ok {p : Option Addr} {held : List Int} {lost : Nat} {c g h : Hp} {l : List Hp} {m : Sl} {bs : List Int} (o : On h (c :: l)) (w : IsFlow p held lost c 158) (hg : g ∈ l) (r : Row (cI .u8) g m bs) (hbh : Bytes held) (hb : Bytes bs) (hl : held.length + bs.length ≤ 1000000) (hlost : lost ≤ 1000000)
    {Q : Sl → Hp → Prop} (hq : ∀ s ss c' r' h', On h' (c' :: r' :: l) → IsFlow p (flowV (held ++ bs)).2.1 (lost + (flowV (held ++ bs)).2.2) c' 158 → Row cSl r' s ss → Rows2 r' ss (flowV (held ++ bs)).1 → Q s h') :
    callP Try.prog 77 [Value.pointer p, Value.slice m.a m.len m.cap] cSl h Q := by
  obtain ⟨b, s, d, rfl, oc, wd⟩ := w
  refine c77 ?_
  unfold F77
  dsimp only [nilP]
  have os := o.split oc
  refine cond_f rfl ?_
  refine load_ob (x := s) os 0 rfl rfl ?_
  refine append_own (g := g) (s := s) (t := m) os.swap rfl wd (by decide) r (os.mem (by simp [hg])) (by unfold roomP; omega) fun d1 p1 k1 k2 h1 o1 w1 => ?_
  have hball : Bytes (held ++ bs) := by
    intro x hx
    rcases List.mem_append.1 hx with hx | hx
    · exact hbh x hx
    · exact hb x hx
  have hal : (held ++ bs).length ≤ 1000000 := by rw [List.length_append]; exact hl
  generalize held ++ bs = all at hq w1 hball hal
  have oi : On h1 (ob b [.slice s.a s.len s.cap, .int .i64 (lost : Int)] 158 :: Hp.emp :: Hp.emp :: d1 :: l) := o1.swap.emp.emp.pick [2, 0, 1] 3 (by decide) (by decide)
  refine loop_i (fun z h' => ∃ (n : Nat) (outs : List (List Int)) (rest : List Int) (sls : List Sl) (dO r : Hp), Mid all rest outs n ∧
    On h' (ob b [.slice s.a s.len s.cap, .int .i64 ((lost + n : Nat) : Int)] 158 :: dO :: r :: d1 :: l) ∧ Own cSl dO z.1 sls ∧ Rows2 r sls outs ∧ Row (cI .u8) d1 z.2 rest ∧ rest.length ≤ z.2.cap) (fun z => z.2.len)
    ⟨0, [], all, [], Hp.emp, Hp.emp, Mid.start hball, oi, Own.nil _, trivial, w1.row, w1.le_cap (by decide)⟩ ?_
  rintro J z h2 again ⟨n, outs, rest, sls, dO, r2, mid, o2, wo, rr, rw2, hcap⟩
  have hlen := rw2.1
  have hbr := mid.2.2.2.1
  have hsz := mid.2.2.2.2
  have hsl := rr.len
  refine join_i (fun t h' => h' = h2 ∧ (t = true → rest ≠ [] ∧ mayV rest = false) ∧ (t = false → rest = [] ∨ mayV rest = true)) ?_ fun J3 hJ3 => ?_
  · rintro t h3 ⟨rfl, ht, hf⟩
    refine cond_i (fun e => ?_) fun e => ?_
    · obtain ⟨hne, hnm⟩ := ht e
      clear ht hf
      have hpos := List.length_pos_iff.2 hne
      refine join_i (fun zz h' => J (zz.1, zz.2) h') (fun _ _ h => h) fun J2 hJ2 => ?_
      refine get6_ok (p0 := z.2) o2 (g := d1) (by simp) rw2 hbr hcap (by omega) (fun hn h4 o4 => ?_) fun body k hk s4 d4 h4 o4 w4 => ?_
      · refine cond_f rfl ?_
        refine load_ob (x := ((lost + n : Nat) : Int)) o4 0 rfl rfl ?_
        have ew : IntKind.i64.wrap (((lost + n : Nat) : Int) + 1) = ((lost + (n + 1) : Nat) : Int) := w64n (by omega)
        rw [ew]
        refine store_ob (cd := cI .i64) (i := 1) (x := ((lost + (n + 1) : Nat) : Int)) (vs' := [.slice s.a s.len s.cap, .int .i64 ((lost + (n + 1) : Nat) : Int)]) o4 rfl rfl (Nat.le_refl 2) fun h5 o5 => ?_
        refine ⟨by omega, by omega, ?_⟩
        have hc := rw2.cut (k := 1) (m := rest.length) (cap' := z.2.cap - 1) (by omega) (by omega) hcap rfl (z := 1) rfl
        rw [List.take_of_length_le (by simp)] at hc
        refine hJ2 _ _ (again _ _ ⟨n + 1, outs, rest.drop 1, sls, dO, r2, mid.none hne hnm hn, o5, wo, rr, ?_, ?_⟩ ?_)
        · rw [hlen]; exact hc
        · rw [List.length_drop]; dsimp only; omega
        · dsimp only; omega
      · have hk2 := frameG_pos hk
        refine cond_t rfl (more_ok o4 wo rr w4 (by omega) fun p n5 m5 d5 r5 h5 o5 w5 rr5 => ?_)
        refine ⟨by dsimp only; omega, by dsimp only; omega, ?_⟩
        have hc := rw2.cut (k := k) (m := rest.length) (cap' := z.2.cap - k) (by omega) (by omega) hcap rfl (z := 1) rfl
        rw [List.take_of_length_le (by simp)] at hc
        dsimp only
        rw [Int.toNat_natCast]
        refine hJ2 _ _ (again _ _ ⟨n, outs ++ [body], rest.drop k, sls ++ [s4], d5, r5, mid.some hnm hk, o5, w5, rr5, ?_, ?_⟩ ?_)
        · rw [hlen]; exact hc
        · rw [List.length_drop]; dsimp only; omega
        · dsimp only; omega
    · have hstop := mid.stop (hf e)
      rw [hstop] at hq
      refine alloc_ob o2 fun k10 h4 o4 => ?_
      have w0 : Own (cI .u8) (ob k10 [] 5) ⟨some ⟨k10, 0, none⟩, 0, 0⟩ [] := own_ob (cd := cI .u8) (xs := []) (rest := []) rfl rfl rfl
      refine append_own (g := d1) (s := ⟨some ⟨k10, 0, none⟩, 0, 0⟩) (t := z.2) o4 rfl w0 (by decide) rw2 (o4.mem (by simp)) (by unfold roomP; simp; omega) fun d5 p5 n5 m5 h5 o5 w5 => ?_
      have o5' : On h5 (ob b [.slice s.a s.len s.cap, .int .i64 ((lost + n : Nat) : Int)] 158 :: d5 :: dO :: r2 :: l) := o5.pick [1, 0, 2, 3] 5 (by decide) (by decide)
      refine store_ob (cd := cSl) (i := 0) (x := (⟨p5, n5, m5⟩ : Sl)) (vs' := [.slice p5 n5 m5, .int .i64 ((lost + n : Nat) : Int)]) o5' rfl rfl (Nat.le_succ 1) fun h6 o6 => ?_
      obtain ⟨o7, o8⟩ := On.joined (cs := [_, d5]) (l := dO :: r2 :: l) o6
      obtain ⟨o9, oa⟩ := On.joined (cs := [dO, r2]) (o7.pick [1, 2, 0] 3 (by decide) (by decide))
      exact hq z.1 sls _ _ h6 o9.swap ⟨b, ⟨p5, n5, m5⟩, d5, rfl, o8, w5⟩ (wo.row.sub (oa.mem (by simp))) (Rows2.sub (oa.mem (by simp)) rr)
  · refine cond_d (fun hpos => ?_) fun h0 => hJ3 _ _ ⟨rfl, fun h => (by cases h), fun _ => .inl (List.length_eq_zero_iff.1 (by omega))⟩
    refine begins_ok (o2.mem (by simp)) rw2 hbr (by omega) (hJ3 _ _ ⟨rfl, fun h => ⟨?_, by simpa using h⟩, fun h => .inr (by simpa using h)⟩)
    rintro rfl
    rw [List.length_nil] at hlen
    omega

theorem rpush7_ok {p : Option Addr} {held : List Int} {lost : Nat} {c g h : Hp} {l : List Hp} {m : Sl} {bs : List Int} {e : TypeId} (o : On h (c :: l)) (w : IsFlow p held lost c e) (hg : g ∈ l) (r : Row (cI .u8) g m bs) (hbh : Bytes held) (hb : Bytes bs) (hl : held.length + bs.length ≤ 1000000) (hlost : lost ≤ 1000000)
    {Q : Sl → Hp → Prop} (hq : ∀ s ss c' r' h', On h' (c' :: r' :: l) → IsFlow p (flowV (held ++ bs)).2.1 (lost + (flowV (held ++ bs)).2.2) c' e → Row cSl r' s ss → Rows2 r' ss (flowV (held ++ bs)).1 → Q s h') :
    callP Try.prog 78 [Value.pointer p, Value.slice m.a m.len m.cap] cSl h Q := by
  obtain ⟨b, s, d, rfl, oc, wd⟩ := w
  refine c78 ?_
  unfold F78
  dsimp only [nilP]
  have os := o.split oc
  refine alloc_ob os fun k0 h0 o0 => ?_
  refine load_ob (x := s) o0 1 rfl rfl ?_
  have w0 : Own (cI .u8) (ob k0 [] 5) ⟨some ⟨k0, 0, none⟩, 0, 0⟩ [] := own_ob (cd := cI .u8) (xs := []) (rest := []) rfl rfl rfl
  refine append_own (g := d) (s := ⟨some ⟨k0, 0, none⟩, 0, 0⟩) (t := s) o0 rfl w0 (by decide) wd.row (o0.mem (by simp)) (by unfold roomP; simp; omega) fun d1 p1 k1 k2 h1 o1 w1 => ?_
  have w1 : Own (cI .u8) d1 ⟨p1, k1, k2⟩ held := w1
  refine append_own (g := g) (s := ⟨p1, k1, k2⟩) (t := m) o1 rfl w1 (by decide) r (o1.mem (by simp [hg])) (by unfold roomP; simp; omega) fun d2 p2 k4 k5 h2 o2 w2 => ?_
  have hball : Bytes (held ++ bs) := by
    intro x hx
    rcases List.mem_append.1 hx with hx | hx
    · exact hbh x hx
    · exact hb x hx
  have hal : (held ++ bs).length ≤ 1000000 := by rw [List.length_append]; exact hl
  generalize held ++ bs = all at hq w2 hball hal
  have o2' : On h2 (ob b [.slice s.a s.len s.cap, .int .i64 (lost : Int)] e :: d2 :: l) := o2.pick [1, 0] 3 (by decide) (by decide)
  refine store_ob (cd := cSl) (i := 0) (x := (⟨p2, k4, k5⟩ : Sl)) (vs' := [.slice p2 k4 k5, .int .i64 (lost : Int)]) o2' rfl rfl (Nat.le_succ 1) fun h4 o4 => ?_
  have oi : On h4 (ob b [.slice p2 k4 k5, .int .i64 (lost : Int)] e :: Hp.emp :: Hp.emp :: d2 :: l) := o4.emp.emp.pick [2, 0, 1] 3 (by decide) (by decide)
  refine join_i (fun s5 h5 => ∃ (n : Nat) (outs : List (List Int)) (rest : List Int) (sls : List Sl) (dO r d1 : Hp) (sl : Sl), flowV all = (outs, rest, n) ∧
    On h5 (ob b [.slice sl.a sl.len sl.cap, .int .i64 ((lost + n : Nat) : Int)] e :: dO :: r :: d1 :: l) ∧ Own cSl dO s5 sls ∧ Rows2 r sls outs ∧ Own (cI .u8) d1 sl rest) ?_ fun J1 hJ1 => ?_
  · rintro s5 h5 ⟨n, outs, rest, sls, dO, r5, d5, sl, hstop, o5, wo, rr, w5⟩
    rw [hstop] at hq
    obtain ⟨o7, o8⟩ := On.joined (cs := [_, d5]) (l := dO :: r5 :: l) (o5.pick [0, 3, 1, 2] 4 (by decide) (by decide))
    obtain ⟨o9, oa⟩ := On.joined (cs := [dO, r5]) (o7.pick [1, 2, 0] 3 (by decide) (by decide))
    exact hq s5 sls _ _ h5 o9.swap ⟨b, sl, d5, rfl, o8, w5⟩ (wo.row.sub (oa.mem (by simp))) (Rows2.sub (oa.mem (by simp)) rr)
  refine loop_n (fun f z h' => ∃ (n : Nat) (outs : List (List Int)) (rest : List Int) (sls : List Sl) (dO r d1 : Hp) (sl : Sl), f = rest.length ∧ Mid all rest outs n ∧
    On h' (ob b [.slice sl.a sl.len sl.cap, .int .i64 ((lost + n : Nat) : Int)] e :: dO :: r :: d1 :: l) ∧ Own cSl dO z sls ∧ Rows2 r sls outs ∧ Own (cI .u8) d1 sl rest) all.length
    ⟨0, [], all, [], Hp.emp, Hp.emp, d2, ⟨p2, k4, k5⟩, rfl, Mid.start hball, oi, Own.nil _, trivial, w2⟩ ?_
  rintro J f z h6 again ⟨n, outs, rest, sls, dO, r6, d6, sl, rfl, mid, o6, wo, rr, w6⟩
  have hlen := w6.1
  have hbr := mid.2.2.2.1
  have hsz := mid.2.2.2.2
  have hsl := rr.len
  have hcap := w6.le_cap (by decide)
  refine load_ob (x := sl) o6 0 rfl rfl ?_
  refine cond_d (fun hpos => ?_) fun h0 => hJ1 _ _ ⟨n, outs, rest, sls, dO, r6, d6, sl, mid.stop (.inl (List.length_eq_zero_iff.1 (by omega))), o6, wo, rr, w6⟩
  have hne : rest ≠ [] := by rintro rfl; rw [List.length_nil] at hlen; omega
  refine join_i (fun zz h' => J zz h') (fun _ _ h => h) fun J3 hJ3 => ?_
  refine load_ob (x := sl) o6 0 rfl rfl ?_
  refine rget6_ok o6 (g := d6) (by simp) w6.row hbr hcap (by omega) (fun hn h8 o8 => ?_) fun body k hk s4 d4 h4 o4 w4 => ?_
  · refine cond_f rfl ?_
    refine load_ob (x := sl) o8 0 rfl rfl ?_
    refine may_ok (o8.mem (by simp)) w6.row hbr (by omega) ?_
    refine cond_i (fun hm => hJ1 _ _ ⟨n, outs, rest, sls, dO, r6, d6, sl, mid.stop (.inr hm), o8, wo, rr, w6⟩) fun hnm => ?_
    refine load_ob (x := sl) o8 0 rfl rfl ?_
    refine ⟨by omega, by omega, ?_⟩
    refine store_ob (cd := cSl) (i := 0) (x := (⟨(cutA sl.a 1 sl.cap 1), (sl.len - 1), (sl.cap - 1)⟩ : Sl)) (vs' := [.slice (cutA sl.a 1 sl.cap 1) (sl.len - 1) (sl.cap - 1), .int .i64 ((lost + n : Nat) : Int)]) o8 rfl rfl (Nat.le_succ 1) fun h9 o9 => ?_
    refine load_ob (x := ((lost + n : Nat) : Int)) o9 0 rfl rfl ?_
    have ew : IntKind.i64.wrap (((lost + n : Nat) : Int) + 1) = ((lost + (n + 1) : Nat) : Int) := w64n (by omega)
    rw [ew]
    refine store_ob (cd := cI .i64) (i := 1) (x := ((lost + (n + 1) : Nat) : Int)) (vs' := [.slice (cutA sl.a 1 sl.cap 1) (sl.len - 1) (sl.cap - 1), .int .i64 ((lost + (n + 1) : Nat) : Int)]) o9 rfl rfl (Nat.le_refl 2) fun ha oa => ?_
    have wf := w6.from rfl (by decide) (k := 1) (by omega) (z := 1) rfl
    exact hJ3 _ _ (again _ _ _ ⟨n + 1, outs, rest.drop 1, sls, dO, r6, d6, ⟨cutA sl.a 1 sl.cap 1, sl.len - 1, sl.cap - 1⟩, rfl, mid.none hne hnm hn, oa, wo, rr, wf⟩ (by rw [List.length_drop]; omega))
  · have hk2 := frameG_pos hk
    have hnm : mayV rest = false := by
      cases hm : mayV rest with
      | false => rfl
      | true => rw [mayV_frame (b := []) (k := 0) hbr hm] at hk; cases hk
    refine cond_t rfl (more_ok o4 wo rr w4 (by omega) fun p n5 m5 d5 r5 h5 o5 w5 rr5 => ?_)
    refine load_ob (x := sl) o5 0 rfl rfl ?_
    refine ⟨by dsimp only; omega, by dsimp only; omega, ?_⟩
    dsimp only
    rw [Int.toNat_natCast]
    refine store_ob (cd := cSl) (i := 0) (x := (⟨(cutA sl.a k sl.cap 1), (sl.len - k), (sl.cap - k)⟩ : Sl)) (vs' := [.slice (cutA sl.a k sl.cap 1) (sl.len - k) (sl.cap - k), .int .i64 ((lost + n : Nat) : Int)]) o5 rfl rfl (Nat.le_succ 1) fun h9 o9 => ?_
    have wf := w6.from rfl (by decide) (k := k) (by omega) (z := 1) rfl
    exact hJ3 _ _ (again _ _ _ ⟨n, outs ++ [body], rest.drop k, sls ++ [s4], d5, r5, d6, ⟨cutA sl.a k sl.cap 1, sl.len - k, sl.cap - k⟩, rfl, mid.some hnm hk, o9, w5, rr5, wf⟩ (by rw [List.length_drop]; omega))
end Go.Proofs.Ytmkgcdgpokidjaa
