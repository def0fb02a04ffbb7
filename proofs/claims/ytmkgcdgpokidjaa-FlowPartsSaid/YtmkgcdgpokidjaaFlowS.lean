/- Chapter 7: smaller calls. -/
import Derived.Test.YtmkgcdgpokidjaaFlowR
set_option linter.unusedVariables false
namespace Go.Proofs.Ytmkgcdgpokidjaa
open Go.Eng

theorem flow_bytes {l : List Int} (hb : Bytes l) : (∀ b ∈ (flowV l).1, Bytes b) ∧ Bytes (flowV l).2.1 := (flowV_count l.length l (Nat.le_refl _) hb).2
theorem sum_ge {l : List (List Int)} : l.length ≤ (l.map fun b => b.length + 6).sum := by
  induction l with
  | nil => exact Nat.le_refl _
  | cons a l ih => simp only [List.map_cons, List.sum_cons, List.length_cons]; omega
theorem flow_len {l : List Int} (hb : Bytes l) : (flowV l).1.length + (flowV l).2.1.length + (flowV l).2.2 ≤ l.length := by
  have h1 := (flowV_count l.length l (Nat.le_refl _) hb).1
  have h2 := sum_ge (l := (flowV l).1)
  omega
theorem flow_at {k : Nat} {held : List Int} {lost : Nat} {c : Hp} {e : TypeId} (w : IsFlow (some ⟨k, 0, none⟩) held lost c e) : ∃ s : Sl, s.len = held.length ∧ c.rds ⟨k, 0, none⟩ [Value.slice s.a s.len s.cap] ∧ c.rds ⟨k, 1, none⟩ [Value.int .i64 lost] := by
  obtain ⟨b, s, d, hb, oc, wd⟩ := w
  injection hb with hb
  injection hb with hb
  subst hb
  exact ⟨s, wd.1, Hp.sub_rds (oc.get (i := 0) rfl) (ob_rds rfl), Hp.sub_rds (oc.get (i := 0) rfl) (ob_rds rfl)⟩
theorem flow_some {p : Option Addr} {held : List Int} {lost : Nat} {c : Hp} {e : TypeId} (w : IsFlow p held lost c e) : ∃ k, p = some ⟨k, 0, none⟩ := by
  obtain ⟨b, s, d, hb, oc, wd⟩ := w
  exact ⟨b, hb⟩
theorem lost7_ok {p : Option Addr} {held : List Int} {lost : Nat} {c h : Hp} {e : TypeId} (hc : c.sub h) (w : IsFlow p held lost c e) {Q : Int → Hp → Prop} (hq : Q lost h) : callP Try.prog 79 [Value.pointer p] (cI .i64) h Q := by
  obtain ⟨k, rfl⟩ := flow_some w
  obtain ⟨s, h1, h2, h3⟩ := flow_at w
  refine c79 ?_
  unfold F79
  dsimp only [nilP]
  exact cond_f rfl ⟨(lost : Int), Hp.sub_rds hc h3, hq⟩
theorem held7_ok {p : Option Addr} {held : List Int} {lost : Nat} {c h : Hp} {e : TypeId} (hc : c.sub h) (w : IsFlow p held lost c e) {Q : Int → Hp → Prop} (hq : Q held.length h) : callP Try.prog 80 [Value.pointer p] (cI .i64) h Q := by
  obtain ⟨k, rfl⟩ := flow_some w
  obtain ⟨s, h1, h2, h3⟩ := flow_at w
  refine c80 ?_
  unfold F80
  dsimp only [nilP]
  rw [← h1] at hq
  exact cond_f rfl ⟨s, Hp.sub_rds hc h2, hq⟩
theorem lost7_nil {h : Hp} {Q : Int → Hp → Prop} (hq : Q 0 h) : callP Try.prog 79 [Value.pointer none] (cI .i64) h Q := by
  refine c79 ?_
  unfold F79
  exact cond_t rfl hq
theorem held7_nil {h : Hp} {Q : Int → Hp → Prop} (hq : Q 0 h) : callP Try.prog 80 [Value.pointer none] (cI .i64) h Q := by
  refine c80 ?_
  unfold F80
  exact cond_t rfl hq
theorem push7_nil {m : Sl} {h : Hp} {Q : Sl → Hp → Prop} (hq : Q ⟨none, 0, 0⟩ h) : callP Try.prog 77 [Value.pointer none, Value.slice m.a m.len m.cap] cSl h Q := by
  refine c77 ?_
  unfold F77
  exact cond_t rfl hq
theorem known7_ok {h : Hp} {l : List Hp} (o : On h l) {Q : Bool → Hp → Prop} (hq : ∀ h', On h' l → Q true h') : callP Try.prog 81 [] cB h Q := by
  refine c81 ?_
  unfold F81
  refine alloc_ob o fun k1 h1 o1 => mark_ob o1 fun h2 o2 => ?_
  have hb : Bytes [120] := by intro x hx; rw [List.mem_singleton] at hx; subst hx; omega
  refine rput6_ok (p0 := ⟨some ⟨k1, 0, none⟩, 1, 1⟩) o2 (List.mem_cons_self ..) (row_one (cd := cI .u8) (xs := [(120 : Int)]) rfl rfl) hb (by simp) (fun h => by simp at h) fun _ s3 d3 h3 o3 w3 => ?_
  refine new7_ok o3 fun p c h4 o4 w4 => ?_
  refine alloc_ob o4 fun k2 h5 o5 => ?_
  have w0 : Own (cI .u8) (ob k2 [Value.int .u8 0] 5) ⟨some ⟨k2, 0, none⟩, 1, 1⟩ [0] := own_ob (cd := cI .u8) (xs := [0]) (rest := []) rfl rfl rfl
  refine append_own (g := d3) (s := ⟨some ⟨k2, 0, none⟩, 1, 1⟩) (t := s3) o5 rfl w0 (by decide) w3.row (o5.mem (by simp)) (by unfold roomP; simp [frameV_len]) fun d6 p6 n6 m6 h6 o6 w6 => ?_
  have hbf : Bytes ([0] ++ frameV [120]) := by
    intro x hx
    rcases List.mem_append.1 hx with hx | hx
    · rw [List.mem_singleton] at hx; subst hx; omega
    · exact frameV_byte hb (by simp) x hx
  have ef : flowV ([] ++ ([0] ++ frameV [120])) = ([[120]], [], 1) := by
    have e1 := flowV_noise [0] (frameV [120]) (by simp)
    have e2 := flowV_frames [[120]] (by simp)
    rw [List.map_cons, List.map_nil, List.flatten_cons, List.flatten_nil, List.append_nil] at e2
    rw [List.nil_append, e1, e2]; rfl
  refine push7_ok (m := ⟨p6, n6, m6⟩) o6.swap w4 (g := d6) (by simp) w6.row (by intro x hx; cases hx) hbf (by simp [frameV_len]) (by omega) fun s7 ss c7 r7 h7 o7 w7 r rr => ?_
  rw [ef] at w7 rr
  have hl := r.1
  have hl2 := rr.len
  obtain ⟨s8, rfl⟩ : ∃ x, ss = [x] := by
    match ss, hl2 with
    | [x], _ => exact ⟨x, rfl⟩
  have hl3 : s7.len = 1 := hl
  refine cond_t (by rw [hl3]; rfl) ?_
  refine idx_row r (by omega) (by simp) fun a ha => load_row r (o7.mem (by simp)) rfl ha (i := 0) (m := 0) rfl rfl ?_
  refine str_row rr.1 (o7.mem (by simp)) (cond_t (by decide +kernel) ?_)
  refine lost7_ok (o7.mem (by simp)) w7 (cond_t rfl ?_)
  refine held7_ok (o7.mem (by simp)) w7 ?_
  exact hq _ o7.tail.tail.tail.tail.tail
theorem frames_len : ∀ {bss : List (List Int)}, (∀ b ∈ bss, b.length ≤ 80) → (bss.map frameV).flatten.length ≤ 86 * bss.length
  | [], _ => by simp
  | b :: bss, h => by
    have := frames_len (bss := bss) fun x hx => h x (by simp [hx])
    have h1 := h b (by simp)
    rw [List.map_cons, List.flatten_cons, List.length_append, frameV_len, List.length_cons]
    omega
/-- The frames of these bodies, one behind the other. -/
theorem frames_ok {g h : Hp} {l : List Hp} {p z0 : Sl} {ss : List Sl} {bss : List (List Int)} {pre : List Int} {d0 : Hp} (o : On h (d0 :: l)) (hg : g ∈ l) (w0 : Own (cI .u8) d0 z0 pre) (r : Row cSl g p ss) (rr : Rows2 g ss bss) (hb : ∀ b ∈ bss, Bytes b) (hpre : pre.length ≤ 1000) (hn : ss.length ≤ 100)
    {Q : Bool → Hp → Prop} {K : Sl × Int → Hp → Prop} (hQ : ∀ h', g.sub h' → Q true h') (hK : ∀ z i d h', On h' (d :: l) → Own (cI .u8) d z (pre ++ (bss.map frameV).flatten) → (∀ b ∈ bss, b.length ≤ 80) → K (z, i) h') :
    loopP (z0, (0 : Int)) h fun J1 z1 h1 =>
      condP (decide (z1.snd < ↑p.len))
        (idxP p.a p.len z1.snd fun a1 =>
          loadP cSl (a1.add (z1.snd.toNat * 1)) h1 fun s1 =>
            callP Try.prog 71 [Value.slice s1.a s1.len s1.cap] (tupC [cSl, cB]) h1 fun z2 h2 =>
              condP (!z2.snd) (Q true h2) (appendP (cI IntKind.u8) 5 1 z1.fst.a z1.fst.len z1.fst.cap z2.fst.a z2.fst.len h2 fun p1 k1 k2 h3 => J1 ({ a := p1, len := k1, cap := k2 }, IntKind.i64.wrap (z1.snd + 1)) h3))
        (K z1 h1) := by
  have hl := r.1
  have hl2 := rr.len
  refine loop_i (fun z h' => ∃ (i : Nat) (d : Hp), z.2 = (i : Int) ∧ i ≤ bss.length ∧ (∀ b ∈ bss.take i, b.length ≤ 80) ∧ On h' (d :: l) ∧ Own (cI .u8) d z.1 (pre ++ ((bss.take i).map frameV).flatten)) (fun z => bss.length - z.2.toNat)
    ⟨0, d0, rfl, Nat.zero_le _, by simp, o, by simpa using w0⟩ ?_
  rintro J ⟨z, zi⟩ h1 again ⟨i, d, hzi, hle, h80, o1, w1⟩
  dsimp only at hzi
  subst hzi
  refine cond_d (fun hlt => ?_) fun hge => ?_
  · dsimp only at hlt ⊢
    have hi : i < bss.length := by omega
    have a0 : ss[i]? = some ss[i] := List.getElem?_eq_getElem (by omega)
    obtain ⟨x, hx, rx⟩ := rr.get i _ a0
    refine idx_row r (Int.natCast_nonneg i) (by omega) fun a ha => load_row r (o1.mem (by simp [hg])) rfl ha (i := i) a0 (by simp) ?_
    refine rput6_any o1 (g := g) (by simp [hg]) rx (hb x (List.mem_of_getElem? hx)) (fun _ => cond_t rfl (hQ _ (o1.mem (by simp [hg])))) fun hx80 s2 d2 h2 o2 w2 => ?_
    have htk : bss.take (i + 1) = bss.take i ++ [x] := by rw [List.take_add_one, hx]; rfl
    have h80' : ∀ b ∈ bss.take (i + 1), b.length ≤ 80 := by
      intro b hb
      rw [htk] at hb
      rcases List.mem_append.1 hb with hb | hb
      · exact h80 b hb
      · rw [List.mem_singleton] at hb; subst hb; exact hx80
    have hfl := frames_len h80
    have hfx := frameV_len x
    rw [List.length_take] at hfl
    refine cond_f rfl ?_
    refine append_own (g := d2) (s := z) (t := s2) o2.swap rfl w1 (by decide) w2.row (o2.mem (by simp)) (by unfold roomP; rw [List.length_append]; omega) fun d3 p3 n3 m3 h3 o3 w3 => ?_
    refine again _ _ ⟨i + 1, d3, w64n (by omega), by omega, h80', o3.sublist (List.Sublist.cons_cons d3 (List.sublist_cons_self _ _)), ?_⟩ (by dsimp only; rw [w64n (by omega)]; omega)
    rw [htk, List.map_append, List.flatten_append, List.map_singleton, List.flatten_singleton, ← List.append_assoc]
    exact w3
  · dsimp only at hge
    have : i = bss.length := by omega
    subst this
    rw [List.take_length] at h80 w1
    exact hK z _ d h1 o1 w1 h80
end Go.Proofs.Ytmkgcdgpokidjaa
