/- Chapter 7: the laws of one flow. -/
import Derived.Test.YtmkgcdgpokidjaaFlowS
set_option linter.unusedVariables false
namespace Go.Proofs.Ytmkgcdgpokidjaa
open Go.Eng

theorem frames7 {g : Hp} {p0 : Sl} {ss : List Sl} {bss : List (List Int)} (r : Row cSl g p0 ss) (rr : Rows2 g ss bss) (hb : ∀ b ∈ bss, Bytes b) : F23 p0 g (Lawful g) := by
  unfold F23
  have hl := r.1
  have hl2 := rr.len
  refine cond_d (fun _ => ⟨rfl, Hp.sub_refl _⟩) fun h12 => ?_
  refine frames_ok (z0 := ⟨none, 0, 0⟩) (pre := []) (On.self g).emp (g := g) (by simp) (Own.nil _) r rr hb (by simp) (by omega) (fun h' hs => ⟨rfl, hs⟩) fun z i d h1 o1 w1 h80 => ?_
  rw [List.nil_append] at w1
  have hbf : Bytes (bss.map frameV).flatten := by
    intro x hx
    obtain ⟨y, hy, hxy⟩ := List.mem_flatten.1 hx
    obtain ⟨b, hbb, rfl⟩ := List.mem_map.1 hy
    exact frameV_byte (hb b hbb) (h80 b hbb) x hxy
  have hfl := frames_len h80
  refine new7_ok o1 fun p c h2 o2 w2 => ?_
  refine push7_ok o2 w2 (g := d) (by simp) w1.row (by intro x hx; cases hx) hbf (by rw [List.length_nil]; omega) (by omega) fun s ss2 c' r' h3 o3 w3 r3 rr3 => ?_
  rw [List.nil_append, flowV_frames bss h80] at w3 rr3
  dsimp only at w3 rr3
  refine same7_ok (o3.mem (by simp)) (o3.mem (by simp)) r3 r rr3 rr hb hb (by omega) ?_
  refine cond_t (by simp) ?_
  refine lost7_ok (o3.mem (by simp)) w3 (held7_ok (o3.mem (by simp)) w3 ?_)
  refine cond_t rfl (push7_nil (cond_t rfl (lost7_nil (held7_nil (cond_t rfl ?_)))))
  exact known7_ok o3 fun h' o' => ⟨rfl, o'.mem (by simp)⟩

theorem counts7 {g : Hp} {p0 : Sl} {bs : List Int} (r : Row (cI .u8) g p0 bs) (hb : Bytes bs) : F24 p0 g (Lawful g) := by
  unfold F24
  have hl := r.1
  refine cond_d (fun _ => ⟨rfl, Hp.sub_refl _⟩) fun h500 => ?_
  refine new7_ok (On.self g) fun p c h2 o2 w2 => ?_
  refine push7_ok o2 w2 (g := g) (by simp) r (by intro x hx; cases hx) hb (by rw [List.length_nil]; omega) (by omega) fun s ss2 c' r' h3 o3 w3 r3 rr3 => ?_
  rw [List.nil_append] at w3 rr3
  have hcnt := (flowV_count bs.length bs (Nat.le_refl _) hb).1
  refine lost7_ok (o3.mem (by simp)) w3 (held7_ok (o3.mem (by simp)) w3 ?_)
  generalize flowV bs = fl at hcnt w3 rr3
  obtain ⟨outs, held, lost⟩ := fl
  dsimp only at hcnt w3 rr3 ⊢
  have hl3 := r3.1
  have hl4 := rr3.len
  have hsg := sum_ge (l := outs)
  have sum_le : ∀ i, ((outs.take i).map fun b => b.length + 6).sum ≤ (outs.map fun b => b.length + 6).sum := by
    intro i
    conv => rhs; rw [← List.take_append_drop i outs]
    rw [List.map_append, List.sum_append]
    omega
  refine loop_i (fun z h' => ∃ i : Nat, z.2 = (i : Int) ∧ i ≤ outs.length ∧ z.1 = ((lost + held.length + ((outs.take i).map fun b => b.length + 6).sum : Nat) : Int) ∧ h' = h3) (fun z => outs.length - z.2.toNat)
    ⟨0, rfl, Nat.zero_le _, ?_, rfl⟩ ?_
  · rw [show (0 + lost : Nat) = lost by omega] 
    dsimp only
    rw [w64 (by omega) (by omega)]
    simp
  · rintro J ⟨z, zi⟩ h4 again ⟨i, hzi, hle, hz, rfl⟩
    dsimp only at hzi hz
    subst hzi
    have h1 := sum_le i
    refine cond_d (fun hlt => ?_) fun hge => ?_
    · dsimp only at hlt ⊢
      have hi : i < outs.length := by omega
      have a0 : ss2[i]? = some ss2[i] := List.getElem?_eq_getElem (by omega)
      obtain ⟨x, hx, rx⟩ := rr3.get i _ a0
      have hxl := rx.1
      have h2 := sum_le (i + 1)
      have htk : outs.take (i + 1) = outs.take i ++ [x] := by rw [List.take_add_one, hx]; rfl
      rw [htk, List.map_append, List.sum_append, List.map_singleton, List.sum_singleton] at h2
      refine idx_row r3 (Int.natCast_nonneg i) (by omega) fun a ha => load_row r3 (o3.mem (by simp)) rfl ha (i := i) a0 (by simp) ?_
      refine again _ _ ⟨i + 1, w64n (by omega), by omega, ?_, rfl⟩ (by dsimp only; rw [w64n (by omega)]; omega)
      dsimp only
      rw [htk, List.map_append, List.sum_append, List.map_singleton, List.sum_singleton, hz, w64 (n := _ + 6) (by omega) (by omega), w64 (by omega) (by omega)]
      omega
    · dsimp only at hge ⊢
      have : i = outs.length := by omega
      subst this
      rw [List.take_length] at hz
      refine cond_t (by rw [hz]; simp; omega) ?_
      exact known7_ok o3 fun h' o' => ⟨rfl, o'.mem (by simp)⟩

theorem noise7 {g : Hp} {p0 p1 : Sl} {bs : List Int} {ss : List Sl} {bss : List (List Int)} (r0 : Row (cI .u8) g p0 bs) (hb0 : Bytes bs) (r : Row cSl g p1 ss) (rr : Rows2 g ss bss) (hb : ∀ b ∈ bss, Bytes b) : F25 p0 p1 g (Lawful g) := by
  unfold F25
  have hl := r0.1
  have hl1 := r.1
  have hl2 := rr.len
  refine join_i (fun t h1 => h1 = g ∧ (t = false → bs.length ≤ 200 ∧ ss.length ≤ 6)) ?_ fun J hJ => ?_
  · rintro t h1 ⟨rfl, hf⟩
    refine cond_i (fun _ => ⟨rfl, Hp.sub_refl _⟩) fun e => ?_
    obtain ⟨h200, h6⟩ := hf e
    clear hf
    refine alloc_ob (On.self h1) fun k1 h2 o2 => ?_
    have w0 : Own (cI .u8) (ob k1 [] 5) ⟨some ⟨k1, 0, none⟩, 0, 0⟩ [] := own_ob (cd := cI .u8) (xs := []) (rest := []) rfl rfl rfl
    refine append_own (g := h1) (s := ⟨some ⟨k1, 0, none⟩, 0, 0⟩) (t := p0) o2 rfl w0 (by decide) r0 (o2.mem (by simp)) (by unfold roomP; simp; omega) fun d3 p3 k2 k3 h3 o3 w3 => ?_
    have w3 : Own (cI .u8) d3 ⟨p3, k2, k3⟩ bs := w3
    refine loop_i (fun z h' => ∃ i : Nat, z = (i : Int) ∧ i ≤ bs.length ∧ (∀ b ∈ bs.take i, b ≠ 197) ∧ h' = h3) (fun z => bs.length - z.toNat) ⟨0, rfl, Nat.zero_le _, by simp, rfl⟩ ?_
    rintro J z h4 again ⟨i, rfl, hle, hno, rfl⟩
    refine cond_d (fun hlt => ?_) fun hge => ?_
    · have hi : i < bs.length := by omega
      have a0 : bs[i]? = some bs[i] := List.getElem?_eq_getElem hi
      refine idx_row r0 (Int.natCast_nonneg i) (by omega) fun a ha => load_row r0 (o3.mem (by simp)) rfl ha (i := i) a0 (by simp) ?_
      refine cond_i (fun _ => ⟨rfl, o3.mem (by simp)⟩) fun hne => ?_
      refine again _ _ ⟨i + 1, w64n (by omega), by omega, ?_, rfl⟩ (by rw [w64n (by omega)]; omega)
      intro b hb'
      rw [List.take_add_one, a0] at hb'
      rcases List.mem_append.1 hb' with hb' | hb'
      · exact hno b hb'
      · have : b = bs[i] := by simpa using hb'
        subst this
        simpa using hne
    · have : i = bs.length := by omega
      subst this
      rw [List.take_length] at hno
      refine frames_ok (z0 := ⟨p3, k2, k3⟩) (pre := bs) o3 (g := h1) (by simp) w3 r rr hb (by omega) (by omega) (fun h' hs => ⟨rfl, hs⟩) fun z i d h5 o5 w5 h80 => ?_
      have hbf : Bytes (bs ++ (bss.map frameV).flatten) := by
        intro x hx
        rcases List.mem_append.1 hx with hx | hx
        · exact hb0 x hx
        · obtain ⟨y, hy, hxy⟩ := List.mem_flatten.1 hx
          obtain ⟨b, hbb, rfl⟩ := List.mem_map.1 hy
          exact frameV_byte (hb b hbb) (h80 b hbb) x hxy
      have hfl := frames_len h80
      refine new7_ok o5 fun p c h6 o6 w6 => ?_
      refine push7_ok o6 w6 (g := d) (by simp) w5.row (by intro x hx; cases hx) hbf (by rw [List.length_nil, List.length_append]; omega) (by omega) fun s ss2 c' r' h7 o7 w7 r7 rr7 => ?_
      rw [List.nil_append, flowV_noise bs _ hno, flowV_frames bss h80] at w7 rr7
      dsimp only at w7 rr7
      refine same7_ok (o7.mem (by simp)) (o7.mem (by simp)) r7 r rr7 rr hb hb (by omega) ?_
      refine cond_t (by simp) ?_
      refine lost7_ok (o7.mem (by simp)) w7 (cond_t (by rw [hl]; simp) (held7_ok (o7.mem (by simp)) w7 (cond_t rfl ?_)))
      exact known7_ok o7 fun h' o' => ⟨rfl, o'.mem (by simp)⟩
  · refine cond_d (fun _ => hJ _ _ ⟨rfl, fun h => by cases h⟩) fun e1 => ?_
    refine hJ _ _ ⟨rfl, fun h => ⟨by omega, ?_⟩⟩
    have h := of_decide_eq_false h
    omega

theorem holds7 {g : Hp} {p0 : Sl} {p1 : Int} {bs : List Int} (r : Row (cI .u8) g p0 bs) (hb : Bytes bs) : F26 p0 p1 g (Lawful g) := by
  unfold F26
  refine rput6_any (On.self g) (List.mem_cons_self ..) r hb (fun _ => ?_) fun h80 s d h1 o1 w1 => ?_
  · refine join_i (fun t h1 => h1 = g ∧ t = true) ?_ fun J hJ => cond_t rfl (hJ _ _ ⟨rfl, rfl⟩)
    rintro t h1 ⟨rfl, rfl⟩
    exact cond_t rfl ⟨rfl, Hp.sub_refl _⟩
  · have hfl := frameV_len bs
    have hsl := w1.1
    have hcap := w1.le_cap (by decide)
    have hfb := frameV_byte hb h80
    refine join_i (fun t h' => h' = h1 ∧ (t = false → 0 ≤ p1 ∧ p1 < s.len)) ?_ fun J hJ => ?_
    · rintro t h2 ⟨rfl, hf⟩
      refine cond_i (fun _ => ⟨rfl, o1.mem (by simp)⟩) fun e => ?_
      obtain ⟨hp0, hp1⟩ := hf e
      clear hf
      obtain ⟨k, rfl⟩ : ∃ k : Nat, p1 = (k : Int) := ⟨p1.toNat, by omega⟩
      have hk : k < s.len := by omega
      refine new7_ok o1 fun p c h3 o3 w3 => ?_
      refine ⟨by omega, by dsimp only; omega, ?_⟩
      dsimp only
      rw [Int.toNat_natCast]
      have hcut := w1.row.cut (k := 0) (m := k) (cap' := s.cap - 0) (by omega) (by omega) hcap rfl (z := 1) rfl
      rw [List.drop_zero, Nat.sub_zero] at hcut
      have hcut2 := w1.row.cut (k := k) (m := s.len) (cap' := s.cap - k) (by omega) (by omega) hcap rfl (z := 1) rfl
      rw [List.take_of_length_le (by rw [List.length_drop]; omega)] at hcut2
      have e1 : flowV ((frameV bs).take k) = ([], (frameV bs).take k, 0) := by
        by_cases h0 : k = 0
        · subst h0; rfl
        · exact flowV_may (mayV_cut h80 (by omega) (by omega))
      refine push7_ok (m := ⟨cutA s.a 0 s.cap 1, k - 0, s.cap - 0⟩) o3 w3 (g := d) (by simp) (by simpa using hcut) (by intro x hx; cases hx) (hfb.take k) (by simp; omega) (by omega) fun s4 ss4 c4 r4 h4 o4 w4 r44 rr4 => ?_
      rw [List.nil_append, e1] at w4 rr4
      dsimp only at w4 rr4
      refine held7_ok (o4.mem (by simp)) w4 ?_
      refine ⟨by omega, by omega, ?_⟩
      rw [Int.toNat_natCast]
      have e2 : flowV ((frameV bs).take k ++ (frameV bs).drop k) = ([bs], [], 0) := by
        rw [List.take_append_drop]
        have := flowV_frames [bs] (by simpa using h80)
        simpa using this
      refine push7_ok (m := ⟨cutA s.a k s.cap 1, s.len - k, s.cap - k⟩) o4 w4 (g := d) (by simp) hcut2 (hfb.take k) (hfb.drop k) (by simp; omega) (by omega) fun s6 ss6 c6 r6 h6 o6 w6 r66 rr6 => ?_
      rw [e2] at w6 rr6
      dsimp only at w6 rr6
      have hl4 := r44.1
      have hl4' := rr4.len
      have hl6 := r66.1
      have hl6' := rr6.len
      rw [hl4', List.length_nil] at hl4
      rw [hl6', List.length_singleton] at hl6
      obtain ⟨s8, rfl⟩ : ∃ x, ss6 = [x] := by
        match ss6, hl6' with
        | [x], _ => exact ⟨x, rfl⟩
      refine cond_t (by rw [hl4]; rfl) (cond_t (by simp; omega) (cond_t (by rw [hl6]; rfl) ?_))
      refine idx_row r66 (by omega) (by simp) fun a ha => load_row r66 (o6.mem (by simp)) rfl ha (i := 0) (m := 0) rfl rfl ?_
      refine str_row rr6.1 (o6.mem (by simp)) (str_row r (o6.mem (by simp)) (cond_t (strEq_self _) ?_))
      refine held7_ok (o6.mem (by simp)) w6 (cond_t rfl (lost7_ok (o6.mem (by simp)) w6 (cond_t rfl ?_)))
      exact known7_ok o6 fun h' o' => ⟨rfl, o'.mem (by simp)⟩
    · refine cond_f rfl (cond_d (fun _ => hJ _ _ ⟨rfl, fun h => by cases h⟩) fun e1 => ?_)
      refine hJ _ _ ⟨rfl, fun h => ⟨by omega, ?_⟩⟩
      have h := of_decide_eq_false h
      dsimp only at h
      omega
end Go.Proofs.Ytmkgcdgpokidjaa
