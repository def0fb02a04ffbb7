/- Chapter 5: the laws. -/
import Derived.Test.YtmkgcdgpokidjaaMsgS
import Derived.Test.YtmkgcdgpokidjaaFrameL
import GoSem.ClaimWide
set_option linter.unusedVariables false
namespace Go.Proofs.Ytmkgcdgpokidjaa
open Go.Eng

theorem bytesF_some {x : Frame} (h : okF x = true) : bytesF x = putV (numsV x) := by unfold bytesF; rw [h]; rfl
theorem msgs5 {g : Hp} {x : Frame} (hw : wfF x) : F30 x g (Lawful g) := by
  unfold F30
  refine bytes5_ok (x := x) (On.self g) hw fun s d h1 o1 w1 => ?_
  have hsl := w1.1
  have hbl := bytesF_len hw
  have hz := bytesF_zero (x := x)
  refine join_i (fun t h' => On h' [d, g] ∧ t = false) ?_ fun J hJ => ?_
  · rintro t h2 ⟨o2, rfl⟩
    refine cond_f rfl (cond_i (fun e => ?_) fun e => ?_)
    · have hk : okF x = false := hz.1 (by simp at e; omega)
      refine cond_d (fun h0 => known5_ok o2 fun h' o' => ⟨rfl, o'.mem (by simp)⟩) fun h0 => ?_
      refine ris_ok (m := fmsg x) o2 fun h3 o3 => ?_
      have : isV (fmsg x) = false := by
        unfold okF at hk
        rw [decide_eq_true (p := 0 ≤ x.Seq) (by omega), Bool.and_true] at hk
        exact hk
      rw [this]
      exact cond_t rfl (known5_ok o3 fun h' o' => ⟨rfl, o'.mem (by simp)⟩)
    · have hk : okF x = true := by
        cases hk : okF x with
        | true => rfl
        | false => have := hz.2 hk; simp at e; omega
      refine read5_ok o2 (g := d) (by simp) w1.row (bytesF_byte x) (w1.le_cap (by decide)) (by omega) fun h3 o3 => ?_
      rw [readR_some (readV_bytes hw hk)]
      refine cond_t rfl (cond_t (by simp) ?_)
      exact known5_ok o3 fun h' o' => ⟨rfl, o'.mem (by simp)⟩
  · refine str_row w1.row (o1.get (i := 0) rfl) ?_
    refine rbytes5_ok (x := x) o1 hw fun s2 d2 h2 o2 w2 => ?_
    refine ⟨⟨str_row w1.row (o2.get (i := 1) rfl) rfl, trivial⟩, ?_⟩
    refine str_row w2.row (o2.get (i := 0) rfl) ?_
    refine cond_f (by rw [strEq_self]; rfl) ?_
    refine is_ok (m := fmsg x) o2.tail fun h3 o3 => ris_ok (m := fmsg x) o3 fun h4 o4 => hJ _ _ ⟨o4, ?_⟩
    cases isV (fmsg x) <;> rfl
theorem reads5 {g : Hp} {p0 : Sl} {bs : List Int} (r : Row (cI .u8) g p0 bs) (hb : Bytes bs) (hcap : bs.length ≤ p0.cap) : F31 p0 g (Lawful g) := by
  unfold F31
  have hl := r.1
  refine cond_d (fun _ => ⟨rfl, Hp.sub_refl _⟩) fun h200 => ?_
  refine read5_ok (On.self g) (List.mem_cons_self ..) r hb hcap (by omega) fun h1 o1 => ?_
  refine rread5_ok o1 (List.mem_cons_self ..) r hb hcap (by omega) fun h2 o2 => ?_
  refine cond_t (by simp) (cond_t (by simp) ?_)
  exact known5_ok o2 fun h' o' => ⟨rfl, o'.mem (by simp)⟩
theorem frame_at (s k : Int) (l : List Int) {i : Nat} (hi : i < 6) {x : Int} (hx : l[i]? = some x) : (cFrame.enc (mkF s (mkM k l))).cells.toList[2 + i * 1]? = some (Value.int .i64 x) := by
  have hg : l.getD i 0 = x := by rw [List.getD_eq_getElem?_getD, hx]; rfl
  subst hg
  match i, hi with
  | 0, _ => rfl
  | 1, _ => rfl
  | 2, _ => rfl
  | 3, _ => rfl
  | 4, _ => rfl
  | 5, _ => rfl
theorem numbers5 {g : Hp} {p0 p1 : Int} {p2 : Sl} {ns : List Int} (r : Row (cI .i64) g p2 ns) (hn : ∀ n ∈ ns, I64 n) (h0 : I64 p0) : F32 p0 p1 p2 g (Lawful g) := by
  unfold F32
  have hl := r.1
  refine join_i (fun t h' => h' = g ∧ (t = false → ns.length ≤ 12 ∧ 0 ≤ p0 ∧ -100 ≤ p1 ∧ p1 ≤ 100)) ?_ fun J hJ => ?_
  · rintro t h1 ⟨rfl, hf⟩
    refine cond_i (fun _ => ⟨rfl, Hp.sub_refl _⟩) fun e => ?_
    obtain ⟨h12, hp0, hp1, hp1'⟩ := hf e
    clear hf
    have hall : ∀ x ∈ p0 :: p1 :: ns, I64 x := by
      intro x hx
      rcases List.mem_cons.1 hx with rfl | hx
      · exact h0
      · rcases List.mem_cons.1 hx with rfl | hx
        · unfold I64; omega
        · exact hn x hx
    have hpl := putV_len _ hall
    simp only [List.length_cons] at hpl
    refine alloc_ob (On.self h1) fun k1 h2 o2 => ?_
    have w0 : Own (cI .i64) (ob k1 [Value.int .i64 p0, Value.int .i64 p1] 2) ⟨some ⟨k1, 0, none⟩, 2, 2⟩ [p0, p1] := own_ob (cd := cI .i64) (xs := [p0, p1]) (rest := []) rfl rfl rfl
    refine append_own (g := h1) (s := ⟨some ⟨k1, 0, none⟩, 2, 2⟩) (t := p2) o2 rfl w0 (by decide) r (o2.mem (by simp)) (by unfold roomP; simp; omega) fun d3 p3 n3 m3 h3 o3 w3 => ?_
    refine rput3_ok (p0 := ⟨p3, n3, m3⟩) o3 (List.mem_cons_self ..) w3.row hall (by simp; omega) fun s4 d4 h4 o4 w4 => ?_
    refine read5_ok o4 (List.mem_cons_self ..) w4.row (putV_byte _) (w4.le_cap (by decide)) (by show (putV (p0 :: p1 :: ns)).length ≤ 1000000; omega) fun h5 o5 => ?_
    have hread : readV (putV ([p0, p1] ++ ns)) = if 0 ≤ p0 ∧ (ns.length : Int) = manyV p1 then some (mkF p0 (mkM p1 ns)) else none := readV_put hall
    refine rmany_ok o5 fun h6 o6 => ?_
    refine cond_i (fun e => ?_) fun e => ?_
    · rw [if_neg (by simp [hl] at e; omega)] at hread
      rw [readR_none hread]
      refine cond_t rfl (cond_t rfl ?_)
      exact known5_ok o6 fun h' o' => ⟨rfl, o'.mem (by simp)⟩
    · have hlm : (ns.length : Int) = manyV p1 := by simp [hl] at e; exact e
      have hr := manyV_range p1
      rw [if_pos ⟨hp0, hlm⟩] at hread
      rw [readR_some hread]
      refine join_i (fun t h' => h' = h6 ∧ t = false) ?_ fun J2 hJ2 => ?_
      · rintro t h8 ⟨rfl, rfl⟩
        refine cond_f rfl ?_
        refine loop_i (fun z h' => ∃ i : Nat, z = i ∧ i ≤ ns.length ∧ h' = h8) (fun z => ns.length - z.toNat) ⟨0, rfl, Nat.zero_le _, rfl⟩ ?_
        rintro J3 z h9 again ⟨i, rfl, hle, rfl⟩
        refine cond_d (fun hlt => ?_) fun _ => known5_ok o6 fun h' o' => ⟨rfl, o'.mem (by simp)⟩
        have hi : i < ns.length := by omega
        have a0 : ns[i]? = some ns[i] := List.getElem?_eq_getElem hi
        refine ⟨Int.natCast_nonneg i, by omega, loadL_i (n := ns[i]) (by rw [Int.toNat_natCast]; exact frame_at p0 p1 ns (by omega) a0) ?_⟩
        refine idx_row r (Int.natCast_nonneg i) (by omega) fun a ha => load_row r (o6.mem (by simp)) rfl ha (i := i) a0 (by simp) ?_
        exact cond_f (by simp) (again _ _ ⟨i + 1, w64n (by omega), by omega, rfl⟩ (by rw [w64n (by omega)]; omega))
      · exact cond_f rfl (cond_f (by simp [mkF]) (hJ2 _ _ ⟨rfl, by simp [mkF, mkM]⟩))
  · refine cond_d (fun _ => hJ _ _ ⟨rfl, fun h => by cases h⟩) fun e1 => cond_d (fun _ => hJ _ _ ⟨rfl, fun h => by cases h⟩) fun e2 => cond_d (fun _ => hJ _ _ ⟨rfl, fun h => by cases h⟩) fun e3 => ?_
    refine hJ _ _ ⟨rfl, fun h => ⟨by omega, by omega, by omega, ?_⟩⟩
    have h := of_decide_eq_false h
    omega
theorem cut5 {g : Hp} {x : Frame} {p1 p2 : Int} (hw : wfF x) (h2 : 0 ≤ p2 ∧ p2 < 256) : F33 x p1 p2 g (Lawful g) := by
  unfold F33
  refine rbytes5_ok (x := x) (On.self g) hw fun s d h1 o1 w1 => ?_
  have hsl := w1.1
  have hbl := bytesF_len hw
  have hz := bytesF_zero (x := x)
  have hby := bytesF_byte x
  have hcap := w1.le_cap (by decide)
  refine join_i (fun t h' => h' = h1 ∧ (t = false → s.len ≠ 0 ∧ 0 ≤ p1 ∧ p1 < s.len)) ?_ fun J hJ => ?_
  · rintro t h3 ⟨rfl, hf⟩
    refine cond_i (fun _ => ⟨rfl, o1.mem (by simp)⟩) fun e => ?_
    obtain ⟨hne, hp0, hp1⟩ := hf e
    clear hf
    obtain ⟨k, rfl⟩ : ∃ k : Nat, p1 = k := ⟨p1.toNat, by omega⟩
    have hk : okF x = true := by
      cases hk : okF x with
      | true => rfl
      | false => have := hz.2 hk; omega
    have hread := readV_bytes hw hk
    refine ⟨by omega, by omega, ?_⟩
    rw [Int.toNat_natCast]
    have hcut := w1.row.cut (k := 0) (m := k) (cap' := s.cap - 0) (by omega) (by omega) hcap rfl (z := 1) rfl
    rw [List.drop_zero, Nat.sub_zero] at hcut
    have hr1 : readV ((bytesF x).take k) = none := by
      cases hr : readV ((bytesF x).take k) with
      | none => rfl
      | some y =>
        have := readV_ext (ys := (bytesF x).drop k) (hby.take k) hr (by rw [List.take_append_drop]; exact hread)
        have := congrArg List.length this
        rw [List.length_drop, List.length_nil] at this
        omega
    refine read5_ok (p0 := ⟨cutA s.a 0 s.cap 1, k - 0, s.cap - 0⟩) o1 (List.mem_cons_self ..) (by simpa using hcut) (hby.take k) (by simp; omega) (by simp; omega) fun h4 o4 => ?_
    rw [readR_none hr1]
    refine alloc_ob o4 fun k5 h5 o5 => ?_
    have w0 : Own (cI .u8) (ob k5 [] 5) ⟨some ⟨k5, 0, none⟩, 0, 0⟩ [] := own_ob (cd := cI .u8) (xs := []) (rest := []) rfl rfl rfl
    refine append_own (g := d) (s := ⟨some ⟨k5, 0, none⟩, 0, 0⟩) (t := s) o5 rfl w0 (by decide) w1.row (o5.mem (by simp)) (by unfold roomP; simp; omega) fun d6 p6 n6 m6 h6 o6 w6 => ?_
    have w6 : Own (cI .u8) d6 ⟨p6, n6, m6⟩ (bytesF x) := w6
    refine alloc_ob o6 fun k7 h7 o7 => ?_
    have r7 : Row (cI .u8) (ob k7 [Value.int .u8 p2] 5) ⟨some ⟨k7, 0, none⟩, 1, 1⟩ [p2] := row_ob rfl rfl
    refine append_own (g := ob k7 [Value.int .u8 p2] 5) (s := ⟨p6, n6, m6⟩) (t := ⟨some ⟨k7, 0, none⟩, 1, 1⟩) o7.swap rfl w6 (by decide) r7 (o7.mem (by simp)) (by unfold roomP; simp; omega) fun d8 p8 n8 m8 h8 o8 w8 => ?_
    have hr2 : readV (bytesF x ++ [p2]) = none := by
      cases hr : readV (bytesF x ++ [p2]) with
      | none => rfl
      | some y => have := readV_ext hby hread hr; cases this
    refine read5_ok (p0 := ⟨p8, n8, m8⟩) o8 (List.mem_cons_self ..) w8.row ?_ (w8.le_cap (by decide)) (by simp; omega) fun h9 o9 => ?_
    · intro b hb
      rcases List.mem_append.1 hb with hb | hb
      · exact hby b hb
      · rw [List.mem_singleton] at hb; subst hb; exact h2
    rw [readR_none hr2]
    refine cond_t rfl (cond_t rfl ?_)
    exact known5_ok o9 fun h' o' => ⟨rfl, o'.mem (by simp)⟩
  · refine cond_i (fun _ => hJ _ _ ⟨rfl, fun h => by cases h⟩) fun e1 => cond_d (fun _ => hJ _ _ ⟨rfl, fun h => by cases h⟩) fun e2 => ?_
    refine hJ _ _ ⟨rfl, fun h => ⟨by simpa using e1, by omega, ?_⟩⟩
    have h := of_decide_eq_false h
    omega
theorem mk_nil (k : Int) {i : Nat} (hi : i < 6) : mkM k (List.replicate i 0) = mkM k [] := by
  match i, hi with
  | 0, _ => rfl
  | 1, _ => rfl
  | 2, _ => rfl
  | 3, _ => rfl
  | 4, _ => rfl
  | 5, _ => rfl
theorem rest5 {g : Hp} {p0 p1 p2 : Int} (h2 : I64 p2) : F34 p0 p1 p2 g (Lawful g) := by
  unfold F34
  refine join_i (fun t h' => h' = g ∧ (t = false → 1 ≤ p0 ∧ p0 ≤ 28 ∧ 0 ≤ p1 ∧ p1 < 6 ∧ p2 ≠ 0)) ?_ fun J hJ => ?_
  · rintro t h1 ⟨rfl, hf⟩
    refine cond_i (fun _ => ⟨rfl, Hp.sub_refl _⟩) fun e => ?_
    obtain ⟨h01, h028, h10, h16, hne⟩ := hf e
    clear hf
    obtain ⟨i, rfl⟩ : ∃ i : Nat, p1 = i := ⟨p1.toNat, by omega⟩
    have hi : i < 6 := by omega
    have hr := manyV_range p0
    have hnn := manyV_neg p0
    refine ⟨h10, h16, ?_⟩
    rw [Int.toNat_natCast]
    have hset := set_msg p0 (List.replicate i 0) hi (by simp) p2
    rw [mk_nil p0 hi] at hset
    refine ⟨by simp; omega, _, hset, ?_⟩
    generalize hm : mkM p0 (List.replicate i 0 ++ [p2]) = m
    have hk : m.Kind = p0 := by rw [← hm]; rfl
    have hfs : fs m = List.replicate i 0 ++ [p2] ++ List.replicate (6 - (i + 1)) 0 := by
      rw [← hm, mk_take, List.take_of_length_le (by simp; omega)]; simp
    have hat : (fs m)[i]? = some p2 := by
      rw [hfs, List.getElem?_append_left (by simp), List.getElem?_append_right (by simp)]; simp
    have hoth : ∀ (j : Nat) (x : Int), j ≠ i → (fs m)[j]? = some x → x = 0 := by
      intro j x hj hx
      rw [hfs] at hx
      rcases Nat.lt_or_gt_of_ne hj with hj | hj
      · rw [List.getElem?_append_left (by simp; omega), List.getElem?_append_left (by simpa using hj), List.getElem?_replicate, if_pos hj] at hx
        cases hx; rfl
      · rw [List.getElem?_append_right (by simp; omega)] at hx
        exact List.eq_of_mem_replicate (List.mem_of_getElem? hx)
    have his : isV m = decide ((i : Int) < manyV p0) := by
      by_cases hlt : (i : Int) < manyV p0
      · rw [decide_eq_true hlt]
        exact isV_good (by rw [hk]; omega) fun j x h1 _ h3 => hoth j x (by rw [hk] at h1; omega) h3
      · rw [decide_eq_false hlt]
        exact isV_bad (by rw [hk]; omega) hat hne
    have hwm : wfF (mkF 0 m) := by
      intro n hn
      have hn : n ∈ (0 : Int) :: m.Kind :: fs m := hn
      rw [hk] at hn
      rcases List.mem_cons.1 hn with rfl | hn
      · unfold I64; omega
      · rcases List.mem_cons.1 hn with rfl | hn
        · unfold I64; omega
        · obtain ⟨j, hj⟩ := List.getElem?_of_mem hn
          by_cases hji : j = i
          · subst hji; rw [hat] at hj; cases hj; exact h2
          · rw [hoth j n hji hj]; unfold I64; omega
    refine rmany_ok (On.self h1) fun h3 o3 => is_ok (m := m) o3 fun h4 o4 => ?_
    rw [his]
    refine cond_t (by simp) ?_
    refine bytes5_ok (x := mkF 0 m) o4 hwm fun s5 d5 h5 o5 w5 => ?_
    have hok : okF (mkF 0 m) = decide ((i : Int) < manyV p0) := by
      show (isV m && decide ((0 : Int) ≤ 0)) = _
      rw [his, decide_eq_true (Int.le_refl 0), Bool.and_true]
    have hz := bytesF_zero (x := mkF 0 m)
    have hsl := w5.1
    refine cond_t ?_ ?_
    · rw [beq_iff_eq, decide_eq_decide]
      rw [hok] at hz
      constructor
      · intro h
        by_cases hlt : (i : Int) < manyV p0
        · exact hlt
        · have := hz.2 (decide_eq_false hlt); omega
      · intro h
        rcases Nat.eq_zero_or_pos (bytesF (mkF 0 m)).length with h0 | h0
        · have := hz.1 h0; rw [decide_eq_true h] at this; cases this
        · omega
    have hwn : wfF ⟨-1, p0, 0, 0, 0, 0, 0, 0⟩ := by
      intro n hn
      simp only [fs, fmsg, List.mem_cons, List.not_mem_nil, or_false] at hn
      unfold I64
      rcases hn with rfl | rfl | rfl | rfl | rfl | rfl | rfl | rfl <;> omega
    refine bytes5_ok (x := ⟨-1, p0, 0, 0, 0, 0, 0, 0⟩) o5 hwn fun s6 d6 h6 o6 w6 => ?_
    have hsl6 := w6.1
    have hz6 := (bytesF_zero (x := ⟨-1, p0, 0, 0, 0, 0, 0, 0⟩)).2 (by unfold okF; exact Bool.and_false _)
    refine cond_t (by simp; omega) ?_
    exact known5_ok o6 fun h' o' => ⟨rfl, o'.mem (by simp)⟩
  · refine cond_d (fun _ => hJ _ _ ⟨rfl, fun h => by cases h⟩) fun e1 => cond_d (fun _ => hJ _ _ ⟨rfl, fun h => by cases h⟩) fun e2 => cond_d (fun _ => hJ _ _ ⟨rfl, fun h => by cases h⟩) fun e3 => cond_d (fun _ => hJ _ _ ⟨rfl, fun h => by cases h⟩) fun e4 => ?_
    exact hJ _ _ ⟨rfl, fun h => ⟨by omega, by omega, by omega, by omega, by simpa using h⟩⟩
theorem kinds5 {g : Hp} {p0 : Int} : F35 p0 g (Lawful g) := by
  unfold F35
  refine many_ok (rmany_ok (On.self g) fun h1 o1 => cond_t (by simp) ?_)
  have ses : ∀ {h : Hp} {Q : Bool → Hp → Prop}, Q (decide (1 ≤ p0 ∧ p0 ≤ 5)) h → callP Try.prog 98 [Value.int .i64 p0] cB h Q := by
    intro h Q hq
    refine c98 ?_
    unfold F98
    refine cond_d (fun e => ?_) fun e => ?_
    · rw [decide_eq_decide.2 (show (1 ≤ p0 ∧ p0 ≤ 5) ↔ p0 ≤ 5 by omega)] at hq; exact hq
    · rw [decide_eq_false (by omega)] at hq; exact hq
  have rses : ∀ {h : Hp} {Q : Bool → Hp → Prop}, Q (decide (1 ≤ p0 ∧ p0 ≤ 5)) h → callP Try.prog 99 [Value.int .i64 p0] cB h Q := by
    intro h Q hq
    refine c99 ?_
    unfold F99
    refine cond_d (fun e => ?_) fun e => ?_
    · rw [decide_eq_decide.2 (show (1 ≤ p0 ∧ p0 ≤ 5) ↔ p0 ≤ 5 by omega)] at hq; exact hq
    · rw [decide_eq_false (by omega)] at hq; exact hq
  have ask : ∀ {h : Hp} {Q : Bool → Hp → Prop}, Q (decide (6 ≤ p0 ∧ p0 ≤ 17)) h → callP Try.prog 100 [Value.int .i64 p0] cB h Q := by
    intro h Q hq
    refine c100 ?_
    unfold F100
    refine cond_d (fun e => ?_) fun e => ?_
    · rw [decide_eq_decide.2 (show (6 ≤ p0 ∧ p0 ≤ 17) ↔ p0 ≤ 17 by omega)] at hq; exact hq
    · rw [decide_eq_false (by omega)] at hq; exact hq
  have rask : ∀ {h : Hp} {Q : Bool → Hp → Prop}, Q (decide (6 ≤ p0 ∧ p0 ≤ 17)) h → callP Try.prog 101 [Value.int .i64 p0] cB h Q := by
    intro h Q hq
    refine c101 ?_
    unfold F101
    refine cond_d (fun e => ?_) fun e => ?_
    · rw [decide_eq_decide.2 (show (6 ≤ p0 ∧ p0 ≤ 17) ↔ p0 ≤ 17 by omega)] at hq; exact hq
    · rw [decide_eq_false (by omega)] at hq; exact hq
  refine ses (rses (cond_t (by simp) (ask (rask (cond_t (by simp) ?_)))))
  exact known5_ok o1 fun h' o' => ⟨rfl, o'.mem (by simp)⟩

def structAt (P : Program) (t : TypeId) : Bool := match P.underlying t with | some (.struct _) => true | _ => false
theorem okWide_agg {P : Program} {W : World} {r : Reach} {base : Nat} {t : TypeId} {v : Value} (ht : structAt P t = true) (h : Value.okWide P W r base t v) : ∃ cs, v = .agg cs := by
  unfold structAt at ht
  unfold Value.okWide at h
  split at ht
  · rename_i fs hf
    rw [hf] at h
    obtain ⟨cs, h, _⟩ := h
    exact ⟨cs, h⟩
  · cases ht
set_option maxRecDepth 20000 in
theorem open_agg_cFrame {W : World} {base : Nat} {v : Value} (o : Opn Try.prog W 48 v.cells.toList) (hv : Value.okWide Try.prog W .any base 48 v) : ∃ x : Frame, v = cFrame.enc x := by
  obtain ⟨cs, rfl⟩ := okWide_agg (P := Try.prog) (W := W) (r := .any) (base := base) (t := 48) (v := v) (by kernel_rfl) hv
  obtain ⟨y, hy, ok⟩ := open_flat (d := 4) (ls := [(.i .i64, 2), (.i .i64, 3), (.i .i64, 2), (.i .i64, 2), (.i .i64, 2), (.i .i64, 2), (.i .i64, 2), (.i .i64, 2)]) o (by kernel_rfl)
  obtain ⟨y0, y1, y2, y3, y4, y5, y6, y7⟩ := y
  have e : cs.toList = [Value.int .i64 y0, Value.int .i64 y1, Value.int .i64 y2, Value.int .i64 y3, Value.int .i64 y4, Value.int .i64 y5, Value.int .i64 y6, Value.int .i64 y7] := hy
  refine ⟨⟨y0, y1, y2, y3, y4, y5, y6, y7⟩, ?_⟩
  obtain ⟨l⟩ := cs
  have e : l = _ := e
  subst e
  rfl
theorem open_frame {W : World} {x : Frame} (h : Opn Try.prog W 48 (cFrame.enc x).cells.toList) : wfF x := by
  obtain ⟨y, hy, ok⟩ := open_flat (d := 4) (ls := [(.i .i64, 2), (.i .i64, 3), (.i .i64, 2), (.i .i64, 2), (.i .i64, 2), (.i .i64, 2), (.i .i64, 2), (.i .i64, 2)]) h (by kernel_rfl)
  obtain ⟨y0, y1, y2, y3, y4, y5, y6, y7⟩ := y
  have e : (cFrame.enc x).cells.toList = [Value.int .i64 y0, Value.int .i64 y1, Value.int .i64 y2, Value.int .i64 y3, Value.int .i64 y4, Value.int .i64 y5, Value.int .i64 y6, Value.int .i64 y7] := hy
  obtain ⟨k0, k1, k2, k3, k4, k5, k6, k7⟩ := ok
  have e' : [Value.int .i64 x.Seq, Value.int .i64 x.Msg_Kind, Value.int .i64 x.Msg_F_0, Value.int .i64 x.Msg_F_1, Value.int .i64 x.Msg_F_2, Value.int .i64 x.Msg_F_3, Value.int .i64 x.Msg_F_4, Value.int .i64 x.Msg_F_5] = [Value.int .i64 y0, Value.int .i64 y1, Value.int .i64 y2, Value.int .i64 y3, Value.int .i64 y4, Value.int .i64 y5, Value.int .i64 y6, Value.int .i64 y7] := e
  simp only [List.cons.injEq, Value.int.injEq, true_and, and_true] at e'
  obtain ⟨a0, a1, a2, a3, a4, a5, a6, a7⟩ := e'
  intro n hn
  simp only [fs, fmsg, List.mem_cons, List.not_mem_nil, or_false] at hn
  rcases hn with rfl | rfl | rfl | rfl | rfl | rfl | rfl | rfl
  · rw [a0]; exact wfI64 k0
  · rw [a1]; exact wfI64 k1
  · rw [a2]; exact wfI64 k2
  · rw [a3]; exact wfI64 k3
  · rw [a4]; exact wfI64 k4
  · rw [a5]; exact wfI64 k5
  · rw [a6]; exact wfI64 k6
  · rw [a7]; exact wfI64 k7
theorem msgBytes_law (W : World) (p0 : Frame) (o0 : Opn Try.prog W 48 (cFrame.enc p0).cells.toList) : F30 p0 (hpOf W) (Lawful (hpOf W)) := msgs5 (open_frame o0)
theorem msgReads_law (W : World) (p0 : Sl) (o0 : Opn Try.prog W 25 [.slice p0.a p0.len p0.cap]) : F31 p0 (hpOf W) (Lawful (hpOf W)) := by
  obtain ⟨bs, h0, h1, _, h2⟩ := bytes_of o0
  exact reads5 h0 h1 h2
theorem msgNumbers_law (W : World) (p0 p1 : Int) (p2 : Sl) (o0 : Opn Try.prog W 2 [.int .i64 p0]) (_o1 : Opn Try.prog W 3 [.int .i64 p1]) (o2 : Opn Try.prog W 37 [.slice p2.a p2.len p2.cap]) : F32 p0 p1 p2 (hpOf W) (Lawful (hpOf W)) := by
  obtain ⟨ns, h0, h1⟩ := i64s_of o2
  exact numbers5 h0 h1 (i64_of o0)
theorem msgCut_law (W : World) (p0 : Frame) (p1 p2 : Int) (o0 : Opn Try.prog W 48 (cFrame.enc p0).cells.toList) (_o1 : Opn Try.prog W 3 [.int .i64 p1]) (o2 : Opn Try.prog W 5 [.int .u8 p2]) : F33 p0 p1 p2 (hpOf W) (Lawful (hpOf W)) := cut5 (open_frame o0) (u8_of o2)
theorem msgRest_law (W : World) (p0 p1 p2 : Int) (_o0 : Opn Try.prog W 3 [.int .i64 p0]) (_o1 : Opn Try.prog W 3 [.int .i64 p1]) (o2 : Opn Try.prog W 2 [.int .i64 p2]) : F34 p0 p1 p2 (hpOf W) (Lawful (hpOf W)) := rest5 (i64_of o2)
theorem msgKinds_law (W : World) (p0 : Int) (_o0 : Opn Try.prog W 3 [.int .i64 p0]) : F35 p0 (hpOf W) (Lawful (hpOf W)) := kinds5
end Go.Proofs.Ytmkgcdgpokidjaa
