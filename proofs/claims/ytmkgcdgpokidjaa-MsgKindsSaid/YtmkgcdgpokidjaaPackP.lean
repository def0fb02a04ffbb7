/- Chapter 3: Put, of the program and of the document. -/
import Derived.Test.YtmkgcdgpokidjaaPackN
set_option linter.unusedVariables false
namespace Go.Proofs.Ytmkgcdgpokidjaa
open Go.Eng

theorem turned_ok' {n : Int} {h : Hp} {Q : Int → Hp → Prop} (hn : I64 n) (hq : Q (zigV n) h) : callP Try.prog 120 [Value.int .i64 n] (cI .u64) h Q := by
  refine c120 ?_
  unfold F120
  refine ⟨by decide, by decide, ?_⟩
  rw [turned_eq hn]; exact hq
theorem zig_ok {n : Int} {h : Hp} {Q : Int → Hp → Prop} (hn : I64 n) (hq : Q (zigV n) h) : callP Try.prog 142 [Value.int .i64 n] (cI .u64) h Q := by
  refine c142 ?_
  unfold F142
  refine cond_d (fun h0 => ?_) fun h0 => ?_
  · rw [zig_eq1 hn h0]; exact hq
  · rw [zig_eq2 hn h0]; exact hq
theorem put3_ok {p0 : Sl} {g h : Hp} {l : List Hp} {ns : List Int} (o : On h l) (hg : g ∈ l) (r : Row (cI .i64) g p0 ns) (hn : ∀ n ∈ ns, I64 n) (hl : ns.length ≤ 1000000) {Q : Sl → Hp → Prop}
    (hq : ∀ s d h', On h' (d :: l) → Own (cI .u8) d s (putV ns) → Q s h') : callP Try.prog 62 [Value.slice p0.a p0.len p0.cap] cSl h Q := by
  refine c62 ?_
  unfold F62
  refine loop_i (fun z h' => ∃ (i : Nat) (d : Hp), z.2 = i ∧ i ≤ ns.length ∧ On h' (d :: l) ∧ Own (cI .u8) d z.1 (putV (ns.take i))) (fun z => ns.length - z.2.toNat) ⟨0, Hp.emp, rfl, Nat.zero_le _, o.emp, Own.nil _⟩ ?_
  rintro J ⟨s, z⟩ h' again ⟨i, d, hi, hle, o', w⟩
  dsimp only at hi w
  subst hi
  refine cond_d (fun hlt => ?_) fun hge => ?_
  · dsimp only at hlt
    rw [r.1] at hlt
    have hlt : i < ns.length := by omega
    have hi : ns[i]? = some ns[i] := List.getElem?_eq_getElem hlt
    refine idx_row r (by omega) (by omega) fun a ha => load_row r (o'.mem (by simp [hg])) rfl ha (i := i) hi (by simp) ?_
    have hni := hn _ (List.mem_of_getElem? hi)
    have hzr := zig_range hni
    refine turned_ok' hni ?_
    have hT := putV_take hi
    have hTl := putV_len (ns.take (i + 1)) fun n hn' => hn n (List.mem_of_mem_take hn')
    rw [List.length_take] at hTl
    refine loop_i (fun z h2 => ∃ (zn : Nat) (d : Hp) (pre : List Int), z.2 = zn ∧ zn < 18446744073709551616 ∧ On h2 (d :: l) ∧ Own (cI .u8) d z.1 pre ∧ pre ++ grp zn = putV (ns.take (i + 1))) (fun z => z.2.toNat)
      ⟨(zigV ns[i]).toNat, d, _, by dsimp only; omega, by omega, o', w, hT.symm⟩ ?_
    rintro J2 ⟨s2, z2⟩ h2 again2 ⟨zn, d2, pre, hz, hzl, o2, w2, hpre⟩
    dsimp only at hz w2
    subst hz
    have hpl : pre.length ≤ 10000000 := by
      have := congrArg List.length hpre
      rw [List.length_append] at this
      omega
    refine cond_d (fun hge => ?_) fun hlt2 => ?_
    · dsimp only at hge
      refine alloc_ob o2 fun k1 h3 o3 => ?_
      have rb : Row (cI .u8) (ob k1 [Value.int .u8 ((zn % 128 + 128 : Nat) : Int)] 5) ⟨some ⟨k1, 0, none⟩, 1, 1⟩ [((zn % 128 + 128 : Nat) : Int)] := row_ob rfl rfl
      dsimp only at o3
      rw [or8] at o3
      refine append_own (s := s2) (t := ⟨some ⟨k1, 0, none⟩, 1, 1⟩) o3.swap rfl w2 (by decide) rb (o3.get (i := 0) rfl) (by unfold roomP; simp; omega) fun d4 p4 n4 m4 h4 o4 w4 => ?_
      refine ⟨by decide, ?_⟩
      have e := shr7 zn
      refine again2 _ _ ⟨zn / 128, d4, _, e, by omega, o4.sublist (by simp), w4, ?_⟩ ?_
      · rw [← hpre, grp_ge (z := zn) (by omega)]; simp
      · dsimp only; rw [e]; omega
    · dsimp only at hlt2
      refine alloc_ob o2 fun k1 h3 o3 => ?_
      have rb : Row (cI .u8) (ob k1 [Value.int .u8 (zn : Int)] 5) ⟨some ⟨k1, 0, none⟩, 1, 1⟩ [(zn : Int)] := row_ob rfl rfl
      dsimp only at o3
      rw [wrap8, show (zn : Int) % 256 = zn by omega] at o3
      refine append_own (s := s2) (t := ⟨some ⟨k1, 0, none⟩, 1, 1⟩) o3.swap rfl w2 (by decide) rb (o3.get (i := 0) rfl) (by unfold roomP; simp; omega) fun d4 p4 n4 m4 h4 o4 w4 => ?_
      refine again _ _ ⟨i + 1, d4, w64n (by omega), by omega, o4.sublist (by simp), ?_⟩ (by dsimp only; rw [w64n (by omega)]; omega)
      rw [← hpre, grp_lt (z := zn) (by omega)]
      exact w4
  · dsimp only at hge
    rw [r.1] at hge
    have : i = ns.length := by omega
    subst this
    rw [List.take_length] at w
    exact hq _ _ _ o' w
theorem one_ok3 {n : Int} {h : Hp} {l : List Hp} (o : On h l) (hn : I64 n) {Q : Sl → Hp → Prop}
    (hq : ∀ s d h', On h' (d :: l) → Own (cI .u8) d s (one3 n) → Q s h') : callP Try.prog 123 [Value.int .i64 n] cSl h Q := by
  have hzr := zig_range hn
  have hlen := one3_len hn
  refine c123 ?_
  unfold F123
  refine zig_ok hn ?_
  refine loop_i (fun z h2 => ∃ (zn : Nat) (d : Hp) (pre : List Int), z.1 = zn ∧ zn < 18446744073709551616 ∧ On h2 (d :: l) ∧ Own (cI .u8) d z.2 pre ∧ pre ++ grp zn = one3 n) (fun z => z.1.toNat)
    ⟨(zigV n).toNat, Hp.emp, [], by dsimp only; omega, by omega, o.emp, Own.nil _, rfl⟩ ?_
  rintro J2 ⟨z2, s2⟩ h2 again2 ⟨zn, d2, pre, hz, hzl, o2, w2, hpre⟩
  dsimp only at hz w2
  subst hz
  have hpl : pre.length ≤ 10 := by
    have := congrArg List.length hpre
    rw [List.length_append] at this
    omega
  refine cond_d (fun hge => ?_) fun hlt2 => ?_
  · dsimp only at hge
    refine ⟨by decide, alloc_ob o2 fun k1 h3 o3 => ?_⟩
    have rb : Row (cI .u8) (ob k1 [Value.int .u8 ((zn % 128 + 128 : Nat) : Int)] 5) ⟨some ⟨k1, 0, none⟩, 1, 1⟩ [((zn % 128 + 128 : Nat) : Int)] := row_ob rfl rfl
    dsimp only at o3
    rw [show IntKind.u8.wrap (IntKind.u64.wrap ((zn : Int).tmod 128 + 128)) = ((zn % 128 + 128 : Nat) : Int) by rw [wrap8, wrap64, Int.tmod_eq_emod_of_nonneg (by omega)]; omega] at o3
    refine append_own (s := s2) (t := ⟨some ⟨k1, 0, none⟩, 1, 1⟩) o3.swap rfl w2 (by decide) rb (o3.get (i := 0) rfl) (by unfold roomP; simp; omega) fun d4 p4 n4 m4 h4 o4 w4 => ?_
    refine ⟨by decide, ?_⟩
    have e : quoI .u64 (zn : Int) 128 = ((zn / 128 : Nat) : Int) := by
      show IntKind.u64.wrap ((zn : Int).tdiv 128) = _
      rw [Int.tdiv_eq_ediv_of_nonneg (by omega), wrap64]; omega
    refine again2 _ _ ⟨zn / 128, d4, _, e, by omega, o4.sublist (by simp), w4, ?_⟩ ?_
    · rw [← hpre, grp_ge (z := zn) (by omega)]; simp
    · dsimp only; rw [e]; omega
  · dsimp only at hlt2
    refine alloc_ob o2 fun k1 h3 o3 => ?_
    have rb : Row (cI .u8) (ob k1 [Value.int .u8 (zn : Int)] 5) ⟨some ⟨k1, 0, none⟩, 1, 1⟩ [(zn : Int)] := row_ob rfl rfl
    dsimp only at o3
    rw [wrap8, show (zn : Int) % 256 = zn by omega] at o3
    refine append_own (s := s2) (t := ⟨some ⟨k1, 0, none⟩, 1, 1⟩) o3.swap rfl w2 (by decide) rb (o3.get (i := 0) rfl) (by unfold roomP; simp; omega) fun d4 p4 n4 m4 h4 o4 w4 => ?_
    refine hq _ d4 _ (o4.sublist (by simp)) ?_
    rw [← hpre, grp_lt (z := zn) (by omega)]
    exact w4
theorem rput3_ok {p0 : Sl} {g h : Hp} {l : List Hp} {ns : List Int} (o : On h l) (hg : g ∈ l) (r : Row (cI .i64) g p0 ns) (hn : ∀ n ∈ ns, I64 n) (hl : ns.length ≤ 1000000) {Q : Sl → Hp → Prop}
    (hq : ∀ s d h', On h' (d :: l) → Own (cI .u8) d s (putV ns) → Q s h') : callP Try.prog 64 [Value.slice p0.a p0.len p0.cap] cSl h Q := by
  refine c64 ?_
  unfold F64
  refine alloc_ob o fun k1 h1 o1 => ?_
  refine loop_i (fun z h' => ∃ (i : Nat) (d : Hp), z.2 = i ∧ i ≤ ns.length ∧ On h' (d :: l) ∧ Own (cI .u8) d z.1 (putV (ns.take i))) (fun z => ns.length - z.2.toNat) ⟨0, _, rfl, Nat.zero_le _, o1, own_ob (cd := cI .u8) (xs := []) (rest := []) rfl rfl rfl⟩ ?_
  rintro J ⟨s, z⟩ h' again ⟨i, d, hi, hle, o', w⟩
  dsimp only at hi w
  subst hi
  refine cond_d (fun hlt => ?_) fun hge => ?_
  · dsimp only at hlt
    rw [r.1] at hlt
    have hlt : i < ns.length := by omega
    have hi : ns[i]? = some ns[i] := List.getElem?_eq_getElem hlt
    refine idx_row r (by omega) (by omega) fun a ha => load_row r (o'.mem (by simp [hg])) rfl ha (i := i) hi (by simp) ?_
    have hni := hn _ (List.mem_of_getElem? hi)
    have hT := putV_take hi
    have hTl := putV_len (ns.take i) fun n hn' => hn n (List.mem_of_mem_take hn')
    rw [List.length_take] at hTl
    have h1l := one3_len hni
    refine one_ok3 o' hni fun s3 d3 h3 o3 w3 => ?_
    refine append_own (s := s) (t := s3) o3.swap rfl w (by decide) w3.row (o3.get (i := 0) rfl) (by unfold roomP; omega) fun d4 p4 n4 m4 h4 o4 w4 => ?_
    refine again _ _ ⟨i + 1, d4, w64n (by omega), by omega, o4.sublist (by simp), ?_⟩ (by dsimp only; rw [w64n (by omega)]; omega)
    rw [hT]; exact w4
  · dsimp only at hge
    rw [r.1] at hge
    have : i = ns.length := by omega
    subst this
    rw [List.take_length] at w
    exact hq _ _ _ o' w
end Go.Proofs.Ytmkgcdgpokidjaa
