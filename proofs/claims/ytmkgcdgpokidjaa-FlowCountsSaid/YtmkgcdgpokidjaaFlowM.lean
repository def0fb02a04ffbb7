/- Chapter 7: the laws of two flows. -/
import Derived.Test.YtmkgcdgpokidjaaFlowL
set_option linter.unusedVariables false
namespace Go.Proofs.Ytmkgcdgpokidjaa
open Go.Eng

theorem flow_eta (l : List Int) : flowV l = ((flowV l).1, (flowV l).2.1, (flowV l).2.2) := rfl
theorem parts7 {g : Hp} {p0 p1 : Sl} {bs ns : List Int} (r0 : Row (cI .u8) g p0 bs) (hb : Bytes bs) (hcap0 : bs.length ≤ p0.cap) (r1 : Row (cI .i64) g p1 ns) : F22 p0 p1 g (Lawful g) := by
  unfold F22
  have hl := r0.1
  have hl1 := r1.1
  refine join_i (fun t h1 => h1 = g ∧ (t = false → bs.length ≤ 500 ∧ ns.length ≤ 60)) ?_ fun J hJ => ?_
  · rintro t h1 ⟨rfl, hf⟩
    refine cond_i (fun _ => ⟨rfl, Hp.sub_refl _⟩) fun e => ?_
    obtain ⟨h500, h60⟩ := hf e
    clear hf
    refine new7_ok (On.self h1) fun pa ca h2 o2 wa => ?_
    refine new7_ok o2 fun pb cb h3 o3 wb => ?_
    refine push7_ok o3.swap wa (g := h1) (by simp) r0 (by intro x hx; cases hx) hb (by rw [List.length_nil]; omega) (by omega) fun s4 ss4 ca r4 h4 o4 wa r44 rr4 => ?_
    rw [List.nil_append] at wa rr4
    have oi : On h4 (cb :: Hp.emp :: Hp.emp :: ca :: r4 :: h1 :: []) := o4.emp.emp.pick [4, 0, 1, 2, 3, 5] 6 (by decide) (by decide)
    refine loop_i (fun z h' => ∃ (i : Nat) (don rest : List Int) (sls : List Sl) (cb dO rx : Hp), z.2.2 = (i : Int) ∧ i ≤ ns.length ∧ bs = don ++ rest ∧ On h' (cb :: dO :: rx :: ca :: r4 :: h1 :: []) ∧ IsFlow pb (flowV don).2.1 (flowV don).2.2 cb 158 ∧
      Own cSl dO z.1 sls ∧ Rows2 rx sls (flowV don).1 ∧ Row (cI .u8) h1 z.2.1 rest ∧ rest.length ≤ z.2.1.cap) (fun z => ns.length - z.2.2.toNat)
      ⟨0, [], bs, [], cb, Hp.emp, Hp.emp, rfl, Nat.zero_le _, rfl, oi, wb, Own.nil _, trivial, r0, hcap0⟩ ?_
    rintro J1 ⟨zo, zr, zi⟩ h5 again ⟨i, don, rest, sls, cb, dO, rx, hzi, hle, rfl, o5, wb, wo, rr, rw5, hcap⟩
    dsimp only at hzi wo rw5 hcap
    subst hzi
    have hbd : Bytes don := fun x hx => hb x (by simp [hx])
    have hbr : Bytes rest := fun x hx => hb x (by simp [hx])
    have hfd := flow_len hbd
    have hrl := rw5.1
    have hsl := rr.len
    rw [List.length_append] at h500
    refine cond_d (fun hlt => ?_) fun hge => ?_
    · dsimp only at hlt ⊢
      have hi : i < ns.length := by omega
      have a0 : ns[i]? = some ns[i] := List.getElem?_eq_getElem hi
      refine idx_row r1 (Int.natCast_nonneg i) (by omega) fun a ha => load_row r1 (o5.mem (by simp)) rfl ha (i := i) a0 (by simp) ?_
      generalize ns[i] = n1
      obtain ⟨j, hj, hjl⟩ : ∃ j : Nat, (andI .i64 n1 65535).tmod (IntKind.i64.wrap ((zr.len : Int) + 1)) = (j : Int) ∧ j ≤ zr.len := by
        rw [w64n (by omega)]
        have h0 := (and64_range n1).1
        have h1 := Int.tmod_nonneg ((zr.len + 1 : Nat) : Int) h0
        have h2 := Int.tmod_lt_of_pos (andI .i64 n1 65535) (b := ((zr.len + 1 : Nat) : Int)) (by omega)
        exact ⟨((andI .i64 n1 65535).tmod ((zr.len + 1 : Nat) : Int)).toNat, by omega, by omega⟩
      refine ⟨by rw [w64n (by omega)]; omega, ?_⟩
      rw [hj]
      refine ⟨by omega, by omega, ?_⟩
      rw [Int.toNat_natCast]
      have hcut := rw5.cut (k := 0) (m := j) (cap' := zr.cap - 0) (by omega) (by omega) hcap rfl (z := 1) rfl
      rw [List.drop_zero, Nat.sub_zero] at hcut
      have hcut2 := rw5.cut (k := j) (m := zr.len) (cap' := zr.cap - j) (by omega) (by omega) hcap rfl (z := 1) rfl
      rw [List.take_of_length_le (by rw [List.length_drop]; omega)] at hcut2
      have o5' : On h5 (cb :: dO :: rx :: ca :: r4 :: h1 :: []) := o5
      refine push7_ok (m := ⟨cutA zr.a 0 zr.cap 1, j - 0, zr.cap - 0⟩) o5' wb (g := h1) (by simp) (by simpa using hcut) (flow_bytes hbd).2 (hbr.take j) (by rw [List.length_take]; omega) (by omega) fun s6 ss6 cb6 r6 h6 o6 w6 r66 rr6 => ?_
      have happ := flowV_app don.length don (rest.take j) (Nat.le_refl _) hbd
      have hl6 := r66.1
      have hl6' := rr6.len
      have hf6 := flow_len (l := (flowV don).2.1 ++ rest.take j) (by
        intro x hx
        rcases List.mem_append.1 hx with hx | hx
        · exact (flow_bytes hbd).2 x hx
        · exact hbr x (List.mem_of_mem_take hx))
      rw [List.length_append, List.length_take] at hf6
      have o6' : On h6 (dO :: cb6 :: r6 :: rx :: ca :: r4 :: h1 :: []) := o6.pick [2, 0, 1, 3, 4, 5, 6] 7 (by decide) (by decide)
      refine append_own (g := r6) (s := zo) (t := s6) o6' rfl wo (by decide) r66 (o6'.mem (by simp)) (by unfold roomP; omega) fun d7 p7 n7 m7 h7 o7 w7 => ?_
      refine ⟨by omega, by omega, ?_⟩
      rw [Int.toNat_natCast]
      obtain ⟨o8, o9⟩ := On.joined (cs := [r6, rx]) (l := cb6 :: d7 :: ca :: r4 :: h1 :: []) (o7.pick [2, 3, 1, 0, 4, 5, 6] 7 (by decide) (by decide))
      refine again _ _ ⟨i + 1, don ++ rest.take j, rest.drop j, sls ++ ss6, cb6, d7, _, w64n (by omega), by omega, ?_, o8.pick [1, 2, 0, 3, 4, 5] 6 (by decide) (by decide), ?_, w7, ?_, hcut2, ?_⟩ (by dsimp only; rw [w64n (by omega)]; omega)
      · rw [List.append_assoc, List.take_append_drop]
      · rw [happ]; exact w6
      · rw [happ]; exact All2.app (Rows2.sub (o9.mem (by simp)) rr) (Rows2.sub (o9.mem (by simp)) rr6)
      · rw [List.length_drop]; dsimp only; omega
    · dsimp only
      refine push7_ok (m := zr) o5 wb (g := h1) (by simp) rw5 (flow_bytes hbd).2 hbr (by omega) (by omega) fun s6 ss6 cb6 r6 h6 o6 w6 r66 rr6 => ?_
      have happ := flowV_app don.length don rest (Nat.le_refl _) hbd
      have hl6 := r66.1
      have hl6' := rr6.len
      have hf6 := flow_len (l := (flowV don).2.1 ++ rest) (by
        intro x hx
        rcases List.mem_append.1 hx with hx | hx
        · exact (flow_bytes hbd).2 x hx
        · exact hbr x hx)
      rw [List.length_append] at hf6
      have o6' : On h6 (dO :: cb6 :: r6 :: rx :: ca :: r4 :: h1 :: []) := o6.pick [2, 0, 1, 3, 4, 5, 6] 7 (by decide) (by decide)
      refine append_own (g := r6) (s := zo) (t := s6) o6' rfl wo (by decide) r66 (o6'.mem (by simp)) (by unfold roomP; omega) fun d7 p7 n7 m7 h7 o7 w7 => ?_
      obtain ⟨o8, o9⟩ := On.joined (cs := [r6, rx, d7]) (l := cb6 :: ca :: r4 :: h1 :: []) (o7.pick [2, 3, 0, 1, 4, 5, 6] 7 (by decide) (by decide))
      have hball := flow_bytes hb
      have hfall := flow_len hb
      rw [List.length_append] at hfall
      have rrall : Rows2 (allOf [r6, rx, d7]) (sls ++ ss6) (flowV (don ++ rest)).1 := by
        rw [happ]; exact All2.app (Rows2.sub (o9.mem (by simp)) rr) (Rows2.sub (o9.mem (by simp)) rr6)
      refine same7_ok (p1 := ⟨p7, n7, m7⟩) (o8.mem (by simp)) (o8.mem (by simp)) r44 (w7.row.sub (o9.mem (by simp))) rr4 rrall hball.1 hball.1 (by omega) ?_
      refine cond_t (by simp) ?_
      have w6 : IsFlow pb (flowV (don ++ rest)).2.1 (flowV (don ++ rest)).2.2 cb6 158 := by rw [happ]; exact w6
      rw [Nat.zero_add] at wa
      refine lost7_ok (o8.mem (by simp)) wa (lost7_ok (o8.mem (by simp)) w6 (cond_t (by simp) ?_))
      refine held7_ok (o8.mem (by simp)) wa (held7_ok (o8.mem (by simp)) w6 (cond_t (by simp) ?_))
      exact known7_ok o8 fun h' o' => ⟨rfl, o'.mem (by simp)⟩
  · refine cond_d (fun _ => hJ _ _ ⟨rfl, fun h => by cases h⟩) fun e1 => ?_
    refine hJ _ _ ⟨rfl, fun h => ⟨by omega, ?_⟩⟩
    have h := of_decide_eq_false h
    omega

theorem plays7 {g : Hp} {p0 : Sl} {ss : List Sl} {bss : List (List Int)} (r : Row cSl g p0 ss) (rr : Rows2 g ss bss) (hb : ∀ b ∈ bss, Bytes b ∧ b.length ≤ 140737488351232) (hn : ss.length ≤ 140737488351232) : F21 p0 g (Lawful g) := by
  unfold F21
  have hl := r.1
  have hl2 := rr.len
  refine new7_ok (On.self g) fun p c h1 o1 w1 => ?_
  refine alloc_ob o1 fun k1 h2 o2 => ?_
  obtain ⟨cR, o3, wR⟩ := new7_of o2
  obtain ⟨kp, rfl⟩ := flow_some w1
  refine loop_i (fun z h' => ∃ (i tot : Nat) (held : List Int) (lost : Nat) (c cR : Hp), z.2 = (i : Int) ∧ i ≤ bss.length ∧ i ≤ 101 ∧ z.1 = (tot : Int) ∧ tot ≤ 800 ∧ Bytes held ∧ held.length + lost ≤ tot ∧ On h' (cR :: c :: g :: []) ∧ IsFlow (some ⟨kp, 0, none⟩) held lost c 158 ∧ IsFlow (some ⟨k1, 0, none⟩) held lost cR 93) (fun z => bss.length - z.2.toNat)
    ⟨0, 0, [], 0, c, cR, rfl, Nat.zero_le _, by omega, rfl, by omega, (by intro x hx; cases hx), by simp, o3, w1, wR⟩ ?_
  rintro J ⟨z, zi⟩ h3 again ⟨i, tot, held, lost, c, cR, hzi, hle, h101, hz, h800, hbh, hhl, o3, w1, wR⟩
  dsimp only at hzi hz
  subst hzi hz
  refine join_i (fun t h' => h' = h3 ∧ t = decide (i < bss.length)) ?_ fun J4 hJ4 => ?_
  · rintro t h4 ⟨rfl, rfl⟩
    refine cond_d (fun hi => ?_) fun _ => ?_
    · have a0 : ss[i]? = some ss[i] := List.getElem?_eq_getElem (by omega)
      obtain ⟨x, hx, rx⟩ := rr.get i _ a0
      have hxm := hb x (List.mem_of_getElem? hx)
      have hxl := rx.1
      generalize ss[i] = sx at a0 rx hxl
      dsimp only
      refine idx_row r (Int.natCast_nonneg i) (by omega) fun a ha => load_row r (o3.mem (by simp)) rfl ha (i := i) a0 (by simp) ?_
      have ew : IntKind.i64.wrap ((tot : Int) + (sx.len : Int)) = ((tot + x.length : Nat) : Int) := by rw [w64 (by omega) (by omega)]; omega
      rw [ew]
      refine join_i (fun t h' => h' = h4 ∧ (t = false → tot + x.length ≤ 800 ∧ i ≤ 100)) ?_ fun J3 hJ3 => ?_
      · rintro t h5 ⟨rfl, hf⟩
        refine cond_i (fun _ => ⟨rfl, o3.mem (by simp)⟩) fun e => ?_
        obtain ⟨ht, hi100⟩ := hf e
        clear hf
        refine join_i (fun t h' => t = false ∧ ∃ (c cR : Hp) (held : List Int) (lost : Nat), Bytes held ∧ held.length + lost ≤ tot + x.length ∧ On h' (cR :: c :: g :: []) ∧ IsFlow (some ⟨kp, 0, none⟩) held lost c 158 ∧ IsFlow (some ⟨k1, 0, none⟩) held lost cR 93) ?_ fun J2 hJ2 => ?_
        · rintro t h6 ⟨rfl, c6, cR6, held6, lost6, hb6, hl6, o6, w6, wR6⟩
          exact cond_f rfl (again _ _ ⟨i + 1, tot + x.length, held6, lost6, c6, cR6, w64n (by omega), by omega, by omega, rfl, ht, hb6, hl6, o6, w6, wR6⟩ (by dsimp only; rw [w64n (by omega)]; omega))
        refine idx_row r (Int.natCast_nonneg i) (by omega) fun a1 ha1 => idx_row r (Int.natCast_nonneg i) (by omega) fun a2 ha2 => ?_
        refine load_row r (o3.mem (by simp)) rfl ha1 (i := i) a0 (by simp) (load_row r (o3.mem (by simp)) rfl ha2 (i := i) a0 (by simp) ?_)
        refine push7_ok o3.swap w1 (g := g) (by simp) rx hbh hxm.1 (by omega) (by omega) fun s6 ss6 c6 r6 h6 o6 w6 r66 rr6 => ?_
        refine ⟨⟨rds_row r (o6.mem (by simp)) rfl ha2 a0 (by simp), trivial⟩, ?_⟩
        have o6' : On h6 (cR :: c6 :: r6 :: g :: []) := o6.pick [2, 0, 1, 3] 4 (by decide) (by decide)
        refine rpush7_ok o6' wR (g := g) (by simp) rx hbh hxm.1 (by omega) (by omega) fun s7 ss7 c7 r7 h7 o7 w7 r77 rr7 => ?_
        have hball : Bytes (held ++ x) := by
          intro y hy
          rcases List.mem_append.1 hy with hy | hy
          · exact hbh y hy
          · exact hxm.1 y hy
        have hfb := flow_bytes hball
        have hfl := flow_len hball
        rw [List.length_append] at hfl
        refine same7_ok (o7.mem (by simp)) (o7.mem (by simp)) r66 r77 rr6 rr7 hfb.1 hfb.1 (by omega) ?_
        refine cond_f (by simp) ?_
        obtain ⟨sR, hsR, rds0, rds1⟩ := flow_at w7
        refine ⟨_, Hp.sub_rds (o7.mem (by simp)) rds1, ?_⟩
        refine lost7_ok (o7.mem (by simp)) w6 ?_
        refine ⟨⟨Hp.sub_rds (o7.mem (by simp)) rds1, trivial⟩, ?_⟩
        refine cond_f (by simp) ?_
        refine ⟨sR, Hp.sub_rds (o7.mem (by simp)) rds0, ?_⟩
        refine held7_ok (o7.mem (by simp)) w6 ?_
        refine ⟨⟨Hp.sub_rds (o7.mem (by simp)) rds0, trivial⟩, ?_⟩
        refine hJ2 _ _ ⟨by simp [hsR], c6, c7, _, _, hfb.2, by omega, o7.pick [0, 2, 4] 5 (by decide) (by decide), w6, w7⟩
      · refine cond_d (fun _ => hJ3 _ _ ⟨rfl, fun h => by cases h⟩) fun e1 => ?_
        refine hJ3 _ _ ⟨rfl, fun h => ⟨by omega, ?_⟩⟩
        have h := of_decide_eq_false h
        omega
    · exact cond_t rfl (known7_ok o3 fun h' o' => ⟨rfl, o'.mem (by simp)⟩)
  · refine cond_t rfl (hJ4 _ _ ⟨rfl, ?_⟩)
    dsimp only
    exact decide_eq_decide.2 (by omega)
theorem ints_of {W : World} {s : Sl} (h : Opn Try.prog W 57 [.slice s.a s.len s.cap]) : ∃ qs : List Int, Row (cI .i64) (hpOf W) s qs := by
  obtain ⟨_, _, _, xs, hr, hx⟩ := open_row (d := 3) (e := 3) (ls := [(.i .i64, 3)]) (cd := cI .i64) id (fun _ => rfl) h (by kernel_rfl) (by kernel_rfl) (by kernel_rfl)
  exact ⟨xs, hr⟩
theorem flowPlays_law (W : World) (p0 : Sl) (o0 : Opn Try.prog W 22 [.slice p0.a p0.len p0.cap]) : F21 p0 (hpOf W) (Lawful (hpOf W)) := by
  obtain ⟨ss, bss, h0, h1, h2, h3⟩ := rows_of o0
  exact plays7 h0 h1 h2 h3
theorem flowParts_law (W : World) (p0 p1 : Sl) (o0 : Opn Try.prog W 25 [.slice p0.a p0.len p0.cap]) (o1 : Opn Try.prog W 57 [.slice p1.a p1.len p1.cap]) : F22 p0 p1 (hpOf W) (Lawful (hpOf W)) := by
  obtain ⟨bs, h0, h1, _, h2⟩ := bytes_of o0
  obtain ⟨ns, h3⟩ := ints_of o1
  exact parts7 h0 h1 h2 h3
theorem flowFrames_law (W : World) (p0 : Sl) (o0 : Opn Try.prog W 22 [.slice p0.a p0.len p0.cap]) : F23 p0 (hpOf W) (Lawful (hpOf W)) := by
  obtain ⟨ss, bss, h0, h1, h2, h3⟩ := rows_of o0
  exact frames7 h0 h1 fun b hb => (h2 b hb).1
theorem flowCounts_law (W : World) (p0 : Sl) (o0 : Opn Try.prog W 25 [.slice p0.a p0.len p0.cap]) : F24 p0 (hpOf W) (Lawful (hpOf W)) := by
  obtain ⟨bs, h0, h1, _, h2⟩ := bytes_of o0
  exact counts7 h0 h1
theorem flowNoise_law (W : World) (p0 p1 : Sl) (o0 : Opn Try.prog W 25 [.slice p0.a p0.len p0.cap]) (o1 : Opn Try.prog W 22 [.slice p1.a p1.len p1.cap]) : F25 p0 p1 (hpOf W) (Lawful (hpOf W)) := by
  obtain ⟨bs, h0, h1, _, _⟩ := bytes_of o0
  obtain ⟨ss, bss, h2, h3, h4, h5⟩ := rows_of o1
  exact noise7 h0 h1 h2 h3 fun b hb => (h4 b hb).1
theorem flowHolds_law (W : World) (p0 : Sl) (p1 : Int) (o0 : Opn Try.prog W 25 [.slice p0.a p0.len p0.cap]) (_o1 : Opn Try.prog W 3 [.int .i64 p1]) : F26 p0 p1 (hpOf W) (Lawful (hpOf W)) := by
  obtain ⟨bs, h0, h1, _, _⟩ := bytes_of o0
  exact holds7 h0 h1
end Go.Proofs.Ytmkgcdgpokidjaa
