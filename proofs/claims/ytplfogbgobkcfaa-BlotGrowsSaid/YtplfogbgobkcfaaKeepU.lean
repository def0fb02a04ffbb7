/- Chapter 9: of any messages all frames, what may be had from any one on. -/
import Derived.Test.YtplfogbgobkcfaaKeepT
set_option linter.unusedVariables false
namespace Go.Proofs.Ytplfogbgobkcfaa
open Go.Eng

theorem rds_row {cd : Cdc} {g h : Hp} {s : Sl} {xs : List cd.T} (r : Row cd g s xs) (hs : g.sub h) (hm : cd.mem = true) {a : Addr} (ha : s.a = some a) {i : Nat} {x : cd.T} (hx : xs[i]? = some x) {m : Nat} (hn : i * cd.n = m) : h.rds (a.add m) (cd.enc x).cells.toList := by
  have hr := r.2
  rw [ha] at hr
  subst hn
  have hl : ((cd.enc x).cells.toList).length = cd.n := by simpa using (enc_cells hm x).1
  exact Hp.sub_rds hs (Hp.rds_add hr _ (by rw [hl]; exact cellsL_part hm xs i x hx))

theorem plays9_ok {g : Hp} {p0 p1 : Sl} {ms : List Msg} {qs : List Int} (r0 : Row cMsg g p0 ms) (r1 : Row (cI .i64) g p1 qs) (hq : ∀ q ∈ qs, -9223372036854775808 ≤ q ∧ q ≤ 9223372036854775807) : F9 p0 p1 g (Lawful g) := by
  unfold F9
  refine join_i (fun t h1 => h1 = g ∧ (t = false → ms.length ≤ 200 ∧ qs.length ≤ 40)) ?_ fun J hJ => ?_
  · rintro t h1 ⟨rfl, hf⟩
    refine cond_i (fun _ => ⟨rfl, Hp.sub_refl _⟩) fun e => ?_
    obtain ⟨hl0, hl1⟩ := hf e
    refine knew_ok (On.self h1) fun p c h2 o2 w2 => ?_
    refine alloc_ob o2 fun k1 h3 o3 => ?_
    have o3' : On h3 ([ob k1 [Value.slice none 0 0] 53, Hp.emp] ++ [c, h1]) := o3.emp.swap
    obtain ⟨o4, o5⟩ := o3'.joined
    have x0 : IsRef9 (some ⟨k1, 0, none⟩) [] (allOf [ob k1 [Value.slice none 0 0] 53, Hp.emp]) := ⟨k1, 53, ⟨none, 0, 0⟩, Hp.emp, rfl, o5, Own.nil _⟩
    refine loop_i (fun z h' => ∃ (i : Nat) (c x : Hp) (all : List Frame), z = i ∧ i ≤ ms.length ∧ all.length = i ∧ On h' [c, x, h1] ∧ IsKeep p all c ∧ IsRef9 (some ⟨k1, 0, none⟩) all x) (fun z => ms.length - z.toNat)
      ⟨0, c, _, [], rfl, Nat.zero_le _, rfl, o4.swap, w2, x0⟩ ?_
    rintro J1 z h4 again ⟨i, c4, x4, all, rfl, hle, hall, o4, w4, v4⟩
    have hp : p.isNone = false := by obtain ⟨b, _, _, _, rfl, _⟩ := w4; rfl
    refine join_i (fun t h5 => h5 = h4 ∧ t = decide ((i : Int) < p0.len)) ?_ fun J5 hJ5 => ?_
    · rintro t h5 ⟨rfl, rfl⟩
      refine cond_d (fun hlt => ?_) fun hge => ?_
      · rw [r0.1] at hlt
        have hlt : i < ms.length := by omega
        have hi : ms[i]? = some ms[i] := List.getElem?_eq_getElem hlt
        have hg : h1.sub h5 := o4.get (i := 2) rfl
        refine idx_row r0 (by omega) (by omega) fun a ha => idx_row r0 (by omega) (by omega) fun a2 ha2 => ?_
        refine load_row r0 hg rfl ha (i := i) hi (by simp) ?_
        refine load_row r0 hg rfl ha2 (i := i) hi (by simp) ?_
        refine kadd_ok o4 w4 (by omega) fun c6 h6 o6 w6 => ?_
        refine ⟨⟨rds_row r0 (o6.get (i := 2) rfl) rfl ha2 hi (by simp), trivial⟩, ?_⟩
        refine rkadd_ok o6.swap v4 (by omega) fun x7 h7 o7 v7 => ?_
        refine cond_f (by simp) ?_
        exact again _ _ ⟨i + 1, c6, x7, _, w64n (by omega), by omega, by simp [hall], o7.swap, w6, v7⟩ (by rw [w64n (by omega)]; omega)
      · refine loop_i (fun z h' => ∃ (j : Nat) (es : List Hp), z = j ∧ j ≤ qs.length ∧ On h' (c4 :: x4 :: (es ++ [h1]))) (fun z => qs.length - z.toNat) ⟨0, [], rfl, Nat.zero_le _, o4⟩ ?_
        rintro J2 z h8 again2 ⟨j, es, rfl, hle2, o8⟩
        have hg8 : h1.sub h8 := o8.mem (by simp)
        refine join_i (fun t h9 => h9 = h8 ∧ t = decide ((j : Int) < p1.len)) ?_ fun J4 hJ4 => ?_
        · rintro t h9 ⟨rfl, rfl⟩
          refine cond_d (fun hlt => ?_) fun _ => ?_
          · rw [r1.1] at hlt
            have hlt : j < qs.length := by omega
            have hj : qs[j]? = some qs[j] := List.getElem?_eq_getElem hlt
            have hrange := hq _ (List.mem_of_getElem? hj)
            refine idx_row r1 (by omega) (by omega) fun a ha => load_row r1 hg8 rfl ha (i := j) hj (by simp) ?_
            have fin : ∀ h12 es', On h12 (c4 :: x4 :: (es' ++ [h1])) → J2 (IntKind.i64.wrap ((j : Int) + 1)) h12 := fun h12 es' o12 =>
              again2 _ _ ⟨j + 1, es', w64n (by omega), by omega, o12⟩ (by rw [w64n (by omega)]; omega)
            refine kfrom_ok o8 w4 (by omega) hrange (fun hg => ?_) fun hng s d h10 o10 u10 => ?_
            · refine idx_row r1 (by omega) (by omega) fun a ha => load_row r1 hg8 rfl ha (i := j) hj (by simp) ?_
              refine rkfrom_ok o8.swap v4 (by omega) hrange (fun _ => ?_) fun hng => absurd hg hng
              refine join_i (fun t h12 => h12 = h9 ∧ t = false) ?_ fun J3 hJ3 => ?_
              · rintro t h12 ⟨rfl, rfl⟩
                exact cond_f rfl (fin _ es o8)
              · refine same_ok (p0 := ⟨none, 0, 0⟩) (p1 := ⟨none, 0, 0⟩) (xs := []) (Hp.sub_refl _) (Hp.sub_refl _) (Row.nil _) (Row.nil _) (by simp) ?_
                exact cond_f rfl (hJ3 _ _ ⟨rfl, rfl⟩)
            · have hg10 : h1.sub h10 := o10.mem (by simp)
              refine idx_row r1 (by omega) (by omega) fun a ha => load_row r1 hg10 rfl ha (i := j) hj (by simp) ?_
              have o10' : On h10 (x4 :: d :: c4 :: (es ++ [h1])) := o10.perm ((List.Perm.cons d (List.Perm.swap x4 c4 _)).trans (List.Perm.swap x4 d _))
              refine rkfrom_ok o10' v4 (by omega) hrange (fun hg => absurd hg hng) fun _ s2 d2 h11 o11 u11 => ?_
              refine join_i (fun t h12 => h12 = h11 ∧ t = false) ?_ fun J3 hJ3 => ?_
              · rintro t h12 ⟨rfl, rfl⟩
                refine cond_f rfl (fin _ (d2 :: d :: es) ?_)
                exact ((o11.pull 3 rfl).pull 2 rfl).swap
              · refine same_ok (p0 := s) (p1 := s2) (o11.get (i := 2) rfl) (o11.get (i := 0) rfl) u10.row u11.row (by simp; omega) ?_
                exact cond_f rfl (hJ3 _ _ ⟨rfl, rfl⟩)
          · refine cond_t (by rw [hp]; rfl) ?_
            refine knext_ok o8 w4 (rknext_ok o8.swap v4 (by omega) ?_)
            exact cond_t (by simp) (known9_ok o8 fun h9 o9 => ⟨rfl, o9.mem (by simp)⟩)
        · exact cond_t (by rw [hp]; rfl) (hJ4 _ _ ⟨rfl, rfl⟩)
    · exact cond_t (by rw [hp]; rfl) (hJ5 _ _ ⟨rfl, rfl⟩)
  · refine cond_d (fun _ => hJ _ _ ⟨rfl, fun h => by cases h⟩) fun e1 => ?_
    have := r0.1
    have := r1.1
    refine hJ _ _ ⟨rfl, fun h => ⟨by omega, ?_⟩⟩
    have h := of_decide_eq_false h
    omega

theorem msgs_of {W : World} {s : Sl} (h : Opn Try.prog W 46 [.slice s.a s.len s.cap]) : ∃ ms : List Msg, Row cMsg (hpOf W) s ms := by
  obtain ⟨_, _, _, xs, hr, _⟩ := open_row (d := 4) (e := 56) (ls := [(.i .i64, 3), (.i .i64, 2), (.i .i64, 2), (.i .i64, 2), (.i .i64, 2), (.i .i64, 2), (.i .i64, 2)]) (cd := cMsg) (fun x => ⟨x.1, x.2.1, x.2.2.1, x.2.2.2.1, x.2.2.2.2.1, x.2.2.2.2.2.1, x.2.2.2.2.2.2⟩) (fun _ => rfl) h (by kernel_rfl) (by kernel_rfl) (by kernel_rfl)
  exact ⟨xs, hr⟩
theorem i64s_of {W : World} {s : Sl} (h : Opn Try.prog W 47 [.slice s.a s.len s.cap]) : ∃ qs : List Int, Row (cI .i64) (hpOf W) s qs ∧ ∀ q ∈ qs, -9223372036854775808 ≤ q ∧ q ≤ 9223372036854775807 := by
  obtain ⟨_, _, _, xs, hr, hx⟩ := open_row (d := 3) (e := 2) (ls := [(.i .i64, 2)]) (cd := cI .i64) id (fun _ => rfl) h (by kernel_rfl) (by kernel_rfl) (by kernel_rfl)
  refine ⟨xs, hr, fun b hb => ?_⟩
  obtain ⟨y, hy0, hy⟩ := hx b hb
  have hby : b = y := hy0
  subst hby
  have : (Lit.int .i64 b).wf = true := hy
  simp [Lit.wf, IntKind.min, IntKind.max, IntKind.signed, IntKind.bits] at this
  omega
theorem keepPlays_law (W : World) (p0 p1 : Sl) (o0 : Opn Try.prog W 46 [.slice p0.a p0.len p0.cap]) (o1 : Opn Try.prog W 47 [.slice p1.a p1.len p1.cap]) : F9 p0 p1 (hpOf W) (Lawful (hpOf W)) := by
  obtain ⟨ms, h0⟩ := msgs_of o0
  obtain ⟨qs, h1, h2⟩ := i64s_of o1
  exact plays9_ok h0 h1 h2
end Go.Proofs.Ytplfogbgobkcfaa
