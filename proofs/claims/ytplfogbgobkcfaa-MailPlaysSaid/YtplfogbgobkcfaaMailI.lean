/- Chapter 8: of every script over a few boxes each answer. -/
import Derived.Test.YtplfogbgobkcfaaMailH
set_option linter.unusedVariables false
namespace Go.Proofs.Ytplfogbgobkcfaa
open Go.Eng

theorem perm_two {α : Type} (c x : α) (cs xs : List α) : (c :: x :: (cs ++ xs)).Perm ((cs ++ [c]) ++ (xs ++ [x])) := by
  have h1 : (x :: (cs ++ xs)).Perm (cs ++ (xs ++ [x])) := List.perm_middle.symm.trans (List.Perm.append_left cs (List.perm_append_singleton x xs).symm)
  have h2 : (c :: (cs ++ (xs ++ [x]))).Perm ((cs ++ [c]) ++ (xs ++ [x])) := by rw [List.append_assoc]; exact List.perm_middle.symm
  exact (List.Perm.cons c h1).trans h2
abbrev B8 := Nat × List (List Int) × Bool
/-- The boxes of both sorts hold the same. -/
def St8 (T : List Hp) (ps qs : List (Option Addr)) (n : Nat) (h : Hp) : Prop :=
  ∃ (bs : List B8) (cs xs : List Hp), On h (cs ++ (xs ++ T)) ∧ Boxes ps bs cs ∧ Fam IsRef8 qs bs xs ∧ ∀ b ∈ bs, b.2.1.length ≤ n
theorem St8.mono {T : List Hp} {ps qs : List (Option Addr)} {n : Nat} {h : Hp} (s : St8 T ps qs n h) : St8 T ps qs (n + 1) h := by
  obtain ⟨bs, cs, xs, h1, h2, h3, h4⟩ := s
  exact ⟨bs, cs, xs, h1, h2, h3, fun b hb => by have := h4 b hb; omega⟩
theorem lens_set {bs : List B8} {k n : Nat} {b : B8} (h : ∀ b ∈ bs, b.2.1.length ≤ n) (hb : b.2.1.length ≤ n + 1) : ∀ x ∈ bs.set k b, x.2.1.length ≤ n + 1 := by
  intro x hx
  rcases List.mem_or_eq_of_mem_set hx with h' | h'
  · have := h x h'; omega
  · subst h'; exact hb
def Acts8 (g : Hp) (acs : List L8Act) : Prop := ∀ a ∈ acs, ∃ bs : List Int, Row (cI .u8) g a.B bs

theorem plays8_ok {g : Hp} {p0 p1 : Sl} {rs : List Int} {acs : List L8Act} (r0 : Row (cI .i64) g p0 rs) (r1 : Row cL8Act g p1 acs) (ra : Acts8 g acs) : F12 p0 p1 g (Lawful g) := by
  unfold F12
  refine join_i (fun t h1 => h1 = g ∧ (t = false → rs.length ≤ 6 ∧ acs.length ≤ 80)) ?_ fun J hJ => ?_
  · rintro t h1 ⟨rfl, hf⟩
    refine cond_i (fun _ => ⟨rfl, Hp.sub_refl _⟩) fun e => ?_
    obtain ⟨hl0, hl1⟩ := hf e
    refine loop_i (fun z h' => ∃ (i : Nat) (ps qs : List (Option Addr)) (bs : List B8) (cs xs : List Hp) (d1 d2 : Hp), z.2.2 = i ∧ i ≤ rs.length ∧ bs.length ≤ i ∧ On h' (d1 :: d2 :: h1 :: (cs ++ xs)) ∧ Boxes ps bs cs ∧ Fam IsRef8 qs bs xs ∧ Own cP d1 z.1 ps ∧ Own cP d2 z.2.1 qs ∧ ∀ b ∈ bs, b.2.1.length ≤ 0)
      (fun z => rs.length - z.2.2.toNat) ⟨0, [], [], [], [], [], Hp.emp, Hp.emp, rfl, Nat.zero_le _, Nat.zero_le _, (On.self h1).emp.emp, ⟨rfl, rfl, fun i p b c h => by cases h⟩, ⟨rfl, rfl, fun i p b c h => by cases h⟩, Own.nil _, Own.nil _, fun b h => by cases h⟩ ?_
    rintro J1 ⟨s1, s2, z⟩ h2 again ⟨i, ps, qs, bs, cs, xs, d1, d2, hz, hle, hbl, o2, wb, wr, u1, u2, hbs⟩
    dsimp only at hz u1 u2
    subst hz
    refine cond_d (fun hlt => ?_) fun hge => ?_
    · dsimp only at hlt
      rw [r0.1] at hlt
      have hlt : i < rs.length := by omega
      have hi : rs[i]? = some rs[i] := List.getElem?_eq_getElem hlt
      have hpl : ps.length ≤ 6 := by have := wb.1; omega
      have hql : qs.length ≤ 6 := by have := wr.1; omega
      refine join_i (fun z2 h' => ∃ (ps qs : List (Option Addr)) (bs : List B8) (cs xs : List Hp) (d1 d2 : Hp), bs.length ≤ i + 1 ∧ On h' (d1 :: d2 :: h1 :: (cs ++ xs)) ∧ Boxes ps bs cs ∧ Fam IsRef8 qs bs xs ∧ Own cP d1 z2.1 ps ∧ Own cP d2 z2.2 qs ∧ ∀ b ∈ bs, b.2.1.length ≤ 0) ?_ fun J2 hJ2 => ?_
      · rintro z2 h' ⟨ps, qs, bs, cs, xs, d1, d2, k1, k2, k3, k4, k5, k6, k7⟩
        exact again _ _ ⟨i + 1, ps, qs, bs, cs, xs, d1, d2, w64n (by omega), by omega, k1, k2, k3, k4, k5, k6, k7⟩ (by dsimp only; rw [w64n (by omega)]; omega)
      · have hg : h1.sub h2 := o2.get (i := 2) rfl
        refine idx_row r0 (Int.natCast_nonneg i) (by dsimp only; omega) fun a ha => idx_row r0 (Int.natCast_nonneg i) (by dsimp only; omega) fun a2 ha2 => ?_
        refine load_row r0 hg rfl ha (i := i) hi (by simp) ?_
        refine load_row r0 hg rfl ha2 (i := i) hi (by simp) ?_
        refine new_ok o2 (fun hbad => ?_) fun p c h4 hn1 hn2 o4 w4 => ?_
        · refine ⟨⟨rds_row r0 hg rfl ha2 hi (by simp), trivial⟩, ?_⟩
          refine rnew8_ok o2 (fun _ => ?_) fun q x h5 hn1 hn2 _ _ => by omega
          refine cond_f rfl (cond_f rfl ?_)
          exact hJ2 _ _ ⟨ps, qs, bs, cs, xs, d1, d2, by omega, o2, wb, wr, u1, u2, hbs⟩
        · refine ⟨⟨rds_row r0 (o4.get (i := 3) rfl) rfl ha2 hi (by simp), trivial⟩, ?_⟩
          refine rnew8_ok o4 (fun hbad => by omega) fun q x h5 _ _ o5 w5 => ?_
          have hp : p.isNone = false := by obtain ⟨b, _, _, _, _, _, _, rfl, _⟩ := w4; rfl
          have hq : q.isNone = false := by obtain ⟨b, _, _, _, _, _, rfl, _⟩ := w5; rfl
          refine cond_f (by rw [hp, hq]; rfl) (cond_t (by rw [hq]; rfl) ?_)
          refine alloc_ob o5 fun k1 h6 o6 => ?_
          -- k1, x, c, d1, d2, h1
          have r6 : Row cP (ob k1 [Value.pointer p] 35) ⟨some ⟨k1, 0, none⟩, 1, 1⟩ [p] := row_ob rfl rfl
          have o6' : On h6 (d1 :: ob k1 [Value.pointer p] 35 :: x :: c :: d2 :: h1 :: (cs ++ xs)) := o6.pick [3, 0, 1, 2, 4, 5] 6 (by decide) (by decide)
          refine append_own (s := s1) (t := ⟨some ⟨k1, 0, none⟩, 1, 1⟩) o6' rfl u1 (by decide) r6 (o6'.get (i := 1) rfl) (by unfold roomP; simp; omega) fun d7 p7 n7 m7 h7 o7 u7 => ?_
          refine alloc_ob o7 fun k4 h8 o8 => ?_
          have r8 : Row cP (ob k4 [Value.pointer q] 70) ⟨some ⟨k4, 0, none⟩, 1, 1⟩ [q] := row_ob rfl rfl
          have o8' : On h8 (d2 :: ob k4 [Value.pointer q] 70 :: d7 :: x :: c :: h1 :: (cs ++ xs)) := o8.pick [5, 0, 1, 3, 4, 6] 7 (by decide) (by decide)
          refine append_own (s := s2) (t := ⟨some ⟨k4, 0, none⟩, 1, 1⟩) o8' rfl u2 (by decide) r8 (o8'.get (i := 1) rfl) (by unfold roomP; simp; omega) fun d9 p9 n9 m9 h9 o9 u9 => ?_
          have o9' : On h9 (d7 :: d9 :: h1 :: c :: x :: (cs ++ xs)) := o9.pick [2, 0, 5, 4, 3] 6 (by decide) (by decide)
          have o10 : On h9 (d7 :: d9 :: h1 :: ((cs ++ [c]) ++ (xs ++ [x]))) := o9'.perm (List.Perm.cons _ (List.Perm.cons _ (List.Perm.cons _ (perm_two c x cs xs))))
          refine hJ2 _ _ ⟨ps ++ [p], qs ++ [q], bs ++ [((rs[i]).toNat, [], false)], cs ++ [c], xs ++ [x], d7, d9, by simp; omega, o10, Boxes.push wb w4, wr.push w5, u7, u9, ?_⟩
          intro b hb
          rcases List.mem_append.1 hb with hb | hb
          · exact hbs b hb
          · rw [List.mem_singleton] at hb; subst hb; exact Nat.le_refl _
    · have hpl : ps.length ≤ 6 := by have := wb.1; omega
      have hql : qs.length ≤ 6 := by have := wr.1; omega
      have oT : On h2 (cs ++ (xs ++ [d1, d2, h1])) := by
        refine o2.perm ?_
        rw [← List.append_assoc]
        exact List.perm_append_comm (l₁ := [d1, d2, h1]) (l₂ := cs ++ xs)
      have wpq : ps.length = qs.length := by have := wb.1; have := wr.1; omega
      clear hbl
      refine loop_i (fun z h' => ∃ j : Nat, z = j ∧ j ≤ acs.length ∧ St8 [d1, d2, h1] ps qs j h') (fun z => acs.length - z.toNat) ⟨0, rfl, Nat.zero_le _, bs, cs, xs, oT, wb, wr, hbs⟩ ?_
      clear hbs wr wb oT o2 again hge
      rintro J3 z h10 again2 ⟨j, rfl, hjl, bs, cs, xs, o10, wb, wr, hbs⟩
      have hg10 : h1.sub h10 := o10.mem (by simp)
      refine cond_d (fun hlt => ?_) fun _ => ?_
      · rw [r1.1] at hlt
        have hlt : j < acs.length := by omega
        have hj : acs[j]? = some acs[j] := List.getElem?_eq_getElem hlt
        obtain ⟨ab, rab⟩ := ra _ (List.mem_of_getElem? hj)
        generalize acs[j] = act at hj rab
        refine join_i (fun _ h' => St8 [d1, d2, h1] ps qs (j + 1) h') ?_ fun J4 hJ4 => ?_
        · rintro _ h' s'
          exact again2 _ _ ⟨j + 1, w64n (by omega), by omega, s'⟩ (by rw [w64n (by omega)]; omega)
        · refine idx_row r1 (by omega) (by omega) fun a ha => load_row r1 hg10 rfl ha (i := j) hj (by simp) ?_
          refine cond_d (fun _ => ⟨rfl, hg10⟩) fun hb50 => ?_
          have habl : ab.length ≤ 50 := by have := rab.1; omega
          refine cond_i (fun _ => ?_) fun _ => ?_
          · refine first_ok o10 (k := xs.length) (d := d1) (by simp) u1.row wb (by omega) (fun hnone => ?_) fun i n m q t s dm cs' h12 hf hbi o12 wb' um => ?_
            · have o10' : On h10 (xs ++ (cs ++ [d1, d2, h1])) := o10.perm (List.perm_append_comm_assoc _ _ _)
              refine rfirst8_ok o10' (d := d2) (by simp) u2.row wr (by omega) (fun _ => ?_) fun i n m q t s dm cs' h12 hf => by rw [hf] at hnone; cases hnone
              refine join_i (fun t h' => t = false ∧ h' = h10) ?_ fun J5 hJ5 => ?_
              · rintro t h' ⟨rfl, rfl⟩
                exact cond_f rfl (hJ4 _ _ ⟨bs, cs, xs, o10, wb, wr, fun b hb => by have := hbs b hb; omega⟩)
              · refine str_row (xs := []) (s := ⟨none, 0, 0⟩) (Row.nil h10) (Hp.sub_refl _) (str_row (xs := []) (s := ⟨none, 0, 0⟩) (Row.nil h10) (Hp.sub_refl _) ?_)
                exact cond_f (by rw [strEq_self]; rfl) (cond_f rfl (hJ5 _ _ ⟨rfl, rfl⟩))
            · have o12' : On h12 (xs ++ (cs' ++ dm :: [d1, d2, h1])) := o12.perm ((List.Perm.append_left cs' List.perm_middle.symm).trans (List.perm_append_comm_assoc _ _ _))
              refine rfirst8_ok o12' (d := d2) (by simp) u2.row wr (by omega) (fun hnone => by rw [hf] at hnone; cases hnone) fun i2 n2 m2 q2 t2 s2' dm2 xs' h13 hf2 hbi2 o13 wr' um2 => ?_
              rw [hf] at hf2; cases hf2
              rw [hbi] at hbi2; cases hbi2
              refine join_i (fun t h' => t = false ∧ h' = h13) ?_ fun J5 hJ5 => ?_
              · rintro t h' ⟨rfl, rfl⟩
                refine cond_f rfl (hJ4 _ _ ⟨_, cs', xs', ?_, wb', wr', lens_set hbs ?_⟩)
                · have o14 : On h' (xs' ++ (cs' ++ [d1, d2, h1])) := o13.sublist (List.Sublist.append (List.Sublist.refl _) (List.Sublist.cons _ (List.Sublist.append (List.Sublist.refl _) (List.sublist_cons_self _ _))))
                  exact o14.perm (List.perm_append_comm_assoc _ _ _)
                · have := hbs _ (List.mem_of_getElem? hbi)
                  simp at this; dsimp only; omega
              · refine str_row um.row (o13.mem (by simp)) (str_row um2.row (o13.mem (by simp)) ?_)
                exact cond_f (by rw [strEq_self]; rfl) (cond_f (by simp) (hJ5 _ _ ⟨rfl, rfl⟩))
          · have hs1 : s1.len = ps.length := u1.1
            have hs2 : s2.len = qs.length := u2.1
            refine join_i (fun t h' => h' = h10 ∧ (t = false → 0 ≤ act.Box ∧ act.Box < ps.length)) ?_ fun J8 hJ8 => ?_
            · rintro t h' ⟨rfl, hfb⟩
              refine cond_i (fun _ => hJ4 _ _ ⟨bs, cs, xs, o10, wb, wr, fun b hb => by have := hbs b hb; omega⟩) fun et => ?_
              obtain ⟨hb0, hb1⟩ := hfb et
              obtain ⟨k, hk⟩ : ∃ k : Nat, act.Box = k := ⟨act.Box.toNat, by omega⟩
              rw [hk] at hb1 ⊢
              have hkl : k < ps.length := by omega
              have hpk : ps[k]? = some ps[k] := List.getElem?_eq_getElem hkl
              have hqk : qs[k]? = some qs[k] := List.getElem?_eq_getElem (by omega)
              have e1 := wb.1; have e2 := wb.2.1; have e3 := wr.2.1
              refine join_i (fun t h' => t = true ∧ St8 [d1, d2, h1] ps qs (j + 1) h') ?_ fun J7 hJ7 => ?_
              · rintro t h16 ⟨rfl, bs', cs', xs', o16, wb', wr', hbs'⟩
                have f1 := wb'.1; have f2 := wb'.2.1; have f3 := wr'.2.1
                have hbk' : bs'[k]? = some bs'[k] := List.getElem?_eq_getElem (by omega)
                have hck' : cs'[k]? = some cs'[k] := List.getElem?_eq_getElem (by omega)
                have hxk' : xs'[k]? = some xs'[k] := List.getElem?_eq_getElem (by omega)
                have wbk := wb'.2.2 k _ _ _ hpk hbk' hck'
                have wrk := wr'.2.2 k _ _ _ hqk hbk' hxk'
                refine join_i (fun t h' => t = false ∧ h' = h16) ?_ fun J6 hJ6 => ?_
                · rintro t h' ⟨rfl, rfl⟩
                  exact cond_f rfl (hJ4 _ _ ⟨bs', cs', xs', o16, wb', wr', hbs'⟩)
                · refine cond_f rfl ?_
                  refine idx_row u1.row (by omega) (by omega) fun a4 ha4 => idx_row u2.row (by omega) (by omega) fun a5 ha5 => ?_
                  refine load_row u1.row (o16.mem (by simp)) rfl ha4 (i := k) hpk (by simp) ?_
                  refine load_row u2.row (o16.mem (by simp)) rfl ha5 (i := k) hqk (by simp) ?_
                  obtain ⟨bk, e, sl, d, ss, ds, hp6, oc, wd, rr⟩ := wrk
                  have o16x : On h16 (xs' ++ (cs' ++ [d1, d2, h1])) := o16.perm (List.perm_append_comm_assoc _ _ _)
                  have osx := (o16x.at' k hxk').split oc
                  have hqr := rds_row u2.row (o16.mem (show d2 ∈ _ by simp)) rfl ha5 hqk (m := (k : Int).toNat * 1) (by simp)
                  rw [hp6] at hqr ⊢
                  refine load_ob (cd := cSl) (x := sl) osx 0 rfl rfl ?_
                  refine len_ok (o16.at' k hck') wbk ?_
                  refine ⟨⟨hqr, Hp.sub_rds (osx.get (i := 0) rfl) (ob_rds rfl), trivial⟩, ?_⟩
                  refine hJ6 _ _ ⟨?_, rfl⟩
                  rw [wd.1, Owns.len rr]; simp
              · have hbk : bs[k]? = some bs[k] := List.getElem?_eq_getElem (by omega)
                have hck : cs[k]? = some cs[k] := List.getElem?_eq_getElem (by omega)
                have hxk : xs[k]? = some xs[k] := List.getElem?_eq_getElem (by omega)
                have wbk := wb.2.2 k _ _ _ hpk hbk hck
                have wrk := wr.2.2 k _ _ _ hqk hbk hxk
                have hlenk := hbs _ (List.mem_of_getElem? hbk)
                generalize hbe : bs[k] = b at hbk wbk wrk hlenk
                obtain ⟨n, q, sh⟩ := b
                dsimp only at wbk wrk hlenk
                have oc10 := o10.at' k hck
                refine cond_i (fun _ => ?_) fun _ => cond_i (fun _ => ?_) fun _ => cond_i (fun _ => ?_) fun _ => ?_
                · -- put
                  refine idx_row u1.row (by omega) (by omega) fun a4 ha4 => idx_row u2.row (by omega) (by omega) fun a5 ha5 => ?_
                  refine load_row u1.row (o10.mem (by simp)) rfl ha4 (i := k) hpk (by simp) ?_
                  refine load_row u2.row (o10.mem (by simp)) rfl ha5 (i := k) hqk (by simp) ?_
                  obtain ⟨gi, hgi⟩ := List.getElem?_of_mem (show h1 ∈ cs[k] :: (cs.eraseIdx k ++ (xs ++ [d1, d2, h1])) by simp)
                  refine put_ok oc10 wbk hgi rab (by omega) fun c' h19 o19 w19 => ?_
                  refine ⟨⟨rds_row u2.row (o19.mem (show d2 ∈ _ by simp)) rfl ha5 hqk (by simp), trivial⟩, ?_⟩
                  have o19' : On h19 (xs ++ (cs.set k c' ++ [d1, d2, h1])) := (o19.back' (by omega)).perm (List.perm_append_comm_assoc _ _ _)
                  refine rput8_ok (o19'.at' k hxk) wrk (g := h1) (by simp) rab (by omega) (by omega) fun x' h20 o20 w20 => ?_
                  refine hJ7 _ _ ⟨by simp, bs.set k (n, (bif !sh && decide (q.length < n) then q ++ [ab] else q), sh), cs.set k c', xs.set k x', (o20.back' (by omega)).perm (List.perm_append_comm_assoc _ _ _), Boxes.set wb hpk w19, wr.set hqk w20, lens_set hbs ?_⟩
                  cases (!sh && decide (q.length < n)) <;> simp <;> omega
                · -- take
                  refine idx_row u1.row (by omega) (by omega) fun a4 ha4 => ?_
                  refine load_row u1.row (o10.mem (by simp)) rfl ha4 (i := k) hpk (by simp) ?_
                  have o10x : On h' (xs ++ (cs ++ [d1, d2, h1])) := o10.perm (List.perm_append_comm_assoc _ _ _)
                  refine take_ok oc10 wbk (fun hq0 => ?_) fun m q' s dm c' h21 hq1 o21 w21 um => ?_
                  · refine idx_row u2.row (by omega) (by omega) fun a5 ha5 => ?_
                    refine load_row u2.row (o10.mem (by simp)) rfl ha5 (i := k) hqk (by simp) ?_
                    refine rtake8_ok (o10x.at' k hxk) wrk (fun _ => ?_) fun m q' s dm c' h21 hq1 => by rw [hq0] at hq1; cases hq1
                    refine str_row (xs := []) (s := ⟨none, 0, 0⟩) (Row.nil h') (Hp.sub_refl _) (str_row (xs := []) (s := ⟨none, 0, 0⟩) (Row.nil h') (Hp.sub_refl _) ?_)
                    exact cond_t (strEq_self _) (hJ7 _ _ ⟨rfl, bs, cs, xs, o10, wb, wr, fun b hb => by have := hbs b hb; omega⟩)
                  · have o21a : On h21 (dm :: (cs.set k c' ++ (xs ++ [d1, d2, h1]))) := by
                      have := On.back' (i := k) (cs := cs) (l := dm :: (xs ++ [d1, d2, h1])) (o21.perm (List.Perm.cons _ List.perm_middle.symm)) (by omega)
                      exact this.perm List.perm_middle
                    refine idx_row u2.row (by omega) (by omega) fun a5 ha5 => ?_
                    refine load_row u2.row (o21a.mem (by simp)) rfl ha5 (i := k) hqk (by simp) ?_
                    have o21x : On h21 (xs ++ (dm :: (cs.set k c' ++ [d1, d2, h1]))) := (o21a.perm (List.Perm.cons dm (List.perm_append_comm_assoc _ _ _))).perm List.perm_middle.symm
                    refine rtake8_ok (o21x.at' k hxk) wrk (fun hq0 => by rw [hq0] at hq1; cases hq1) fun m2 q2 s2' dm2 x' h22 hq2 o22 w22 um2 => ?_
                    rw [hq1] at hq2; cases hq2
                    refine str_row um.row (o22.mem (by simp)) (str_row um2.row (o22.mem (by simp)) ?_)
                    refine cond_t (strEq_self _) (hJ7 _ _ ⟨by simp, bs.set k (n, q', sh), cs.set k c', xs.set k x', ?_, Boxes.set wb hpk w21, wr.set hqk w22, lens_set hbs ?_⟩)
                    · have o22a : On h22 (x' :: (xs.eraseIdx k ++ (cs.set k c' ++ [d1, d2, h1]))) := o22.sublist (List.Sublist.cons_cons _ (List.Sublist.cons _ (List.Sublist.append (List.Sublist.refl _) (List.sublist_cons_self _ _))))
                      exact (o22a.back' (by omega)).perm (List.perm_append_comm_assoc _ _ _)
                    · rw [hq1] at hlenk; simp at hlenk; dsimp only; omega
                · -- shut
                  refine idx_row u1.row (by omega) (by omega) fun a4 ha4 => ?_
                  refine load_row u1.row (o10.mem (by simp)) rfl ha4 (i := k) hpk (by simp) ?_
                  refine shut_ok oc10 wbk fun c' h23 o23 w23 => ?_
                  have o23' : On h23 (xs ++ (cs.set k c' ++ [d1, d2, h1])) := (o23.back' (by omega)).perm (List.perm_append_comm_assoc _ _ _)
                  refine idx_row u2.row (by omega) (by omega) fun a5 ha5 => ?_
                  refine load_row u2.row (o23'.mem (by simp)) rfl ha5 (i := k) hqk (by simp) ?_
                  obtain ⟨bk, e, sl, d, ss, ds, hp6, oc, wd, rr⟩ := wrk
                  dsimp only at oc rr
                  rw [hp6]
                  refine store_ob (cd := cB) (i := 2) (vs' := [sv sl, .int .i64 (n : Nat), .bool true]) ((o23'.at' k hxk).split oc) rfl rfl (Nat.le_refl 3) fun h24 o24 => ?_
                  have o24' : On h24 ((ob bk [sv sl, .int .i64 (n : Nat), .bool true] e :: d :: ds) ++ (xs.eraseIdx k ++ (cs.set k c' ++ [d1, d2, h1]))) := o24
                  obtain ⟨o25, o26⟩ := o24'.joined
                  refine hJ7 _ _ ⟨rfl, bs.set k (n, q, true), cs.set k c', xs.set k _, (o25.back' (by omega)).perm (List.perm_append_comm_assoc _ _ _), Boxes.set wb hpk w23, wr.set hqk ⟨bk, e, sl, d, ss, ds, hp6, o26, wd, rr⟩, lens_set hbs ?_⟩
                  dsimp only; omega
                · exact hJ7 _ _ ⟨rfl, bs, cs, xs, o10, wb, wr, fun b hb => by have := hbs b hb; omega⟩
            · refine cond_d (fun _ => hJ8 _ _ ⟨rfl, fun h => by cases h⟩) fun e1 => ?_
              refine hJ8 _ _ ⟨rfl, fun h => ⟨by omega, ?_⟩⟩
              have h := of_decide_eq_false h
              dsimp only at h
              omega
      · exact known8_ok o10 fun h25 o25 => ⟨rfl, o25.mem (by simp)⟩
  · have := r0.1
    have := r1.1
    refine cond_d (fun _ => hJ _ _ ⟨rfl, fun h => by cases h⟩) fun e1 => ?_
    refine hJ _ _ ⟨rfl, fun h => ⟨by omega, ?_⟩⟩
    have h := of_decide_eq_false h
    omega

theorem acts8_of {W : World} {s : Sl} (h : Opn Try.prog W 68 [.slice s.a s.len s.cap]) : ∃ acs : List L8Act, Row cL8Act (hpOf W) s acs ∧ Acts8 (hpOf W) acs := by
  obtain ⟨_, _, _, xs, hr, hx⟩ := open_row (d := 4) (e := 73) (ls := [(.i .i64, 3), (.i .i64, 3), (.sl, 23)]) (cd := cL8Act) (fun x => ⟨x.1, x.2.1, x.2.2⟩) (fun _ => rfl) h (by kernel_rfl) (by kernel_rfl) (by kernel_rfl)
  refine ⟨xs, hr, fun a ha => ?_⟩
  obtain ⟨y, rfl, _, _, h3⟩ := hx a ha
  obtain ⟨bs, hb, _⟩ := bytes_of (s := y.2.2) h3
  exact ⟨bs, hb⟩
theorem ints_of {W : World} {s : Sl} (h : Opn Try.prog W 67 [.slice s.a s.len s.cap]) : ∃ qs : List Int, Row (cI .i64) (hpOf W) s qs := by
  obtain ⟨_, _, _, xs, hr, hx⟩ := open_row (d := 3) (e := 3) (ls := [(.i .i64, 3)]) (cd := cI .i64) id (fun _ => rfl) h (by kernel_rfl) (by kernel_rfl) (by kernel_rfl)
  exact ⟨xs, hr⟩
theorem mailPlays_law (W : World) (p0 p1 : Sl) (o0 : Opn Try.prog W 67 [.slice p0.a p0.len p0.cap]) (o1 : Opn Try.prog W 68 [.slice p1.a p1.len p1.cap]) : F12 p0 p1 (hpOf W) (Lawful (hpOf W)) := by
  obtain ⟨rs, h0⟩ := ints_of o0
  obtain ⟨acs, h1, h2⟩ := acts8_of o1
  exact plays8_ok h0 h1 h2
end Go.Proofs.Ytplfogbgobkcfaa
