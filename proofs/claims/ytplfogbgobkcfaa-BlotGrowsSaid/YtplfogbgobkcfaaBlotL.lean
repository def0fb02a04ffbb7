/- Chapter 21: the laws. -/
import Derived.Test.YtplfogbgobkcfaaBlotP
set_option linter.unusedVariables false
namespace Go.Proofs.Ytplfogbgobkcfaa
open Go.Eng

theorem plays21_ok {g : Hp} {p0 : Sl} {ts : List Trade} (r : Row cTrade g p0 ts) (ht : ∀ t ∈ ts, TradeOk t) : F14 p0 g (Lawful g) := by
  unfold F14
  refine cond_d (fun _ => ⟨rfl, Hp.sub_refl _⟩) fun hle100 => ?_
  have hlen : ts.length ≤ 100 := by have := r.1; omega
  refine bnew_ok (On.self g) fun p c h1 o1 w1 => ?_
  refine alloc_ob o1 fun k1 h2 o2 => ?_
  have o2' : On h2 ([ob k1 [Value.slice none 0 0] 85, Hp.emp] ++ [c, g]) := o2.emp.swap
  obtain ⟨o3, o4⟩ := o2'.joined
  have x0 : IsRef21 (some ⟨k1, 0, none⟩) [] (allOf [ob k1 [Value.slice none 0 0] 85, Hp.emp]) := ⟨k1, 85, ⟨none, 0, 0⟩, Hp.emp, rfl, o4, Own.nil _⟩
  refine loop_i (fun z h' => ∃ (i : Nat) (c x : Hp) (all : List Trade), z = i ∧ i ≤ ts.length ∧ all.length = i ∧ (∀ t ∈ all, TradeOk t) ∧ On h' [c, x, g] ∧ IsBlot p all c ∧ IsRef21 (some ⟨k1, 0, none⟩) all x) (fun z => ts.length - z.toNat)
    ⟨0, c, _, [], rfl, Nat.zero_le _, rfl, (fun t ht => by cases ht), o3.swap, w1, x0⟩ ?_
  rintro J1 z h3 again ⟨i, c3, x3, all, rfl, hle, hall, hok, o3, w3, v3⟩
  have hp : p.isNone = false := by obtain ⟨b, _, _, _, rfl, _⟩ := w3; rfl
  refine join_i (fun t h4 => h4 = h3 ∧ t = decide ((i : Int) < p0.len)) ?_ fun J3 hJ3 => ?_
  · rintro t h4 ⟨rfl, rfl⟩
    refine cond_d (fun hlt => ?_) fun hge => ?_
    · rw [r.1] at hlt
      have hlt : i < ts.length := by omega
      have hi : ts[i]? = some ts[i] := List.getElem?_eq_getElem hlt
      have hti := ht _ (List.mem_of_getElem? hi)
      have hg : g.sub h4 := o3.get (i := 2) rfl
      refine join_i (fun t h5 => t = false ∧ ∃ (c x : Hp) (all : List Trade), all.length = i + 1 ∧ (∀ t ∈ all, TradeOk t) ∧ On h5 [c, x, g] ∧ IsBlot p all c ∧ IsRef21 (some ⟨k1, 0, none⟩) all x) ?_ fun J2 hJ2 => ?_
      · rintro t h5 ⟨rfl, c5, x5, all5, ha5, hok5, o5, w5, v5⟩
        refine cond_f rfl ?_
        exact again _ _ ⟨i + 1, c5, x5, all5, w64n (by omega), by omega, ha5, hok5, o5, w5, v5⟩ (by rw [w64n (by omega)]; omega)
      · refine idx_row r (by omega) (by omega) fun a ha => idx_row r (by omega) (by omega) fun a2 ha2 => ?_
        refine load_row r hg rfl ha (i := i) hi (by simp) ?_
        refine load_row r hg rfl ha2 (i := i) hi (by simp) ?_
        refine badd_ok o3 w3 (by omega) hti fun c6 h6 o6 w6 => ?_
        refine ⟨⟨rds_row r (o6.get (i := 2) rfl) rfl ha2 hi (by simp), trivial⟩, ?_⟩
        refine rbadd_ok o6.swap v3 (by omega) fun x7 h7 o7 v7 => ?_
        refine cond_f (by simp) ?_
        refine bhead_ok o7.swap w6 ?_
        have hok7 : ∀ t ∈ all ++ [setId (all.length + 1 : Nat) ts[i]], TradeOk t := by
          intro t h
          rcases List.mem_append.1 h with h | h
          · exact hok t h
          · rw [List.mem_singleton] at h; subst h
            exact setId_ok (by unfold I64; omega) hti
        refine rhead_ok o7 v7 hok7 (by simp; omega) fun h8 o8 => ?_
        refine hJ2 _ _ ⟨by simp, c6, x7, _, by simp [hall], hok7, o8.swap, w6, v7⟩
    · refine cond_t (by rw [hp]; rfl) ?_
      have v3' := v3
      obtain ⟨b, e, sl, d, hb, oc, wd⟩ := v3
      cases hb
      refine load_ob (cd := cSl) (x := sl) (o3.swap.split oc) 0 rfl rfl ?_
      refine blist_ok o3 w3 (by omega) fun s5 d5 h5 o5 w5 => ?_
      have o5' := (o5.pull 2 rfl).split oc
      refine ⟨⟨Hp.sub_rds (o5'.get (i := 0) rfl) (ob_rds rfl), trivial⟩, ?_⟩
      refine same21_ok (o5.get (i := 0) rfl) (o5'.get (i := 1) rfl) w5.row wd.row (by omega) ?_
      refine cond_t rfl ?_
      exact known21_ok o5 fun h9 o9 => ⟨rfl, o9.mem (by simp)⟩
  · refine cond_t (by rw [hp]; rfl) ?_
    exact hJ3 _ _ ⟨rfl, rfl⟩

theorem headV_take_len (ts : List Trade) : headV (ts.take ts.length) = headV ts := by rw [List.take_length]

theorem heads21_ok {g : Hp} {p0 : Sl} {ts : List Trade} (r : Row cTrade g p0 ts) (ht : ∀ t ∈ ts, TradeOk t) : F15 p0 g (Lawful g) := by
  unfold F15
  refine cond_d (fun _ => ⟨rfl, Hp.sub_refl _⟩) fun hle60 => ?_
  have hlen : ts.length ≤ 60 := by have := r.1; omega
  refine heads_ok (On.self g) (List.mem_cons_self ..) r ht (by omega) fun s1 d1 h1 o1 w1 => ?_
  refine rheads_ok o1 (g := g) (by simp) r ht (by omega) fun s2 d2 h2 o2 w2 => ?_
  have l1 := w1.1
  have l2 := w2.1
  rw [headsV_len] at l1 l2
  refine cond_f (by simp [l1, l2]) ?_
  refine loop_i (fun z h' => ∃ (i : Nat), z = i ∧ i ≤ ts.length ∧ On h' [d2, d1, g]) (fun z => ts.length - z.toNat) ⟨0, rfl, Nat.zero_le _, o2⟩ ?_
  rintro J1 z h3 again ⟨i, rfl, hle, o3⟩
  refine cond_d (fun hlt => ?_) fun _ => ?_
  · have hlt : i < ts.length := by omega
    have hi : ts[i]? = some ts[i] := List.getElem?_eq_getElem hlt
    have hti := ht _ (List.mem_of_getElem? hi)
    have hg : g.sub h3 := o3.get (i := 2) rfl
    refine join_i (fun t h5 => t = false ∧ On h5 [d2, d1, g]) ?_ fun J2 hJ2 => ?_
    · rintro t h5 ⟨rfl, o5⟩
      refine cond_f rfl ?_
      exact again _ _ ⟨i + 1, w64n (by omega), by omega, o5⟩ (by rw [w64n (by omega)]; omega)
    · refine idx_row w1.row (by omega) (by rw [headsV_len]; omega) fun a ha => idx_row w2.row (by omega) (by rw [headsV_len]; omega) fun a2 ha2 => ?_
      refine load_row w1.row (o3.get (i := 1) rfl) rfl ha (i := i) (headsV_get ts hlt) (by simp) ?_
      refine load_row w2.row (o3.get (i := 0) rfl) rfl ha2 (i := i) (headsV_get ts hlt) (by simp) ?_
      refine cond_f (by simp) ?_
      refine idx_row r (by omega) (by omega) fun a ha => idx_row r (by omega) (by omega) fun a2 ha2 => ?_
      refine load_row r hg rfl ha (i := i) hi (by simp) ?_
      refine load_row r hg rfl ha2 (i := i) hi (by simp) ?_
      refine bytes21_ok o3 hti fun s5 d5 h5 o5 w5 => ?_
      refine ⟨⟨rds_row r (o5.get (i := 3) rfl) rfl ha2 hi (by simp), trivial⟩, ?_⟩
      refine str_row w5.row (o5.get (i := 0) rfl) ?_
      refine rbytes21_ok o5 hti fun s6 d6 h6 o6 w6 => ?_
      refine ⟨⟨str_row w5.row (o6.get (i := 1) rfl) rfl, trivial⟩, ?_⟩
      refine str_row w6.row (o6.get (i := 0) rfl) ?_
      refine hJ2 _ _ ⟨by rw [strEq_self]; rfl, o6.tail.tail⟩
  · refine bnew_ok o3 fun p c h4 o4 w4 => ?_
    refine loop_i (fun z h' => ∃ (i : Nat) (c : Hp) (all : List Trade), z = i ∧ i ≤ ts.length ∧ all.length = i ∧ (∀ t ∈ all, TradeOk t) ∧ On h' [c, d2, d1, g] ∧ IsBlot p all c) (fun z => ts.length - z.toNat)
      ⟨0, c, [], rfl, Nat.zero_le _, rfl, (fun t ht => by cases ht), o4, w4⟩ ?_
    rintro J3 z h5 again2 ⟨i, c5, all, rfl, hle, hall, hok, o5, w5⟩
    have hp : p.isNone = false := by obtain ⟨b, _, _, _, rfl, _⟩ := w5; rfl
    refine join_i (fun t h4 => h4 = h5 ∧ t = decide ((i : Int) < p0.len)) ?_ fun J5 hJ5 => ?_
    · rintro t h4 ⟨rfl, rfl⟩
      refine cond_d (fun hlt => ?_) fun hge => ?_
      · rw [r.1] at hlt
        have hlt : i < ts.length := by omega
        have hi : ts[i]? = some ts[i] := List.getElem?_eq_getElem hlt
        have hti := ht _ (List.mem_of_getElem? hi)
        refine idx_row r (by omega) (by omega) fun a ha => load_row r (o5.get (i := 3) rfl) rfl ha (i := i) hi (by simp) ?_
        refine badd_ok o5 w5 (by omega) hti fun c6 h6 o6 w6 => ?_
        refine again2 _ _ ⟨i + 1, c6, _, w64n (by omega), by omega, by simp [hall], ?_, o6, w6⟩ (by rw [w64n (by omega)]; omega)
        intro t h
        rcases List.mem_append.1 h with h | h
        · exact hok t h
        · rw [List.mem_singleton] at h; subst h
          exact setId_ok (by unfold I64; omega) hti
      · have hin : i = ts.length := by have := r.1; omega
        refine blist_ok o5 w5 (by omega) fun s5 d5 h6 o6 w6 => ?_
        refine heads_ok o6 (g := d5) (by simp) w6.row hok (by omega) fun s6 d6 h7 o7 w7 => ?_
        have l6 := w7.1
        rw [headsV_len] at l6
        have l0 := r.1
        refine cond_f (by simp [l6, l0]; omega) ?_
        refine blist_ok (o7.pull 2 rfl) w5 (by omega) fun s7 d7 h8 o8 w8 => ?_
        have l7 := w8.1
        refine cond_f (by simp [l6, l7]) ?_
        -- d7, c5, d6, d5, d2, d1, g
        refine loop_i (fun z h' => ∃ (j : Nat), z.2 = j ∧ j ≤ all.length ∧ z.1 = headV (all.take j) ∧ On h' [d7, c5, d6, d5, d2, d1, g]) (fun z => all.length - z.2.toNat) ⟨0, rfl, Nat.zero_le _, rfl, o8⟩ ?_
        rintro J4 ⟨x, z⟩ h9 again3 ⟨j, hj, hjl, hx, o9⟩
        dsimp only at hj hx
        subst hj hx
        refine cond_d (fun hlt => ?_) fun hge2 => ?_
        · dsimp only at hlt
          have hlt : j < all.length := by omega
          have hi : all[j]? = some all[j] := List.getElem?_eq_getElem hlt
          have hti := hok _ (List.mem_of_getElem? hi)
          refine idx_row w8.row (by omega) (by omega) fun a ha => load_row w8.row (o9.get (i := 0) rfl) rfl ha (i := j) hi (by simp) ?_
          refine rbytes21_ok o9 hti fun s10 d10 h10 o10 w10 => ?_
          refine rchain_ok (o10.get (i := 0) rfl) w10.row (by have := tb_len hti; omega) ?_
          rw [← headV_take hi]
          refine idx_row w7.row (by omega) (by rw [headsV_len]; omega) fun a ha => load_row w7.row (o10.get (i := 3) rfl) rfl ha (i := j) (headsV_get all hlt) (by simp) ?_
          refine cond_f (by simp) ?_
          exact again3 _ _ ⟨j + 1, w64n (by omega), by omega, rfl, o10.tail⟩ (by dsimp only; rw [w64n (by omega)]; omega)
        · dsimp only at hge2
          have : j = all.length := by omega
          subst this
          refine cond_t (by rw [hp]; rfl) ?_
          refine bhead_ok o9.swap w5 ?_
          refine cond_t (by simp) (bhead_nil (cond_t rfl (blist_nil (cond_t rfl ?_))))
          refine badd_nil (t := ⟨0, 0, 0, 0, 1, 0, 0, 0⟩) (cond_t rfl ?_)
          exact known21_ok o9 fun h11 o11 => ⟨rfl, o11.mem (by simp)⟩
    · exact cond_t (by rw [hp]; rfl) (hJ5 _ _ ⟨rfl, rfl⟩)

theorem headV_cut (ts : List Trade) {i c : Nat} (h : i < c) : headV ((ts.take c).take (i + 1)) = headV (ts.take (i + 1)) := by
  rw [List.take_take, Nat.min_eq_left (by omega)]

theorem grows21_ok {g : Hp} {p0 : Sl} {p1 : Int} {ts : List Trade} (r : Row cTrade g p0 ts) (ht : ∀ t ∈ ts, TradeOk t) (hcap : ts.length ≤ p0.cap) : F16 p0 p1 g (Lawful g) := by
  unfold F16
  refine join_i (fun t h1 => h1 = g ∧ (t = false → ts.length ≤ 40 ∧ 0 ≤ p1 ∧ p1 ≤ ts.length)) ?_ fun J hJ => ?_
  · rintro t h1 ⟨rfl, hf⟩
    refine cond_i (fun _ => ⟨rfl, Hp.sub_refl _⟩) fun e => ?_
    obtain ⟨hl, h0, hc⟩ := hf e
    obtain ⟨c, rfl⟩ : ∃ c : Nat, p1 = c := ⟨p1.toNat, by omega⟩
    refine ⟨by omega, by omega, ?_⟩
    refine heads_ok (On.self h1) (List.mem_cons_self ..) r ht (by omega) fun s1 d1 h2 o2 w2 => ?_
    have r2 : Row cTrade h1 ⟨cutA p0.a 0 p0.cap 8, (c : Int).toNat - 0, p0.cap - 0⟩ (ts.take c) := by
      have := r.cut (k := 0) (m := c) (cap' := p0.cap - 0) (by omega) (by omega) hcap rfl (z := 8) rfl
      simpa using this
    refine heads_ok (p0 := ⟨cutA p0.a 0 p0.cap 8, (c : Int).toNat - 0, p0.cap - 0⟩) o2 (g := h1) (by simp) r2 (fun t h => ht t (List.mem_of_mem_take h)) (by simp; omega) fun s2 d2 h3 o3 w3 => ?_
    have l1 := w2.1
    have l2 := w3.1
    rw [headsV_len] at l1 l2
    rw [List.length_take, Nat.min_eq_left (by omega)] at l2
    have hw3 : Own (cI .u64) d2 s2 (headsV (ts.take c) c) := by
      have := w3
      rwa [List.length_take, Nat.min_eq_left (by omega)] at this
    refine join_i (fun t h4 => h4 = h3 ∧ t = false) ?_ fun J2 hJ2 => ?_
    · rintro t h4 ⟨rfl, rfl⟩
      refine cond_f rfl ?_
      refine loop_i (fun z h' => ∃ (i : Nat), z = i ∧ i ≤ c ∧ h' = h4) (fun z => c - z.toNat) ⟨0, rfl, Nat.zero_le _, rfl⟩ ?_
      rintro J1 z h5 again ⟨i, rfl, hle, rfl⟩
      refine cond_d (fun hlt => ?_) fun _ => ?_
      · have hlt : i < c := by omega
        refine idx_row w2.row (by omega) (by rw [headsV_len]; omega) fun a ha => idx_row hw3.row (by omega) (by rw [headsV_len]; omega) fun a2 ha2 => ?_
        refine load_row w2.row (o3.get (i := 1) rfl) rfl ha (i := i) (headsV_get ts (by omega)) (by simp) ?_
        refine load_row hw3.row (o3.get (i := 0) rfl) rfl ha2 (i := i) (headsV_get (ts.take c) hlt) (by simp) ?_
        refine cond_f (by rw [headV_cut ts hlt]; simp) ?_
        exact again _ _ ⟨i + 1, w64n (by omega), by omega, rfl⟩ (by rw [w64n (by omega)]; omega)
      · exact known21_ok o3 fun h9 o9 => ⟨rfl, o9.mem (by simp)⟩
    · have l0 := r.1
      refine cond_f (by simp [l1, l0]) (hJ2 _ _ ⟨rfl, by simp [l2]⟩)
  · have l0 := r.1
    refine cond_d (fun _ => hJ _ _ ⟨rfl, fun h => by cases h⟩) fun e1 => ?_
    refine cond_d (fun _ => hJ _ _ ⟨rfl, fun h => by cases h⟩) fun e2 => ?_
    refine hJ _ _ ⟨rfl, fun h => ⟨by omega, by omega, ?_⟩⟩
    have h := of_decide_eq_false h
    omega

theorem wfI64 {n : Int} (h : (Lit.int .i64 n).wf = true) : I64 n := by
  simp [Lit.wf, IntKind.min, IntKind.max, IntKind.signed, IntKind.bits] at h
  unfold I64; omega
theorem trades_of {W : World} {s : Sl} (h : Opn Try.prog W 80 [.slice s.a s.len s.cap]) : ∃ ts : List Trade, Row cTrade (hpOf W) s ts ∧ (∀ t ∈ ts, TradeOk t) ∧ ts.length ≤ s.cap := by
  obtain ⟨h1, _, _, xs, hr, hx⟩ := open_row (d := 4) (e := 87) (ls := [(.i .i64, 2), (.i .i64, 3), (.i .i64, 3), (.i .i64, 3), (.i .i64, 2), (.i .i64, 2), (.i .i64, 2), (.i .i64, 2)]) (cd := cTrade)
    (fun x => ⟨x.1, x.2.1, x.2.2.1, x.2.2.2.1, x.2.2.2.2.1, x.2.2.2.2.2.1, x.2.2.2.2.2.2.1, x.2.2.2.2.2.2.2⟩) (fun _ => rfl) h (by kernel_rfl) (by kernel_rfl) (by kernel_rfl)
  refine ⟨xs, hr, fun t hm => ?_, by have hl : s.len = xs.length := hr.1; omega⟩
  obtain ⟨y, rfl, h0, h1, h2, h3, h4, h5, h6, h7⟩ := hx t hm
  intro n hn
  have hn' : n = y.1 ∨ n = y.2.1 ∨ n = y.2.2.1 ∨ n = y.2.2.2.1 ∨ n = y.2.2.2.2.1 ∨ n = y.2.2.2.2.2.1 ∨ n = y.2.2.2.2.2.2.1 ∨ n = y.2.2.2.2.2.2.2 := by simpa [tfs] using hn
  rcases hn' with rfl | rfl | rfl | rfl | rfl | rfl | rfl | rfl
  · exact wfI64 h0
  · exact wfI64 h1
  · exact wfI64 h2
  · exact wfI64 h3
  · exact wfI64 h4
  · exact wfI64 h5
  · exact wfI64 h6
  · exact wfI64 h7
theorem blotPlays_law (W : World) (p0 : Sl) (o0 : Opn Try.prog W 80 [.slice p0.a p0.len p0.cap]) : F14 p0 (hpOf W) (Lawful (hpOf W)) := by
  obtain ⟨ts, h0, h1, _⟩ := trades_of o0
  exact plays21_ok h0 h1
theorem blotHeads_law (W : World) (p0 : Sl) (o0 : Opn Try.prog W 80 [.slice p0.a p0.len p0.cap]) : F15 p0 (hpOf W) (Lawful (hpOf W)) := by
  obtain ⟨ts, h0, h1, _⟩ := trades_of o0
  exact heads21_ok h0 h1
theorem blotGrows_law (W : World) (p0 : Sl) (p1 : Int) (o0 : Opn Try.prog W 80 [.slice p0.a p0.len p0.cap]) (_o1 : Opn Try.prog W 3 [.int .i64 p1]) : F16 p0 p1 (hpOf W) (Lawful (hpOf W)) := by
  obtain ⟨ts, h0, h1, h2⟩ := trades_of o0
  exact grows21_ok h0 h1 h2
end Go.Proofs.Ytplfogbgobkcfaa
