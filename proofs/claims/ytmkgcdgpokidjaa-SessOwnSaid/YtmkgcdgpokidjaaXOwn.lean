import Derived.Test.YtmkgcdgpokidjaaXSess
set_option linter.unusedVariables false
/- Chapter 10: a session's own messages. -/
namespace Go.Proofs.Ytmkgcdgpokidjaa
open Go.Eng

def tableM : List Msg := [⟨2, 0, 0, 0, 0, 0, 0⟩, ⟨3, 0, 0, 0, 0, 0, 0⟩, ⟨4, 1, 0, 0, 0, 0, 0⟩, ⟨4, 9, 0, 0, 0, 0, 0⟩, ⟨5, 0, 0, 0, 0, 0, 0⟩, ⟨1, 2, 0, 0, 0, 0, 0⟩, ⟨1, 9, 0, 0, 0, 0, 0⟩, ⟨18, 1, 1, 0, 0, 0, 0⟩, ⟨12, 1, 0, 0, 0, 0, 0⟩]
def tableK : List Int := [0, 2, 27, 5, 0, 1, 0, 0, 0]
def tableB : List Bool := [false, false, false, true, true, false, true, false, false]
def oneF : Frame := mkF ((1 : Nat) : Int) ⟨27, 5, 0, 0, 0, 0, 0⟩
def ownS : SS := ⟨9, true, 1, [oneF], 0, 0, 0⟩
/-- What each of them brings. -/
def Brings (m : Msg) (k : Int) (dn : Bool) : Prop :=
  ∃ (t : SS) (fs : List Frame), takeV ownS (mkF 0 m) = (t, fs, zeroM, false, dn) ∧ t.up = !dn ∧ t.want = 1 ∧ t.all.length ≤ 1 ∧ ((k = 0 ∧ fs = []) ∨ (k ≠ 0 ∧ ∃ f, fs = [f] ∧ f.Msg_Kind = k))
theorem gone_9 : Gone ownS.all.length 9 := by unfold Gone; simp [ownS]
theorem gone_1 : ¬ Gone ownS.all.length 1 := by unfold Gone; simp [ownS]
theorem gone_2 : ¬ Gone ownS.all.length 2 := by unfold Gone; simp [ownS]
theorem take_own {m : Msg} (h : m.Kind ≠ 1) : takeV ownS (mkF 0 m) = ((sesV ownS m.Kind m.F_0).1, (sesV ownS m.Kind m.F_0).2.1, zeroM, false, (sesV ownS m.Kind m.F_0).2.2) := by
  unfold takeV
  rw [if_neg (show ¬ ((mkF 0 m).Seq = 0 ∧ (mkF 0 m).Msg_Kind = 1) from fun hh => h hh.2), if_neg (show ¬ (ownS.up = false) by simp [ownS]), if_pos (show (mkF 0 m).Seq = 0 from rfl)]
  rfl
theorem ses_else {k v : Int} (h3 : k ≠ 3) (h4 : k ≠ 4) (h5 : k ≠ 5) : sesV ownS k v = (ownS, [], false) := by
  unfold sesV
  rw [if_neg h3, if_neg h4, if_neg h5]
theorem brings {n : Nat} {m : Msg} {k : Int} {dn : Bool} (h1 : tableM[n]? = some m) (h2 : tableK[n]? = some k) (h3 : tableB[n]? = some dn) : Brings m k dn := by
  match n, h1, h2, h3 with
  | 0, h1, h2, h3 =>
    cases h1; cases h2; cases h3
    exact ⟨ownS, [], by rw [take_own (by decide), ses_else (by decide) (by decide) (by decide)], rfl, rfl, Nat.le_refl 1, .inl ⟨rfl, rfl⟩⟩
  | 1, h1, h2, h3 =>
    cases h1; cases h2; cases h3
    exact ⟨ownS, [ownF 2 0], by rw [take_own (by decide)]; rfl, rfl, rfl, Nat.le_refl 1, .inr ⟨by decide, _, rfl, rfl⟩⟩
  | 2, h1, h2, h3 =>
    cases h1; cases h2; cases h3
    refine ⟨ownS, [oneF], ?_, rfl, rfl, Nat.le_refl 1, .inr ⟨by decide, _, rfl, rfl⟩⟩
    rw [take_own (by decide)]
    have : sesV ownS 4 1 = (ownS, [oneF], false) := by
      unfold sesV
      rw [if_neg (by decide), if_pos rfl, if_neg gone_1]; rfl
    rw [this]
  | 3, h1, h2, h3 =>
    cases h1; cases h2; cases h3
    refine ⟨{ ownS with up := false }, [ownF 5 0], ?_, rfl, rfl, Nat.le_refl 1, .inr ⟨by decide, _, rfl, rfl⟩⟩
    rw [take_own (by decide)]
    have : sesV ownS 4 9 = ({ ownS with up := false }, [ownF 5 0], true) := by
      unfold sesV
      rw [if_neg (by decide), if_pos rfl, if_pos gone_9]
    rw [this]
  | 4, h1, h2, h3 =>
    cases h1; cases h2; cases h3
    refine ⟨{ ownS with up := false }, [], ?_, rfl, rfl, Nat.le_refl 1, .inl ⟨rfl, rfl⟩⟩
    rw [take_own (by decide)]
    have : sesV ownS 5 0 = ({ ownS with up := false }, [], true) := by
      unfold sesV
      rw [if_neg (by decide), if_neg (by decide), if_pos rfl]
    rw [this]
  | 5, h1, h2, h3 =>
    cases h1; cases h2; cases h3
    refine ⟨ownS, [ownF 1 1], ?_, rfl, rfl, Nat.le_refl 1, .inr ⟨by decide, _, rfl, rfl⟩⟩
    show takeV ownS (logF 2) = _
    rw [take_logv, log_on gone_2]; rfl
  | 6, h1, h2, h3 =>
    cases h1; cases h2; cases h3
    refine ⟨{ ownS with up := false }, [], ?_, rfl, rfl, Nat.le_refl 1, .inl ⟨rfl, rfl⟩⟩
    show takeV ownS (logF 9) = _
    rw [take_logv, show logV ownS 9 = ({ ownS with up := false }, []) from if_pos gone_9]; rfl
  | 7, h1, h2, h3 =>
    cases h1; cases h2; cases h3
    exact ⟨ownS, [], by rw [take_own (by decide), ses_else (by decide) (by decide) (by decide)], rfl, rfl, Nat.le_refl 1, .inl ⟨rfl, rfl⟩⟩
  | 8, h1, h2, h3 =>
    cases h1; cases h2; cases h3
    exact ⟨ownS, [], by rw [take_own (by decide), ses_else (by decide) (by decide) (by decide)], rfl, rfl, Nat.le_refl 1, .inl ⟨rfl, rfl⟩⟩
  | n + 9, h1, _, _ => cases h1
theorem ofN_nil {k : Int} {h : Hp} {l : List Hp} (o : On h l) {K : Msg → Hp → Prop} (hK : K ⟨k, 0, 0, 0, 0, 0, 0⟩ h) : callP Try.prog 86 [Value.int .i64 k, Value.slice none 0 0] cMsg h K := of5_ok (p := ⟨none, 0, 0⟩) (g := h) (ns := []) (Hp.sub_refl h) (Row.nil h) hK
theorem of1_two {k v w : Int} {h : Hp} {l : List Hp} (o : On h l) {K : Msg → Hp → Prop} (hK : ∀ h', On h' l → K ⟨k, v, w, 0, 0, 0, 0⟩ h') :
    allocP (Obj.cells { toList := [Value.int .i64 v, Value.int .i64 w] } 2) h fun k1 h9 => callP Try.prog 86 [Value.int .i64 k, Value.slice (some { block := k1, off := 0 }) 2 2] cMsg h9 K := by
  refine alloc_ob o fun k1 h3 o3 => ?_
  have r1 : Row (cI .i64) (ob k1 [Value.int .i64 v, Value.int .i64 w] 2) ⟨some ⟨k1, 0, none⟩, 2, 2⟩ [v, w] := row_ob rfl rfl
  exact of5_ok (p := ⟨some ⟨k1, 0, none⟩, 2, 2⟩) (o3.mem (by simp)) r1 (hK h3 o3.tail)
theorem own10 {g : Hp} {p0 : Int} : F36 p0 g (Lawful g) := by
  unfold F36
  have o0 := On.self g
  refine ofN_nil o0 (ofN_nil o0 ?_)
  refine of1_one o0 fun h4 o4 => of1_one o4 fun h6 o6 => ofN_nil o6 ?_
  refine of1_one o6 fun h9 o9 => of1_one o9 fun h11 o11 => of1_two o11 fun h13 o13 => of1_one o13 fun h15 o15 => ?_
  refine alloc_ob o15 fun k7 h16 o16' => ?_
  have o16 : On h16 (ob k7 (cellsL cMsg tableM) 46 :: g :: []) := o16'
  clear o16'
  refine alloc_ob o16 fun k8 h17 o17' => ?_
  have o17 : On h17 (ob k8 (cellsL (cI .i64) tableK) 3 :: ob k7 (cellsL cMsg tableM) 46 :: g :: []) := o17'
  clear o17'
  refine alloc_ob o17 fun k9 h18 o18' => ?_
  have o18 : On h18 (ob k9 (cellsL cB tableB) 4 :: ob k8 (cellsL (cI .i64) tableK) 3 :: ob k7 (cellsL cMsg tableM) 46 :: g :: []) := o18'
  clear o18'
  have rM : Row cMsg (ob k7 (cellsL cMsg tableM) 46) ⟨some ⟨k7, 0, none⟩, 9, 9⟩ tableM := row_ob (b := k7) (e := 46) (cd := cMsg) (xs := tableM) rfl rfl
  have rK : Row (cI .i64) (ob k8 (cellsL (cI .i64) tableK) 3) ⟨some ⟨k8, 0, none⟩, 9, 9⟩ tableK := row_ob (b := k8) (e := 3) (cd := cI .i64) (xs := tableK) rfl rfl
  have rB : Row cB (ob k9 (cellsL cB tableB) 4) ⟨some ⟨k9, 0, none⟩, 9, 9⟩ tableB := row_ob (b := k9) (e := 4) (cd := cB) (xs := tableB) rfl rfl
  refine join_i (fun t h' => h' = h18 ∧ (t = false → 0 ≤ p0 ∧ p0 < 9)) ?_ fun J2 hJ2 => ?_
  · rintro t h19 ⟨rfl, hf⟩
    refine cond_i (fun _ => ⟨rfl, o18.mem (by simp)⟩) fun e => ?_
    obtain ⟨ha, hb⟩ := hf e
    clear hf
    obtain ⟨n, rfl⟩ : ∃ n : Nat, p0 = n := ⟨p0.toNat, by omega⟩
    have hn : n < 9 := by omega
    have a0 : tableM[n]? = some tableM[n] := List.getElem?_eq_getElem (show n < tableM.length from hn)
    have a1 : tableK[n]? = some tableK[n] := List.getElem?_eq_getElem (show n < tableK.length from hn)
    have a2 : tableB[n]? = some tableB[n] := List.getElem?_eq_getElem (show n < tableB.length from hn)
    generalize tableM[n] = m at a0
    generalize tableK[n] = k at a1
    generalize tableB[n] = dn at a2
    have hI : I64 m.F_0 := by
      have : ∀ x ∈ tableM, I64 x.F_0 := by
        intro x hx
        simp only [tableM, List.mem_cons, List.not_mem_nil, or_false] at hx
        unfold I64
        rcases hx with rfl | rfl | rfl | rfl | rfl | rfl | rfl | rfl | rfl <;> exact ⟨by decide, by decide⟩
      exact this m (List.mem_of_getElem? a0)
    obtain ⟨t, fs, ht, hup, hwant, hall, hfs⟩ := brings a0 a1 a2
    refine new10_ok o18 (fun h => by omega) fun _ _ p c h20 o20 w20 => ?_
    refine of1_one o20 fun h22 o22 => ?_
    refine take10_ok (x := logF 1) o22 w20 (Nat.zero_le _) (by show 1 ≤ 1000000; omega) (by show I64 1; unfold I64; omega) fun sl23 c23 r23 h23 o23 w23 rr23 => ?_
    rw [take_log rfl] at w23
    refine of1_one o23 fun h25 o25 => ?_
    refine send10_ok (m := ⟨27, 5, 0, 0, 0, 0, 0⟩) o25 w23 (Nat.zero_le _) fun c26 h26 o26 w26 => ?_
    rw [send_27] at w26
    have w26 : IsSess p ownS c26 := w26
    refine idx_row rM (Int.natCast_nonneg n) (by show (n : Int) < 9; omega) fun a ha => load_row rM (o26.mem (by simp)) rfl ha (i := n) a0 (by simp) ?_
    refine take10_ok (x := mkF 0 m) o26 w26 (Nat.le_succ_of_le (by show 1 ≤ 999999; omega)) (by show 1 ≤ 1000000; omega) hI fun sl27 c27 r27 h27 o27 w27 rr27 => ?_
    rw [ht] at w27 rr27 ⊢
    dsimp only at w27 rr27 ⊢
    have hsl := rr27.1
    have hlen1 : (sl27.len = 1) ↔ k ≠ 0 := by
      rcases hfs with ⟨h1, h2⟩ | ⟨h1, f, h2, h3⟩
      · rw [h2] at hsl; have : sl27.len = 0 := hsl; omega
      · rw [h2] at hsl; have : sl27.len = 1 := hsl; omega
    refine join_i (fun t h' => h' = h27 ∧ t = false) ?_ fun J1 hJ1 => ?_
    · rintro t2 h28 ⟨rfl, rfl⟩
      refine cond_f rfl (ofN_nil o27 ?_)
      refine send10_ok (m := ⟨2, 0, 0, 0, 0, 0, 0⟩) o27 w27 (by omega) fun c30 h30 o30 w30 => ?_
      have es : sendV t ⟨2, 0, 0, 0, 0, 0, 0⟩ = (t, zeroF, false) := by
        unfold sendV
        rw [if_pos (.inr rfl)]
      rw [es] at w30 ⊢
      dsimp only at w30 ⊢
      rcases hfs with ⟨h1, h2⟩ | ⟨h1, f, h2, h3⟩
      · rw [h2] at hsl
        have hsl : sl27.len = 0 := hsl
        refine cond_t (by rw [hsl]; rfl) (cond_t rfl (want10_ok (o30.mem (by simp)) w30 (cond_t (by rw [hwant]; rfl) ?_)))
        exact known10_ok o30 fun h' o' => ⟨rfl, o'.mem (by simp)⟩
      · subst h2
        have hsl : sl27.len = 1 := hsl
        refine cond_f (by rw [hsl]; rfl) ?_
        refine idx_row rr27 (by omega) (by simp) fun b hb => ?_
        refine idx_row rK (Int.natCast_nonneg n) (by show (n : Int) < 9; omega) fun b2 hb2 => ?_
        refine load_part (cf := cI .i64) rr27 (o30.mem (by simp)) rfl hb (i := 0) (x := f) rfl (m := 0) (k := 1) rfl (y := f.Msg_Kind) rfl ?_
        refine load_row rK (o30.mem (by simp)) rfl hb2 (i := n) a1 (by simp) ?_
        refine cond_t (by rw [h3]; simp) (cond_t rfl (want10_ok (o30.mem (by simp)) w30 (cond_t (by rw [hwant]; rfl) ?_)))
        exact known10_ok o30 fun h' o' => ⟨rfl, o'.mem (by simp)⟩
    · refine cond_f rfl (cond_f rfl ?_)
      refine idx_row rB (Int.natCast_nonneg n) (by show (n : Int) < 9; omega) fun b hb => load_row rB (o27.mem (by simp)) rfl hb (i := n) a2 (by simp) ?_
      refine cond_f (by simp) ?_
      refine up10_ok (o27.mem (by simp)) w27 ?_
      rw [hup]
      refine cond_f (by cases dn <;> rfl) ?_
      refine idx_row rK (Int.natCast_nonneg n) (by show (n : Int) < 9; omega) fun b2 hb2 => load_row rK (o27.mem (by simp)) rfl hb2 (i := n) a1 (by simp) ?_
      refine hJ1 _ _ ⟨rfl, ?_⟩
      rw [Bool.not_eq_false', beq_iff_eq, Bool.eq_iff_iff]
      simp only [beq_iff_eq, bne_iff_ne]
      rw [← hlen1]
      omega
  · refine cond_d (fun _ => hJ2 _ _ ⟨rfl, fun h => by cases h⟩) fun e1 => ?_
    refine hJ2 _ _ ⟨rfl, fun h => ⟨by omega, ?_⟩⟩
    have h := of_decide_eq_false h
    omega
theorem sessOwn_law (W : World) (p0 : Int) (_o0 : Opn Try.prog W 3 [.int .i64 p0]) : F36 p0 (hpOf W) (Lawful (hpOf W)) := own10
end Go.Proofs.Ytmkgcdgpokidjaa
