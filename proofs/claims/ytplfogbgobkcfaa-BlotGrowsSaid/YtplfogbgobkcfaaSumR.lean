/- Chapter 4: how bytes are parted does not matter. -/
import Derived.Test.YtplfogbgobkcfaaSumL
set_option linter.unusedVariables false
namespace Go.Proofs.Ytplfogbgobkcfaa
open Go.Eng

theorem On.emp' {h : Hp} {l : List Hp} (o : On h l) : On h (Hp.emp :: l) :=
  ⟨List.pairwise_cons.2 ⟨fun _ _ _ => .inl rfl, o.1⟩, fun c hc => by
    rcases List.mem_cons.1 hc with rfl | hc
    · intro b o h; cases h
    · exact o.2 c hc⟩

theorem rows_ok {g : Hp} {p0 : Sl} {ss : List Sl} {bss : List (List Int)} (r : Row cSl g p0 ss) (rr : Rows2 g ss bss) (hl : ss.length ≤ 140737488351232) (hb : ∀ bs ∈ bss, bs.length ≤ 140737488351232) : F3 p0 g (Lawful g) := by
  have hlen := rr.len
  unfold F3
  refine loop_i (fun z h' => ∃ (i : Nat) (c : Hp) (all : List Int), z.2 = i ∧ i ≤ ss.length ∧ all = (bss.take i).flatten ∧ all.length ≤ 800 ∧ On h' [c, g] ∧ Own (cI .u8) c z.1 all) (fun z => ss.length - z.2.toNat)
    ⟨0, Hp.emp, [], rfl, Nat.zero_le _, rfl, by simp, On.emp' (On.self g), Own.nil _⟩ ?_
  rintro J ⟨sl, n⟩ h' again ⟨i, c, all, hi, hle, hall, h800, o, w⟩
  dsimp only at hi w
  subst hi
  have hg : g.sub h' := o.get (i := 1) rfl
  refine cond_d (fun hlt => ?_) (fun hge => ?_)
  · dsimp only at hlt
    rw [r.1] at hlt
    have hlt : i < ss.length := by omega
    have hi : ss[i]? = some ss[i] := List.getElem?_eq_getElem hlt
    obtain ⟨bs, hbi, rb⟩ := rr.get i _ hi
    have hbl := hb bs (List.mem_of_getElem? hbi)
    have hwl : sl.len = all.length := w.1
    refine join_i (fun t h1 => h1 = h' ∧ (t = false → i ≤ 40 ∧ all.length + bs.length ≤ 800)) ?_ fun J2 hJ2 => ?_
    · rintro t h1 ⟨rfl, ht⟩
      refine cond_i (fun _ => ⟨rfl, hg⟩) fun hf => ?_
      obtain ⟨h40, hsum⟩ := ht hf
      refine idx_row r (by omega) (by omega) fun a ha => load_row r hg rfl ha (i := i) hi (by simp) ?_
      refine append_own (g := g) o rfl w (by decide) rb hg ?_ fun c' p n' m' h2 o2 w2 => ?_
      · unfold roomP; omega
      · refine again _ _ ⟨i + 1, c', all ++ bs, ?_, by omega, ?_, ?_, o2, w2⟩ ?_
        · dsimp only; exact w64n (by omega)
        · rw [List.take_add_one, hbi, List.flatten_append, hall]; simp
        · rw [List.length_append]; exact hsum
        · dsimp only; rw [w64n (by omega)]; omega
    · refine cond_d (fun _ => hJ2 _ _ ⟨rfl, fun h => by cases h⟩) fun h40 => ?_
      dsimp only at h40
      refine idx_row r (by omega) (by omega) fun a ha => load_row r hg rfl ha (i := i) hi (by simp) ?_
      refine hJ2 _ _ ⟨rfl, fun h => ⟨by omega, ?_⟩⟩
      have h := of_decide_eq_false h
      have hrb : (ss[i]).len = bs.length := rb.1
      dsimp only at h
      rw [hwl, hrb, w64 (by omega) (by omega)] at h
      omega
  · dsimp only at hge
    rw [r.1] at hge
    have hil : i = bss.length := by omega
    rw [hil, List.take_length] at hall
    have hwl : sl.len = all.length := w.1
    refine loop_i (fun z h'' => ∃ j : Nat, z.2 = j ∧ j ≤ all.length ∧ z.1 = (all.take j).foldl nextV 0 ∧ h'' = h') (fun z => all.length - z.2.toNat) ⟨0, rfl, Nat.zero_le _, rfl, rfl⟩ ?_
    rintro J2 ⟨s2, n2⟩ h'' again2 ⟨j, hj, hle2, hs2, rfl⟩
    dsimp only at hj hs2
    subst hj hs2
    have rw' : Row (cI .u8) c sl all := w.row
    refine cond_d (fun hlt2 => ?_) (fun hge2 => ?_)
    · dsimp only at hlt2
      rw [hwl] at hlt2
      have hlt2 : j < all.length := by omega
      have hbj : all[j]? = some all[j] := List.getElem?_eq_getElem hlt2
      refine idx_row rw' (by omega) (by omega) fun a2 ha2 => load_row rw' (o.get (i := 0) rfl) rfl ha2 (i := j) hbj (by simp) ?_
      refine next_ok (again2 _ _ ⟨j + 1, ?_, by omega, ?_, rfl⟩ ?_)
      · dsimp only; exact w64n (by omega)
      · exact (take_foldl nextV _ all hbj).symm
      · dsimp only; rw [w64n (by omega)]; omega
    · dsimp only at hge2
      rw [hwl] at hge2
      have hj : j = all.length := by omega
      subst hj
      rw [List.take_length]
      refine of_ok hg r rr (by omega) (fun bs hbs => by have := hb bs hbs; omega) ?_
      refine cond_t (by rw [hall]; simp) ?_
      refine alloc_ob o fun k3 h7 o7 => ?_
      have r7 : Row (cI .u8) h7 sl all := rw'.sub (o7.get (i := 1) rfl)
      refine of1_ok (s := sl) o7 0 rfl r7 (by omega) ?_
      refine cond_t (by simp) ?_
      exact known_ok o7 fun h9 o9 => ⟨rfl, o9.get (i := 2) rfl⟩

theorem sumRows_law (W : World) (p0 : Sl) (o0 : Opn Try.prog W 22 [.slice p0.a p0.len p0.cap]) : F3 p0 (hpOf W) (Lawful (hpOf W)) := by
  obtain ⟨ss, bss, h1, h2, h3, h4⟩ := rows_of o0
  exact rows_ok h1 h2 h4 fun bs hbs => (h3 bs hbs).2
end Go.Proofs.Ytplfogbgobkcfaa
