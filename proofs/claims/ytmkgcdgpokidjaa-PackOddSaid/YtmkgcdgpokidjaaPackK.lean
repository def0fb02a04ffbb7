/- Chapter 3: by hand. -/
import Derived.Test.YtmkgcdgpokidjaaPackL
set_option linter.unusedVariables false
namespace Go.Proofs.Ytmkgcdgpokidjaa
open Go.Eng

theorem size_map (s : ByteArray) : s.size = (s.data.toList.map fun x => (x.toNat : Int)).length := by
  rw [List.length_map, Array.length_toList]; rfl
/-- A text's bytes, as new memory. -/
theorem bytes_new {e : TypeId} {s : ByteArray} {h : Hp} {l : List Hp} (o : On h l) {K : Nat → Nat → Hp → Prop}
    (hK : ∀ b cap g h', s.size ≤ cap → On h' (g :: l) → Row (cI .u8) g ⟨some ⟨b, 0, none⟩, s.size, cap⟩ (s.data.toList.map fun x => (x.toNat : Int)) → K b cap h') : toBytesP e s h K := by
  intro cap pad b hcap hpad hb
  have o' := o.new hb (.cells (bytesV (s.data.toList.map fun x => (x.toNat : Int)) ++ pad).toArray e (cap, cap + 1))
  refine hK b cap _ _ hcap o' ⟨size_map s, ?_⟩
  refine rds_block (one_at b _) ?_
  rw [List.drop_zero, bytesV_cells, List.take_append_of_le_length (Nat.le_refl _), List.take_length]
theorem mkStr_bytes (s : ByteArray) : mkStr (s.data.toList.map fun x => (x.toNat : Int)) = s := by
  apply Go.WideShapes.bytes_inj
  rw [mkStr_list, List.map_map]
  have : (s.data.toList.map ((fun n : Int => UInt8.ofNat n.toNat) ∘ fun x : UInt8 => (x.toNat : Int))) = s.data.toList.map id := by
    apply List.map_congr_left
    intro x _
    simp
  rw [this, List.map_id]
theorem bytes_map (s : ByteArray) : Bytes (s.data.toList.map fun x => (x.toNat : Int)) := by
  intro b hb
  obtain ⟨x, _, rfl⟩ := List.mem_map.1 hb
  have := x.toNat_lt
  omega

def vs3 : List Int := [0, -1, 1, 63, -64, 64, -65, 9223372036854775807, -9223372036854775808]
def ts3 : List ByteArray := [⟨#[0]⟩, ⟨#[1]⟩, ⟨#[2]⟩, ⟨#[126]⟩, ⟨#[127]⟩, ⟨#[128, 1]⟩, ⟨#[129, 1]⟩, ⟨#[254, 255, 255, 255, 255, 255, 255, 255, 255, 1]⟩, ⟨#[255, 255, 255, 255, 255, 255, 255, 255, 255, 1]⟩]
theorem known3_all : ∀ i < 9, ∃ v t, vs3[i]? = some v ∧ ts3[i]? = some t ∧ I64 v ∧ one3 v = t.data.toList.map fun x => (x.toNat : Int) := by
  intro i hi
  have : i = 0 ∨ i = 1 ∨ i = 2 ∨ i = 3 ∨ i = 4 ∨ i = 5 ∨ i = 6 ∨ i = 7 ∨ i = 8 := by omega
  rcases this with rfl | rfl | rfl | rfl | rfl | rfl | rfl | rfl | rfl
  all_goals exact ⟨_, _, rfl, rfl, by unfold I64; decide, by simp [one3, zigV, grp_lt, grp_ge]⟩

theorem hand3 {g : Hp} {p0 : Int} : F14 p0 g (Lawful g) := by
  unfold F14
  refine alloc_ob (On.self g) fun k1 h1 o1 => ?_
  refine alloc_ob o1 fun k2 h2 o2 => ?_
  have rv : Row (cI .i64) (ob k1 _ 2) ⟨some ⟨k1, 0, none⟩, 9, 9⟩ vs3 := row_ob (cd := cI .i64) (xs := vs3) rfl rfl
  have rt : Row cS (ob k2 _ 9) ⟨some ⟨k2, 0, none⟩, 9, 9⟩ ts3 := row_ob (cd := cS) (xs := ts3) rfl rfl
  refine join_i (fun t h' => h' = h2 ∧ (t = false → 0 ≤ p0 ∧ p0 < 9)) ?_ fun J hJ => ?_
  · rintro t h3 ⟨rfl, hf⟩
    refine cond_i (fun _ => ⟨rfl, o2.mem (by simp)⟩) fun e => ?_
    obtain ⟨hp0, hp1⟩ := hf e
    obtain ⟨i, rfl⟩ : ∃ i : Nat, p0 = i := ⟨p0.toNat, by omega⟩
    obtain ⟨v, t, hv, ht, hv64, hput⟩ := known3_all i (by omega)
    have hgt : (ob k2 _ 9).sub h3 := o2.get (i := 0) rfl
    refine idx_row (s := ⟨some ⟨k2, 0, none⟩, 9, 9⟩) rt (Int.natCast_nonneg i) hp1 fun a ha => load_row (s := ⟨some ⟨k2, 0, none⟩, 9, 9⟩) rt hgt rfl ha (i := i) ht (by simp) ?_
    refine bytes_new o2 fun k3 k4 g4 h4 hcap o4 r4 => ?_
    have hsz := size_map t
    have hs10 := one3_len hv64
    refine first_ok (p0 := ⟨some ⟨k3, 0, none⟩, t.size, k4⟩) (o4.get (i := 0) rfl) r4 (bytes_map t) (by rw [← hsz]; exact hcap) (by rw [← hput]; omega) ?_
    have hfirst := firstV_one hv64 []
    rw [List.append_nil, hput] at hfirst
    rw [firstR_some hfirst]
    have hg1 : (ob k1 _ 2).sub h4 := o4.get (i := 2) rfl
    have hg2 : (ob k2 _ 9).sub h4 := o4.get (i := 1) rfl
    refine idx_row (s := ⟨some ⟨k1, 0, none⟩, 9, 9⟩) rv (Int.natCast_nonneg i) hp1 fun a2 ha2 => idx_row (s := ⟨some ⟨k2, 0, none⟩, 9, 9⟩) rt (Int.natCast_nonneg i) hp1 fun a3 ha3 => ?_
    refine load_row (s := ⟨some ⟨k1, 0, none⟩, 9, 9⟩) rv hg1 rfl ha2 (i := i) hv (by simp) ?_
    refine load_row (s := ⟨some ⟨k2, 0, none⟩, 9, 9⟩) rt hg2 rfl ha3 (i := i) ht (by simp) ?_
    refine alloc_ob o4 fun k5 h6 o6 => ?_
    have r5 : Row (cI .i64) (ob k5 [Value.int .i64 v] 2) ⟨some ⟨k5, 0, none⟩, 1, 1⟩ [v] := row_ob rfl rfl
    refine put3_ok (p0 := ⟨some ⟨k5, 0, none⟩, 1, 1⟩) o6 (List.mem_cons_self ..) r5 (by intro n hn; rw [List.mem_singleton] at hn; subst hn; exact hv64) (by simp) fun s7 d7 h7 o7 w7 => ?_
    refine ⟨⟨rds_row (s := ⟨some ⟨k2, 0, none⟩, 9, 9⟩) rt (o7.get (i := 3) rfl) rfl ha3 ht (by simp), trivial⟩, ?_⟩
    have hpv : putV [v] = t.data.toList.map fun x => (x.toNat : Int) := by rw [← hput]; simp [putV]
    rw [hpv] at w7
    refine str_row w7.row (o7.get (i := 0) rfl) ?_
    rw [mkStr_bytes]
    refine cond_t (strEq_self _) (cond_t rfl ?_)
    refine idx_row (s := ⟨some ⟨k1, 0, none⟩, 9, 9⟩) rv (Int.natCast_nonneg i) hp1 fun a4 ha4 => load_row (s := ⟨some ⟨k1, 0, none⟩, 9, 9⟩) rv (o7.get (i := 4) rfl) rfl ha4 (i := i) hv (by simp) ?_
    refine cond_t (by simp) ?_
    refine idx_row (s := ⟨some ⟨k2, 0, none⟩, 9, 9⟩) rt (Int.natCast_nonneg i) hp1 fun a5 ha5 => load_row (s := ⟨some ⟨k2, 0, none⟩, 9, 9⟩) rt (o7.get (i := 3) rfl) rfl ha5 (i := i) ht (by simp) ?_
    refine cond_t (by rw [hsz]; exact beq_self_eq_true _) ?_
    exact known3_ok o7 fun h9 o9 => ⟨rfl, o9.mem (by simp)⟩
  · refine cond_d (fun _ => hJ _ _ ⟨rfl, fun h => by cases h⟩) fun e1 => ?_
    refine hJ _ _ ⟨rfl, fun h => ⟨by omega, ?_⟩⟩
    have h := of_decide_eq_false h
    omega

def os3 : List ByteArray := [⟨#[]⟩, ⟨#[128]⟩, ⟨#[128, 0]⟩, ⟨#[255, 255, 255, 255, 255, 255, 255, 255, 255, 2]⟩, ⟨#[255, 255, 255, 255, 255, 255, 255, 255, 255, 129, 0]⟩, ⟨#[129, 128, 0]⟩]
theorem odd3_all : ∀ i < 6, ∃ t, os3[i]? = some t ∧ t.size ≤ 20 ∧ firstV (t.data.toList.map fun x => (x.toNat : Int)) = none := by
  intro i hi
  have : i = 0 ∨ i = 1 ∨ i = 2 ∨ i = 3 ∨ i = 4 ∨ i = 5 := by omega
  rcases this with rfl | rfl | rfl | rfl | rfl | rfl
  all_goals exact ⟨_, rfl, by decide, by decide +kernel⟩
theorem oddly3 {g : Hp} {p0 : Int} : F15 p0 g (Lawful g) := by
  unfold F15
  refine alloc_ob (On.self g) fun k1 h1 o1 => ?_
  have rt : Row cS (ob k1 _ 9) ⟨some ⟨k1, 0, none⟩, 6, 6⟩ os3 := row_ob (cd := cS) (xs := os3) rfl rfl
  refine join_i (fun t h' => h' = h1 ∧ (t = false → 0 ≤ p0 ∧ p0 < 6)) ?_ fun J hJ => ?_
  · rintro t h3 ⟨rfl, hf⟩
    refine cond_i (fun _ => ⟨rfl, o1.mem (by simp)⟩) fun e => ?_
    obtain ⟨hp0, hp1⟩ := hf e
    obtain ⟨i, rfl⟩ : ∃ i : Nat, p0 = i := ⟨p0.toNat, by omega⟩
    obtain ⟨t, ht, ht20, hnone⟩ := odd3_all i (by omega)
    refine idx_row (s := ⟨some ⟨k1, 0, none⟩, 6, 6⟩) rt (Int.natCast_nonneg i) hp1 fun a ha => load_row (s := ⟨some ⟨k1, 0, none⟩, 6, 6⟩) rt (o1.get (i := 0) rfl) rfl ha (i := i) ht (by simp) ?_
    refine bytes_new o1 fun k3 k4 g4 h4 hcap o4 r4 => ?_
    have hsz := size_map t
    refine first_ok (p0 := ⟨some ⟨k3, 0, none⟩, t.size, k4⟩) (o4.get (i := 0) rfl) r4 (bytes_map t) (by rw [← hsz]; exact hcap) (by rw [← hsz]; omega) ?_
    rw [firstR_none hnone]
    refine idx_row (s := ⟨some ⟨k1, 0, none⟩, 6, 6⟩) rt (Int.natCast_nonneg i) hp1 fun a ha => load_row (s := ⟨some ⟨k1, 0, none⟩, 6, 6⟩) rt (o4.get (i := 1) rfl) rfl ha (i := i) ht (by simp) ?_
    refine bytes_new o4 fun k5 k6 g5 h5 hcap5 o5 r5 => ?_
    have hv1 : getV (t.data.toList.map fun x => (x.toNat : Int)) 1 = none := by
      unfold getV
      rw [if_neg (by omega)]
      exact getN_succ_none hnone
    refine get_ok (p0 := ⟨some ⟨k5, 0, none⟩, t.size, k6⟩) o5 (List.mem_cons_self ..) r5 (bytes_map t) (by rw [← hsz]; exact hcap5) (by rw [← hsz]; omega) (fun _ h6 o6 => ?_) fun ms hms => by rw [hv1] at hms; cases hms
    refine alloc_ob o6 fun k7 h7 o7 => ?_
    refine mark_ob o7 fun h8 o8 => ?_
    have r8 : Row (cI .u8) (Hp.one k7 (.cells [Value.int .u8 2].toArray 5 (frz 1 (0, 0)))) ⟨some ⟨k7, 0, none⟩, 1, 1⟩ [2] := row_one rfl rfl
    have hv2 : getV [2] (-1) = none := by unfold getV; rw [if_pos (by decide)]
    refine get_ok (p0 := ⟨some ⟨k7, 0, none⟩, 1, 1⟩) o8 (List.mem_cons_self ..) r8 (by intro b hb; rw [List.mem_singleton] at hb; omega) (Nat.le_refl 1) (by simp) (fun _ h9 o9 => ?_) fun ms hms => by rw [hv2] at hms; cases hms
    refine cond_t rfl (cond_t rfl (cond_t rfl (cond_t rfl (cond_t rfl (cond_t (by decide) ?_)))))
    exact known3_ok o9 fun h10 o10 => ⟨rfl, o10.mem (by simp)⟩
  · refine cond_d (fun _ => hJ _ _ ⟨rfl, fun h => by cases h⟩) fun e1 => ?_
    refine hJ _ _ ⟨rfl, fun h => ⟨by omega, ?_⟩⟩
    have h := of_decide_eq_false h
    omega
theorem packKnown_law (W : World) (p0 : Int) (_o0 : Opn Try.prog W 3 [.int .i64 p0]) : F14 p0 (hpOf W) (Lawful (hpOf W)) := hand3
theorem packOdd_law (W : World) (p0 : Int) (_o0 : Opn Try.prog W 3 [.int .i64 p0]) : F15 p0 (hpOf W) (Lawful (hpOf W)) := oddly3
end Go.Proofs.Ytmkgcdgpokidjaa
