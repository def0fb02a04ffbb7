/- What writes, and what calls. -/
import Derived.Test.YtmkgcdgpokidjaaGreatEI
import Derived.Conc.LoneSelect
set_option linter.unusedVariables false
namespace Go.Eng
section
variable {P : Program} {A : Ann} {N : Nat} {bx : Nat → Nat} {env : Env} {a : Act} {h fr : Hp} {w0 w : World}

structure HStep (h fr h' : Hp) (w w' : World) : Prop where
  hle : h'.le w'
  frle : fr.le w'
  dj : h'.dj fr
  same : Same w w'
  keep : ∀ b, b < w.heap.size → h b = none → fr b = none → w'.heap[b]? = w.heap[b]? ∧ h' b = none

def WOut (P : Program) (o : Oper) (a : Act) (w : World) (h fr : Hp) (k : EV → Hp → Prop) : Prop :=
  (∃ ev v h' w', k ev h' ∧ (ev = .val v ∨ ev = .unk) ∧ (execOp a.eval o).run P w = .ok (.value v) w' ∧ HStep h fr h' w w') ∨
  (∃ h' w', k .unk h' ∧ (execOp a.eval o).run P w = .ok .skip w' ∧ HStep h fr h' w w') ∨
  (∃ f args, (execOp a.eval o).run P w = .ok (.enter f args) w ∧ Spec P f args h fun v h' => k (.val v) h') ∨
  (∃ v h' w' cs, k (.val v) h' ∧ (execOp a.eval o).run P w = .ok (.comm cs false .select) w ∧ HStep h fr h' w w' ∧
    ∀ (f : Frame) (l : List Frame) (es : Array Event), stepG P true (Conc.G f l) w = .comm (Conc.G f l) cs false .select w es → step P (Conc.solo (Conc.G f l) w) = .next (Conc.solo (Conc.G (f.finish v) l) w'))

/-- Cells written into the part 'h'. -/
theorem HStep.wrs (hle : h.le w) (frle : fr.le w) (dj : h.dj fr) (ad : Addr) (vs : List Value) (hb : vs = [] ∨ h ad.block ≠ none) :
    HStep h fr (h.wrs ad 0 vs) w (wrW w ad 0 vs) := by
  refine ⟨wrW_le ad vs 0 h w hle, ?_, ?_, wrW_same ad vs 0 w, ?_⟩
  · rcases hb with rfl | hb
    · exact frle
    · intro k o hk
      have : k ≠ ad.block := by
        rintro rfl
        rcases dj ad.block with e | e
        · exact hb e
        · rw [e] at hk; cases hk
      rw [wrW_old ad vs 0 w k this]; exact frle k o hk
  · intro b
    rw [wrs_none]; exact dj b
  · intro b _ h1 _
    refine ⟨?_, by rw [wrs_none]; exact h1⟩
    rcases hb with rfl | hb
    · rfl
    · exact wrW_old ad vs 0 w b (by rintro rfl; exact hb h1)

theorem HStep.alloc (hle : h.le w) (frle : fr.le w) (dj : h.dj fr) (o : Obj) : HStep h fr (h.upd w.heap.size o) w (w.alloc o) := by
  refine ⟨Hp.upd_le hle o, Hp.le_alloc frle o, Hp.upd_dj dj (Hp.le_lt frle (Nat.le_refl _)) o, ⟨rfl, rfl, rfl⟩, ?_⟩
  intro b hb h1 _
  refine ⟨?_, by simp only [Hp.upd, if_neg (show b ≠ w.heap.size by omega)]; exact h1⟩
  show (w.heap.push o)[b]? = _
  rw [Array.getElem?_push, if_neg (by omega)]
theorem HStep.refl (hle : h.le w) (frle : fr.le w) (dj : h.dj fr) : HStep h fr h w w := ⟨hle, frle, dj, Same.refl w, fun _ _ h1 _ => ⟨rfl, h1⟩⟩
theorem HStep.drew {h' : Hp} {w' : World} (s : HStep h fr h' w.drew w') : HStep h fr h' w w' :=
  ⟨s.hle, s.frle, s.dj, ⟨s.same.os, s.same.tape, s.same.output⟩, s.keep⟩

theorem may_w (hle : h.le w) {ad : Addr} {n : Nat} (hm : h.may ad n) : ∀ j, j < n → (∃ v, w.cell? (ad.add (0 + j)) = some v) ∧ w.frozen? (ad.add (0 + j)) = false := by
  intro j hj
  obtain ⟨⟨v, hv⟩, hf⟩ := hm j hj
  rw [Nat.zero_add]
  exact ⟨⟨v, Hp.cell?_le hle hv⟩, by rw [Hp.frozen?_le hle hv]; exact hf⟩
theorem may_block {ad : Addr} {n : Nat} (hm : h.may ad n) (hn : 0 < n) : h ad.block ≠ none := by
  obtain ⟨⟨v, hv⟩, _⟩ := hm 0 hn
  have := Hp.cell_block hv
  rwa [add_block] at this

theorem enc_cells {c : Cdc} (hm : c.mem = true) (x : c.T) : (c.enc x).cells.size = c.n ∧ ∀ v ∈ (c.enc x).cells.toList, isOne v = true := by
  have hf := c.form hm x
  cases hg : c.agg with
  | true =>
    rw [hg] at hf
    obtain ⟨cs, e, hl, ho⟩ := hf
    rw [e]
    simp only [Value.cells]
    exact ⟨by simpa using hl, by simpa using ho⟩
  | false =>
    rw [hg] at hf
    obtain ⟨ho, hn⟩ := hf
    rw [cells_one ho]
    exact ⟨by simp [hn], by simpa using ho⟩
theorem cellsL_len {c : Cdc} (hm : c.mem = true) : ∀ xs : List c.T, (cellsL c xs).length = xs.length * c.n := by
  intro xs
  induction xs with
  | nil => simp [cellsL]
  | cons x l ih =>
    simp only [cellsL, List.flatMap_cons, List.length_append, List.length_cons] at ih ⊢
    rw [ih, show (c.enc x).cells.toList.length = c.n by simpa using (enc_cells hm x).1]
    rw [Nat.add_mul]; omega
theorem cellsL_one {c : Cdc} (hm : c.mem = true) (xs : List c.T) : ∀ v ∈ cellsL c xs, isOne v = true := by
  intro v hv
  simp only [cellsL, List.mem_flatMap] at hv
  obtain ⟨x, _, hx⟩ := hv
  exact (enc_cells hm x).2 v hx

theorem growBy_le (need : Nat) : ∀ (r c : Nat), c ≤ need → Builtin.growBy need r c ≤ 2 * need + 192 := by
  intro r
  induction r with
  | zero => intro c hc; simp [Builtin.growBy]; omega
  | succ r ih =>
    intro c hc
    unfold Builtin.growBy
    split
    · omega
    · by_cases h : c + (c + 768) / 4 ≤ need
      · exact ih _ h
      · have : Builtin.growBy need r (c + (c + 768) / 4) = c + (c + 768) / 4 := by
          cases r with
          | zero => rfl
          | succ r => unfold Builtin.growBy; rw [if_pos (by omega)]
        rw [this]; omega
theorem nextslicecap_le (need cap : Nat) (h : cap < need) : Builtin.nextslicecap need cap ≤ 2 * need + 192 := by
  unfold Builtin.nextslicecap
  split
  · omega
  · split
    · omega
    · exact growBy_le need 4 cap (by omega)

/-- What a slice holds, loaded. -/
theorem firstCells_run {c : Cdc} (hm : c.mem = true) {b : Option Addr} {len : Nat} {K : List c.T → Prop} (he : elemsP c b len h K) :
    ∃ xs : List c.T, xs.length = len ∧ K xs ∧ ∀ (P : Program) (w : World) (cap : Nat), h.le w → (Builtin.firstCells c.n len (.slice b len cap)).run P w = .ok (cellsL c xs).toArray w := by
  cases b with
  | none =>
    obtain ⟨rfl, hk⟩ := he
    exact ⟨[], rfl, hk, fun _ _ _ _ => rfl⟩
  | some ad =>
    obtain ⟨xs, hl, hr, hk⟩ := he
    refine ⟨xs, hl, hk, fun P w cap hle => ?_⟩
    have := run_loadCells_list (P := P) w ad (cellsL c xs) (rds_w hle hr)
    rw [cellsL_len hm, hl] at this
    exact this

theorem zeroCells_size (z : Array Value) (n : Nat) : (Builtin.zeroCells z n).size = n * z.size := by simp [Builtin.zeroCells]


theorem append_run {c : Cdc} {e t u u' ty : TypeId} {bytes : Nat} {ats : Array TypeId} (ht : ats[0]? = some t) (hu1 : ats[1]? = some u) (ht' : P.underlying t = some (.slice e)) (hu' : P.underlying u = some (.slice u'))
    (hf : fitsT P c e = true) (hb : bytes = bytesT P e) (hb1 : 1 ≤ bytes) (hb2 : bytes ≤ 1048576) (hz : zeroOk P e = true) {p q : Option Addr} {len cap n cap' : Nat} {K : Option Addr → Nat → Nat → Hp → Prop}
    (hle : h.le w) (frle : fr.le w) (dj : h.dj fr) (hk : appendP c e bytes p len cap q n h K) :
    ∃ p' l' c' h' w', K p' l' c' h' ∧ (Builtin.append_ ats ty #[.slice p len cap, .slice q n cap']).run P w = .ok (.slice p' l' c') w' ∧ HStep h fr h' w w' := by
  have hf' := hf
  simp only [fitsT, Bool.and_eq_true] at hf'
  obtain ⟨⟨hm, _⟩, hn⟩ := hf'
  cases hs : sizeT P e with
  | none => rw [hs] at hn; cases hn
  | some sz =>
    rw [hs] at hn
    have hn := beqT.1 hn
    subst hn
    obtain ⟨i, hi, hi1, hi2⟩ := r_bytes hs
    obtain ⟨z, hz, hzs⟩ : ∃ z, zeroV P e = some z ∧ ∀ n, sizeT P e = some n → z.cells.size = n := by
      unfold zeroOk at hz
      unfold zeroV sizeT
      split at hz
      · rename_i i' hi'
        split at hz
        · rename_i z hz'
          exact ⟨z, hz', fun n h => by cases h; exact Nat.eq_of_beq_eq_true hz⟩
        · cases hz
      · cases hz
    unfold appendP at hk
    obtain ⟨ys, hyl, ⟨hk1, hk2⟩, hry0⟩ := firstCells_run hm hk
    have hry := hry0 P w cap' hle
    have hone := cellsL_one hm ys
    have hlen := cellsL_len hm ys
    have g0 : (#[.slice p len cap, .slice q n cap'] : Array Value)[0]? = some (.slice p len cap) := rfl
    have g1 : (#[.slice p len cap, .slice q n cap'] : Array Value)[1]? = some (.slice q n cap') := rfl
    unfold Builtin.append_
    simp only [ht, hu1, g0, g1, Sem.run_bind, r_under ht', r_under hu', Result.andThen_ok, r_size hs, Sem.run_pure, Builtin.lenOf, Bool.false_eq_true, if_false, Bool.not_false, if_true]
    by_cases hc : len + n ≤ cap
    · have hk1 := hk1 hc
      rw [if_pos hc]
      cases p with
      | none =>
        refine ⟨_, _, _, h, w, hk1, ?_, HStep.refl hle frle dj⟩
        simp [hry]
      | some ad =>
        obtain ⟨hmay, hk1⟩ := hk1
        have hsc := r_storeCells (P := P) (ad.add (len * c.n)) (cellsL c ys) 0 w (by rw [hlen, hyl]; exact may_w hle hmay) hone
        refine ⟨_, _, _, _, _, hk1, ?_, HStep.wrs hle frle dj (ad.add (len * c.n)) (cellsL c ys) ?_⟩
        · simp [hry, hsc]
        · by_cases h0 : n * c.n = 0
          · left
            apply List.eq_nil_of_length_eq_zero
            rw [hlen, hyl]; exact h0
          · right; exact may_block hmay (by omega)
    · rw [if_neg hc]
      obtain ⟨hroom, hold⟩ := hk2 (by omega)
      obtain ⟨xs, hxl, hK, hrx⟩ := firstCells_run hm hold
      have hb0 : i.bytes = bytes := by rw [hi2, hb]
      have hne : len + n ≤ roomP := Nat.le_trans (Nat.le_mul_of_pos_right _ (by omega)) hroom
      have hcap : Builtin.nextslicecap (len + n) cap * i.bytes ≤ 2 ^ 48 := by
        have h1 := nextslicecap_le (len + n) cap (by omega)
        rw [hb0]
        calc Builtin.nextslicecap (len + n) cap * bytes ≤ (2 * (len + n) + 192) * bytes := Nat.mul_le_mul_right _ h1
          _ = 2 * ((len + n) * bytes) + 192 * bytes := by rw [Nat.add_mul, Nat.mul_assoc]
          _ ≤ 2 ^ 48 := by unfold roomP at hroom; omega
      have hg1 : ¬ (((len + n : Nat) : Int) > IntKind.i64.max ∧ i.bytes = 0) := by rintro ⟨_, h0⟩; omega
      -- the tape's answer
      obtain ⟨nc, hnc, hch⟩ : ∃ nc, len + n ≤ nc ∧ (choose (.appendCap (len + n) cap e)).run P w = .ok nc w.drew := by
        refine ⟨_, ?_, by rw [run_choose]; simp only [Question.forced, Bool.false_eq_true, if_false]; rfl⟩
        simp only [Question.cut]; omega
      have hpad : (Builtin.zeroCells z.cells (nc - (len + n))).toList.length = (nc - (len + n)) * c.n := by
        simp [zeroCells_size, hzs c.n hs]
      have hK := hK nc (Builtin.zeroCells z.cells (nc - (len + n))).toList hnc hpad w.heap.size (Hp.le_lt hle (Nat.le_refl _))
      have hrx' := hrx P w.drew cap hle
      have hry' := hry0 P w.drew cap' hle
      refine ⟨_, _, _, _, _, hK, ?_, HStep.drew (HStep.alloc (w := w.drew) hle frle dj _)⟩
      simp only [r_info hi, Sem.run_bind, Result.andThen_ok, Sem.run_ite, false_or]
      rw [if_neg hg1]
      simp only [Sem.run_pure]
      rw [if_neg (by omega)]
      simp only [Sem.run_pure, Result.andThen_ok, hch, run_askRoom, hrx', hry', r_zero hz, newRow, Sem.run_bind, run_newObj]
      congr 3
      simp

theorem copy_run {c : Cdc} {e t ty : TypeId} {ats : Array TypeId} (ht : ats[0]? = some t) (ht' : P.underlying t = some (.slice e))
    (hf : fitsT P c e = true) {p q : Option Addr} {len cap n cap' : Nat} {K : Int → Hp → Prop}
    (hle : h.le w) (frle : fr.le w) (dj : h.dj fr) (hk : copyP c p len q n h K) :
    ∃ m h' w', K m h' ∧ (Builtin.copy_ ats ty #[.slice p len cap, .slice q n cap']).run P w = .ok (.int .i64 m) w' ∧ HStep h fr h' w w' := by
  simp only [fitsT, Bool.and_eq_true] at hf
  obtain ⟨⟨hm, _⟩, hn⟩ := hf
  cases hs : sizeT P e with
  | none => rw [hs] at hn; cases hn
  | some sz =>
    rw [hs] at hn
    have hn := beqT.1 hn
    subst hn
    unfold copyP at hk
    obtain ⟨ys, hyl, hk, hry0⟩ := firstCells_run hm hk
    have hry : (Builtin.firstCells c.n (min n len) (.slice q n cap')).run P w = .ok (cellsL c ys).toArray w := by
      have := hry0 P w cap' hle
      cases q with
      | none => exact this
      | some ad => exact this
    have hone := cellsL_one hm ys
    have hlen := cellsL_len hm ys
    have g0 : (#[.slice p len cap, .slice q n cap'] : Array Value)[0]? = some (.slice p len cap) := rfl
    have g1 : (#[.slice p len cap, .slice q n cap'] : Array Value)[1]? = some (.slice q n cap') := rfl
    unfold Builtin.copy_
    simp only [ht, g0, g1, Sem.run_bind, r_under ht', Result.andThen_ok, r_size hs, Sem.run_pure, Builtin.lenOf]
    rw [show Nat.min n len = min n len from rfl, hry]
    simp only [Result.andThen_ok]
    cases p with
    | none => exact ⟨_, h, w, hk, by simp [goInt], HStep.refl hle frle dj⟩
    | some ad =>
      obtain ⟨hmay, hk⟩ := hk
      have hsc := r_storeCells (P := P) ad (cellsL c ys) 0 w (by rw [hlen, hyl]; exact may_w hle hmay) hone
      refine ⟨_, _, _, hk, by simp [hsc, goInt], HStep.wrs hle frle dj ad (cellsL c ys) ?_⟩
      by_cases h0 : min n len * c.n = 0
      · left
        apply List.eq_nil_of_length_eq_zero
        rw [hlen, hyl]; exact h0
      · right; exact may_block hmay (by omega)

theorem zeroCells_cellsL {c : Cdc} {z : Value} {x : c.T} (hm : c.mem = true) (hz : z = c.enc x) (n : Nat) : (Builtin.zeroCells z.cells n).toList = cellsL c (List.replicate n x) := by
  subst hz
  have hsz := (enc_cells hm x).1
  apply List.ext_getElem?
  intro i
  have hl := cellsL_len hm (List.replicate n x)
  simp only [List.length_replicate] at hl
  by_cases hi : i < n * c.n
  · have hcn : 0 < c.n := Nat.pos_of_ne_zero (by rintro h0; rw [h0] at hi; omega)
    have key : ∀ n i, i < n * c.n → (cellsL c (List.replicate n x))[i]? = (c.enc x).cells[i % c.n]? := by
      intro n
      induction n with
      | zero => intro i hi; omega
      | succ n ih =>
        intro i hi
        rw [List.replicate_succ]
        simp only [cellsL, List.flatMap_cons] at ih ⊢
        by_cases h1 : i < c.n
        · rw [List.getElem?_append_left (by simpa [hsz] using h1), Nat.mod_eq_of_lt h1]; simp
        · rw [List.getElem?_append_right (by simp [hsz]; omega)]
          simp only [Array.length_toList, hsz]
          have hi' : i - c.n < n * c.n := by rw [Nat.add_mul] at hi; omega
          rw [ih (i - c.n) hi', ← Nat.mod_eq_sub_mod (by omega)]
    rw [key n i hi]
    have h2 : i % c.n < (c.enc x).cells.size := by rw [hsz]; exact Nat.mod_lt _ hcn
    simp [Builtin.zeroCells, hsz, hi]
    rw [getElem!_pos (c.enc x).cells _ h2, getElem?_pos (c.enc x).cells _ h2]
  · rw [List.getElem?_eq_none (by simp [zeroCells_size, hsz]; omega), List.getElem?_eq_none (by omega)]

theorem grow_run {c : Cdc} {e t u ty : TypeId} {k : IntKind} {bytes : Nat} {ats : Array TypeId} (ht : ats[0]? = some t) (hu1 : ats[1]? = some u) (ht' : P.underlying t = some (.slice e)) (hu' : P.underlying u = some (.int k))
    (hf : fitsT P c e = true) (hb : bytes = bytesT P e) (hb1 : 1 ≤ bytes) (hb2 : bytes ≤ 1048576) {zv : Value} {z : c.T} (hzv : zeroV P e = some zv) (hzz : zv = c.enc z) {p : Option Addr} {len cap : Nat} {j : IntKind} {n : Int} {K : Option Addr → Nat → Nat → Hp → Prop}
    (hle : h.le w) (frle : fr.le w) (dj : h.dj fr) (hk : growP c z e bytes p len cap n h K) :
    ∃ p' l' c' h' w', K p' l' c' h' ∧ (Builtin.append_ ats ty #[.slice p len cap, .int j n]).run P w = .ok (.slice p' l' c') w' ∧ HStep h fr h' w w' := by
  have hf' := hf
  simp only [fitsT, Bool.and_eq_true] at hf'
  obtain ⟨⟨hm, _⟩, hn⟩ := hf'
  cases hs : sizeT P e with
  | none => rw [hs] at hn; cases hn
  | some sz =>
    rw [hs] at hn
    have hn := beqT.1 hn
    subst hn
    obtain ⟨i, hi, hi1, hi2⟩ := r_bytes hs
    obtain ⟨h0, hnb, hk1, hk2⟩ := hk
    have hb0 : i.bytes = bytes := by rw [hi2, hb]
    have hnr : n.toNat ≤ roomP := Nat.le_trans (Nat.le_mul_of_pos_right _ (by omega)) hnb
    have hnl : n ≤ 1099511627776 := by unfold roomP at hnr; omega
    have hwr : IntKind.i64.wrap n = n := by rw [IntKind.wrap_i64]; omega
    have hnb' : ¬ (n * (i.bytes : Int) > 2 ^ 48) := by
      have : (n.toNat : Int) * (bytes : Int) ≤ (roomP : Int) := by exact_mod_cast hnb
      rw [show (n.toNat : Int) = n by omega] at this
      rw [hb0]
      unfold roomP at this
      omega
    have g0 : (#[.slice p len cap, .int j n] : Array Value)[0]? = some (.slice p len cap) := rfl
    have g1 : (#[.slice p len cap, .int j n] : Array Value)[1]? = some (.int j n) := rfl
    have hzc : ∀ m, (Builtin.zeroCells zv.cells m).toList = cellsL c (List.replicate m z) := fun m => zeroCells_cellsL hm hzz m
    have hzs : zv.cells.size = c.n := by rw [hzz]; exact (enc_cells hm z).1
    have hasint : asInt (.int j n) = pure n := rfl
    -- what is appended
    have happ : ∀ w : World, ((if n.toNat * c.n = 0 then pure #[] else do pure (Builtin.zeroCells (← zeroValue e).cells n.toNat) : Sem (Array Value))).run P w = .ok (cellsL c (List.replicate n.toNat z)).toArray w := by
      intro w
      by_cases h1 : n.toNat * c.n = 0
      · rw [if_pos h1]
        have : cellsL c (List.replicate n.toNat z) = [] := by
          apply List.eq_nil_of_length_eq_zero
          rw [cellsL_len hm]; simpa using h1
        rw [this]; rfl
      · rw [if_neg h1]
        simp only [Sem.run_bind, r_zero hzv, Result.andThen_ok, Sem.run_pure]
        rw [← hzc]
    have hone := cellsL_one hm (List.replicate n.toNat z)
    have hlen := cellsL_len hm (List.replicate n.toNat z)
    rw [List.length_replicate] at hlen
    unfold Builtin.append_
    simp only [ht, hu1, g0, g1, Sem.run_bind, r_under ht', r_under hu', Result.andThen_ok, r_size hs, Sem.run_pure, hasint, hwr, if_true, r_info hi, if_neg (show ¬ n < 0 by omega), if_neg hnb', Bool.not_true, Bool.false_eq_true, if_false]
    by_cases hc : len + n.toNat ≤ cap
    · have hk1 := hk1 hc
      rw [if_pos hc]
      cases p with
      | none =>
        refine ⟨_, _, _, h, w, hk1, ?_, HStep.refl hle frle dj⟩
        simp only [Sem.run_bind, happ, Result.andThen_ok, Sem.run_pure]
      | some ad =>
        obtain ⟨hmay, hk1⟩ := hk1
        have hsc := r_storeCells (P := P) (ad.add (len * c.n)) (cellsL c (List.replicate n.toNat z)) 0 w (by rw [hlen]; exact may_w hle hmay) hone
        refine ⟨_, _, _, _, _, hk1, ?_, HStep.wrs hle frle dj (ad.add (len * c.n)) (cellsL c (List.replicate n.toNat z)) ?_⟩
        · simp only [Sem.run_bind, happ, Result.andThen_ok, Sem.run_pure, hsc]
        · by_cases h0 : n.toNat * c.n = 0
          · left
            apply List.eq_nil_of_length_eq_zero
            rw [hlen]; exact h0
          · right; exact may_block hmay (by omega)
    · rw [if_neg hc]
      obtain ⟨hroom, hold⟩ := hk2 (by omega)
      obtain ⟨xs, hxl, hK, hrx⟩ := firstCells_run hm hold
      have hne : len + n.toNat ≤ roomP := Nat.le_trans (Nat.le_mul_of_pos_right _ (by omega)) hroom
      have hcap : Builtin.nextslicecap (len + n.toNat) cap * i.bytes ≤ 2 ^ 48 := by
        have h1 := nextslicecap_le (len + n.toNat) cap (by omega)
        rw [hb0]
        calc Builtin.nextslicecap (len + n.toNat) cap * bytes ≤ (2 * (len + n.toNat) + 192) * bytes := Nat.mul_le_mul_right _ h1
          _ = 2 * ((len + n.toNat) * bytes) + 192 * bytes := by rw [Nat.add_mul, Nat.mul_assoc]
          _ ≤ 2 ^ 48 := by unfold roomP at hroom; omega
      have hg1 : ¬ (((len + n.toNat : Nat) : Int) > IntKind.i64.max ∧ (True ∨ i.bytes = 0)) := by
        rintro ⟨hgt, _⟩
        unfold roomP at hne
        have : IntKind.i64.max = 9223372036854775807 := by decide
        rw [this] at hgt
        omega
      obtain ⟨nc, hnc, hch⟩ : ∃ nc, len + n.toNat ≤ nc ∧ (choose (.appendCap (len + n.toNat) cap e)).run P w = .ok nc w.drew := by
        refine ⟨_, ?_, by rw [run_choose]; simp only [Question.forced, Bool.false_eq_true, if_false]; rfl⟩
        simp only [Question.cut]; omega
      have hpad : (cellsL c (List.replicate n.toNat z) ++ (Builtin.zeroCells zv.cells (nc - (len + n.toNat))).toList).length = (nc - len) * c.n := by
        rw [List.length_append, hlen]
        simp only [Array.length_toList, zeroCells_size, hzs]
        rw [← Nat.add_mul]
        congr 1; omega
      have hK := hK nc _ hnc hpad w.heap.size (Hp.le_lt hle (Nat.le_refl _))
      have hrx' := hrx P w.drew cap hle
      refine ⟨_, _, _, _, _, hK, ?_, HStep.drew (HStep.alloc (w := w.drew) hle frle dj _)⟩
      simp only [r_info hi, Sem.run_bind, Result.andThen_ok, Sem.run_ite]
      rw [if_neg (by simpa using hg1)]
      simp only [Sem.run_pure]
      rw [if_neg (by omega)]
      simp only [Sem.run_pure, Result.andThen_ok, hch, run_askRoom, hrx', r_zero hzv, newRow, Sem.run_bind, run_newObj]
      have hza : Builtin.zeroCells zv.cells n.toNat = (cellsL c (List.replicate n.toNat z)).toArray := by rw [← hzc]
      by_cases h1 : n.toNat * c.n = 0
      · have hnil : cellsL c (List.replicate n.toNat z) = [] := by
          apply List.eq_nil_of_length_eq_zero
          rw [hlen]; exact h1
        simp only [hnil, if_pos h1, Result.andThen_ok]
        congr 3
        simp
      · simp only [if_neg h1, Result.andThen_ok, hza]
        congr 3
        simp

theorem clear_run {c : Cdc} {e t ty : TypeId} {ats : Array TypeId} (ht : ats[0]? = some t) (ht' : P.underlying t = some (.slice e))
    (hf : fitsT P c e = true) {z : Value} {x : c.T} (hz : zeroV P e = some z) (hx : z = c.enc x) {p : Option Addr} {n cap : Nat} {K : Hp → Prop}
    (hle : h.le w) (frle : fr.le w) (dj : h.dj fr) (hk : clearP c x p n h K) :
    ∃ h' w', K h' ∧ (Builtin.clear_ ats ty #[.slice p n cap]).run P w = .ok (.tuple #[]) w' ∧ HStep h fr h' w w' := by
  simp only [fitsT, Bool.and_eq_true] at hf
  obtain ⟨⟨hm, _⟩, hn⟩ := hf
  have g0 : (#[.slice p n cap] : Array Value)[0]? = some (.slice p n cap) := rfl
  unfold clearP at hk
  unfold Builtin.clear_
  simp only [ht, g0, Sem.run_bind, r_under ht', Result.andThen_ok]
  cases p with
  | none => exact ⟨h, w, hk, by simp, HStep.refl hle frle dj⟩
  | some ad =>
    obtain ⟨hmay, hk⟩ := hk
    have hlen := cellsL_len hm (List.replicate n x)
    simp only [List.length_replicate] at hlen
    have hsc := r_storeCells (P := P) ad (cellsL c (List.replicate n x)) 0 w (by rw [hlen]; exact may_w hle hmay) (cellsL_one hm _)
    cases n with
    | zero => exact ⟨_, _, hk, by simp [cellsL, wrW], HStep.wrs hle frle dj ad _ (by left; simp [cellsL])⟩
    | succ n =>
      refine ⟨_, _, hk, ?_, HStep.wrs hle frle dj ad (cellsL c (List.replicate (n + 1) x)) ?_⟩
      · simp [r_zero hz, zeroCells_cellsL hm hx, hsc]
      · by_cases h0 : (n + 1) * c.n = 0
        · left
          apply List.eq_nil_of_length_eq_zero
          rw [hlen]; exact h0
        · right; exact may_block hmay (by omega)

theorem toBytes_run {e : TypeId} {s : ByteArray} {K : Nat → Nat → Hp → Prop} (hle : h.le w) (frle : fr.le w) (dj : h.dj fr) (hk : toBytesP e s h K) :
    ∃ b cap h' w', K b cap h' ∧ (Conv.stringToBytes e s).run P w = .ok (.slice (some ⟨b, 0, none⟩) s.size cap) w' ∧ HStep h fr h' w w' := by
  obtain ⟨nc, hnc, hch⟩ : ∃ nc, s.size ≤ nc ∧ (choose (.appendCap s.size 0 e)).run P w = .ok nc w.drew := by
    refine ⟨_, ?_, by rw [run_choose]; simp only [Question.forced, Bool.false_eq_true, if_false]; rfl⟩
    simp only [Question.cut]; omega
  have hK := hk nc (List.replicate (nc - s.size) (.int .u8 0)) w.heap.size hnc (by simp) (Hp.le_lt hle (Nat.le_refl _))
  let cells : Array Value := (bytesV (s.data.toList.map fun (x : UInt8) => (x.toNat : Int)) ++ List.replicate (nc - s.size) (Value.int .u8 0)).toArray
  have hcells : (s.data.map fun b => Value.int .u8 b.toNat) ++ Array.replicate (nc - s.size) (.int .u8 0) = cells := by
    apply Array.ext'
    simp [cells, bytesV]
  have hsize : cells.size = nc := by
    show (bytesV _ ++ _).length = nc
    simp [bytesV]
    show s.size + _ = nc
    omega
  refine ⟨_, _, _, ((w.drew).alloc (.cells cells e)).freeze ⟨w.heap.size, nc, none⟩ 1, hK, ?_, ?_⟩
  · unfold Conv.stringToBytes
    simp only [Sem.run_bind, hch, Result.andThen_ok, hcells, newRow, run_newObj, Sem.run_pure, markStringish]
    have hsh : (({ w.drew with heap := w.drew.heap.push (.cells cells e) } : World)).shape? w.drew.heap.size = some (e, nc) := by
      have h9 : (w.drew.heap.push (Obj.cells cells e))[w.drew.heap.size]? = some (.cells cells e) := by
        show (w.heap.push (Obj.cells cells e))[w.heap.size]? = _
        simp
      unfold World.shape?
      dsimp only
      rw [h9]
      simp only [hsize]
    simp only [run_shape, hsh, Result.andThen_ok, run_freeze]
    rfl
  · have hblk : (((w.drew).alloc (.cells cells e)).freeze ⟨w.heap.size, nc, none⟩ 1).heap[w.heap.size]? = some (.cells cells e (nc, nc + 1)) := by
      simp only [World.freeze, Nat.one_ne_zero, if_false, Array.getElem?_modify, if_true]
      show (Option.map _ ((w.heap.push (.cells cells e))[w.heap.size]?)) = _
      simp
    have hold : ∀ k, k ≠ w.heap.size → (((w.drew).alloc (.cells cells e)).freeze ⟨w.heap.size, nc, none⟩ 1).heap[k]? = w.heap[k]? := by
      intro k hk
      simp only [World.freeze, Nat.one_ne_zero, if_false, Array.getElem?_modify]
      rw [if_neg (Ne.symm hk)]
      show (w.heap.push _)[k]? = _
      rw [Array.getElem?_push, if_neg hk]
    refine ⟨?_, ?_, Hp.upd_dj dj (Hp.le_lt frle (Nat.le_refl _)) _, ?_, ?_⟩
    · intro k o hk
      unfold Hp.upd at hk
      split at hk
      · rename_i ek; subst ek; cases hk; exact hblk
      · rename_i ek; rw [hold k ek]; exact hle k o hk
    · intro k o hk
      rw [hold k (by rintro rfl; rw [Hp.le_lt frle (Nat.le_refl _)] at hk; cases hk)]; exact frle k o hk
    · refine ⟨?_, ?_, ?_⟩ <;> simp [World.freeze] <;> rfl
    · intro b hb h1 _
      exact ⟨hold b (by omega), by simp only [Hp.upd, if_neg (show b ≠ w.heap.size by omega)]; exact h1⟩

theorem mark_run {ad : Addr} {K : Hp → Prop} (hle : h.le w) (frle : fr.le w) (dj : h.dj fr) (hk : markP ad h K) :
    ∃ h' w', K h' ∧ (markStringish ad).run P w = .ok () w' ∧ HStep h fr h' w w' := by
  obtain ⟨c, e, fz, hb, hk⟩ := hk
  have hw := hle _ _ hb
  refine ⟨_, w.freeze ⟨ad.block, c.size, none⟩ 1, hk, ?_, ?_⟩
  · have hsh : w.shape? ad.block = some (e, c.size) := by simp [World.shape?, hw]
    simp only [markStringish, Sem.run_bind, run_shape, hsh, Result.andThen_ok, run_freeze]
  · have hblk : (w.freeze ⟨ad.block, c.size, none⟩ 1).heap[ad.block]? = some (.cells c e (frz c.size fz)) := by
      simp only [World.freeze, Nat.one_ne_zero, if_false, Array.getElem?_modify, if_true, hw]
      simp [frz]
    have hold : ∀ k, k ≠ ad.block → (w.freeze ⟨ad.block, c.size, none⟩ 1).heap[k]? = w.heap[k]? := by
      intro k hk
      simp only [World.freeze, Nat.one_ne_zero, if_false, Array.getElem?_modify]
      rw [if_neg (Ne.symm hk)]
    have hfr : fr ad.block = none := by
      rcases dj ad.block with e' | e'
      · rw [hb] at e'; cases e'
      · exact e'
    refine ⟨?_, ?_, Hp.upd_dj dj hfr _, ?_, ?_⟩
    · intro k o hk
      unfold Hp.upd at hk
      split at hk
      · rename_i ek; subst ek; cases hk; exact hblk
      · rename_i ek; rw [hold k ek]; exact hle k o hk
    · intro k o hk
      rw [hold k (by rintro rfl; rw [hfr] at hk; cases hk)]; exact frle k o hk
    · refine ⟨?_, ?_, ?_⟩ <;> simp [World.freeze]
    · intro b hb' h1 _
      have : b ≠ ad.block := by rintro rfl; rw [hb] at h1; cases h1
      exact ⟨hold b this, by simp only [Hp.upd, if_neg this]; exact h1⟩

theorem HStep.set (hle : h.le w) (frle : fr.le w) (dj : h.dj fr) {b : Nat} {o o' : Obj} (hb : h b = some o) : HStep h fr (h.upd b o') w { w with heap := w.heap.setIfInBounds b o' } := by
  have hw := hle _ _ hb
  have hlt : b < w.heap.size := by
    rcases Nat.lt_or_ge b w.heap.size with h | h
    · exact h
    · rw [Array.getElem?_eq_none h] at hw; cases hw
  have hold : ∀ k, k ≠ b → (w.heap.setIfInBounds b o')[k]? = w.heap[k]? := fun k hk => by rw [Array.getElem?_setIfInBounds_ne (Ne.symm hk)]
  have hfr : fr b = none := by
    rcases dj b with e' | e'
    · rw [hb] at e'; cases e'
    · exact e'
  refine ⟨?_, ?_, ?_, ⟨rfl, rfl, rfl⟩, ?_⟩
  · intro k o hk
    unfold Hp.upd at hk
    split at hk
    · rename_i ek; subst ek; cases hk; show (w.heap.setIfInBounds _ _)[_]? = _; rw [Array.getElem?_setIfInBounds_self, if_pos hlt]
    · rename_i ek; show (w.heap.setIfInBounds _ _)[_]? = _; rw [hold k ek]; exact hle k o hk
  · intro k o hk
    show (w.heap.setIfInBounds _ _)[_]? = _
    rw [hold k (by rintro rfl; rw [hfr] at hk; cases hk)]; exact frle k o hk
  · exact Hp.upd_dj dj hfr o'
  · intro c _ h1 _
    have : c ≠ b := by rintro rfl; rw [hb] at h1; cases h1
    exact ⟨hold c this, by simp only [Hp.upd, if_neg this]; exact h1⟩

theorem findNow_mapO {c : Cdc} {kk : IntKind} {z : c.T} (n : Int) : ∀ (l : List (Int × c.T × Nat)) (i : Nat),
    ∃ r, Instr.findNow (.int kk) (.int kk n) (l.map fun e => ({ key := .int kk e.1, val := c.enc e.2.1, born := e.2.2 } : MapEntry)) i = some r ∧
      (match r with | some (_, v) => v | none => c.enc z) = c.enc (getM z n l) ∧ ((∀ e ∈ l, n ≠ e.1) → r = none) := by
  intro l
  induction l with
  | nil => intro i; exact ⟨none, rfl, rfl, fun _ => rfl⟩
  | cons e l ih =>
    intro i
    have e1 : Instr.sameNow (.int kk) (.int kk n) (.int kk e.1) = some (n == e.1) := by simp [Instr.sameNow]
    by_cases hn : n = e.1
    · refine ⟨some (i, c.enc e.2.1), ?_, ?_, fun h => absurd hn (h e (by simp))⟩
      · simp only [List.map_cons, Instr.findNow]
        rw [e1, hn]; simp
      · simp [getM, hn]
    · obtain ⟨r, h1, h2, h3⟩ := ih (i + 1)
      refine ⟨r, ?_, ?_, fun h => h3 fun x hx => h x (by simp [hx])⟩
      · simp only [List.map_cons, Instr.findNow]
        rw [e1]
        have : (n == e.1) = false := by simpa using hn
        rw [this]; exact h1
      · rw [h2]; simp [getM, hn]
theorem soundW (hP : Prem P A) (R : Rel A N bx env a h fr w0 w) {o : Oper} {k : EV → Hp → Prop} (hk : opW A P o (look A env) h k) : WOut P o a w h fr k := by
  obtain ⟨dst, op, type, pos, after, guard⟩ := o
  cases op <;> simp only [opW] at hk <;> try exact hk.elim
  case store t x y =>
    split at hk
    · rename_i c ad v hc hx hy
      cases hf : fitsT P c t with
      | false => rw [hf] at hk; exact hk.elim
      | true =>
        rw [hf] at hk
        simp only [cond_true] at hk
        split at hk
        · rename_i z hz
          obtain ⟨hmay, hk⟩ := hk
          have hv := c.law _ _ hz
          subst hv
          have hf' := hf
          simp only [fitsT, Bool.and_eq_true] at hf'
          obtain ⟨⟨hm, _⟩, hn⟩ := hf'
          cases hs : sizeT P t with
          | none => rw [hs] at hn; cases hn
          | some sz =>
            rw [hs] at hn
            have hn := beqT.1 hn
            subst hn
            obtain ⟨hsz, hone⟩ := enc_cells hm z
            have hsc := r_storeCells (P := P) ad (c.enc z).cells.toList 0 w (by simpa [hsz] using may_w R.hle hmay) hone
            refine .inr (.inl ⟨_, _, hk, ?_, HStep.wrs R.hle R.frle R.dj ad (c.enc z).cells.toList ?_⟩)
            · simp only [execOp, Instr.storeAt, R.eval_v hx, R.eval_v hy, Instr.sureAddr, Sem.run_bind, Sem.run_pure, Result.andThen_ok, storeVar, r_size hs]
              rw [if_neg (by simp [hsz])]
              simp only [hsc, Result.andThen_ok]
            · by_cases h0 : c.n = 0
              · left
                apply List.eq_nil_of_length_eq_zero
                simp [hsz, h0]
              · right; exact may_block hmay (by omega)
        · exact hk.elim
    · exact hk.elim
  case lookup t x ix ok =>
    split at hk
    · rename_i kt et hu
      split at hk
      · rename_i kk c z hk1 hc hz
        split at hk
        · rename_i m k' n hx hix
          split at hk
          · rename_i zz hd hzz
            obtain ⟨r, l, clock, rfl, hb, hk⟩ := hk
            have hd := of_decide_eq_true hd
            subst hd
            have hw := R.hle _ _ hb
            obtain ⟨q, hq1, hq2, _⟩ := findNow_mapO (c := c) (kk := kk) (z := zz) n l 0
            refine .inl ⟨_, _, _, _, hk, .inl rfl, ?_, HStep.refl R.hle R.frle R.dj⟩
            have hzv : z = c.enc zz := (c.law _ _ hzz).symm
            have hck0 : ∀ m b w, (Instr.checkKey b (m + 1) kt (.int kk n)).run P w = .ok () w := fun m b w => by
              simp only [Instr.checkKey, Sem.run_bind, r_under hk1, Result.andThen_ok]; rfl
            have hck : ∀ b w, (Instr.checkKey b 10000 kt (.int kk n)).run P w = .ok () w := hck0 9999
            simp only [execOp, Instr.lookup, R.eval_v hx, R.eval_v hix, Sem.run_bind, r_under hu, Result.andThen_ok, (by simp [getObj, Sem.run, hw, mapO] : (getObj r).run P w = .ok (mapO c kk l clock) w)]
            simp only [Sem.run_bind, Sem.run_pure, Result.andThen_ok, hck, Instr.findKey, r_under hk1, hq1]
            cases q with
            | none => simp only [Sem.run_bind, Sem.run_pure, Result.andThen_ok, r_zero hz, hzv]; rw [← hq2]; rfl
            | some q => simp only [Sem.run_bind, Sem.run_pure, Result.andThen_ok]; rw [← hq2]; rfl
          · exact hk.elim
        · exact hk.elim
      · exact hk.elim
    · exact hk.elim
  case mapUpdate t x ix y =>
    split at hk
    · rename_i kt et hu
      split at hk
      · rename_i kk c hk1 hc
        split at hk
        · rename_i m k' n v hx hix hy
          split at hk
          · rename_i vv hd hvv
            obtain ⟨r, l, clock, rfl, hb, hno, hk⟩ := hk
            have hd := of_decide_eq_true hd
            subst hd
            have hw := R.hle _ _ hb
            obtain ⟨q, hq1, _, hq3⟩ := findNow_mapO (c := c) (kk := kk) (z := vv) n l 0
            have hq := hq3 hno
            subst hq
            refine .inr (.inl ⟨_, _, hk, ?_, HStep.set R.hle R.frle R.dj hb⟩)
            have hvv' : v = c.enc vv := (c.law _ _ hvv).symm
            have hck0 : ∀ m b w, (Instr.checkKey b (m + 1) kt (.int kk n)).run P w = .ok () w := fun m b w => by
              simp only [Instr.checkKey, Sem.run_bind, r_under hk1, Result.andThen_ok]; rfl
            have hck : ∀ b w, (Instr.checkKey b 10000 kt (.int kk n)).run P w = .ok () w := hck0 9999
            simp only [execOp, Instr.mapUpdate, R.eval_v hx, R.eval_v hix, R.eval_v hy, Sem.run_bind, r_under hu, Result.andThen_ok, (by simp [getObj, Sem.run, hw, mapO] : (getObj r).run P w = .ok (mapO c kk l clock) w)]
            simp only [mapO, Sem.run_bind, Sem.run_pure, Result.andThen_ok, hck, Instr.findKey, r_under hk1, hq1, hvv']
            have hso : ∀ o, (setObj r o).run P w = .ok () { w with heap := w.heap.setIfInBounds r o } := fun o => by simp [setObj, Sem.run, hw, mapO]
            rw [hso]
            simp
          · exact hk.elim
        · exact hk.elim
      · exact hk.elim
    · exact hk.elim
  case select cs block =>
    refine .inr (.inr (.inr ?_))
    split at hk
    · rename_i sc
      split at hk
      · rename_i hsend
        split at hk
        · rename_i c z r hc hz hr
          have hrun : ∀ b : Option Nat, a.eval sc.chan = .chan b → (execOp a.eval { dst := dst, op := .select #[sc] false, type := type, pos := pos, after := after, guard := guard }).run P w = .ok (.comm #[{ chan := .chan b, send := none, zero := z }] false .select) w := by
            intro b hb
            simp [execOp, hb, hsend, r_zero hz]
          have hev := R.eval_v hr
          cases r with
          | none => exact ⟨_, _, w, _, hk, hrun none hev, HStep.refl R.hle R.frle R.dj, fun f l es h => Conc.step_lone_select_recv_nil h⟩
          | some r =>
            obtain ⟨cap, l, s, r', hb, hk⟩ := hk
            have hw := R.hle _ _ hb
            cases l with
            | nil => exact ⟨_, _, w, _, hk, hrun (some r) hev, HStep.refl R.hle R.frle R.dj, fun f l es h => Conc.step_lone_select_default h hw⟩
            | cons v l =>
              obtain ⟨x, rfl, hk⟩ := hk
              refine ⟨_, _, _, _, hk, hrun (some r) hev, HStep.set R.hle R.frle R.dj hb, fun f l' es h => ?_⟩
              have := Conc.step_lone_select_recv_buf h hw (by simp)
              simpa [World.setChan, goInt] using this
        · exact hk.elim
      · rename_i x hsend
        split at hk
        · rename_i z r v hz hr hx
          have hrun : ∀ b : Option Nat, a.eval sc.chan = .chan b → (execOp a.eval { dst := dst, op := .select #[sc] false, type := type, pos := pos, after := after, guard := guard }).run P w = .ok (.comm #[{ chan := .chan b, send := some v, zero := z }] false .select) w := by
            intro b hb
            simp [execOp, hb, hsend, r_zero hz, R.eval_v hx]
          have hev := R.eval_v hr
          cases r with
          | none => exact ⟨_, _, w, _, hk, hrun none hev, HStep.refl R.hle R.frle R.dj, fun f l es h => Conc.step_lone_select_send_nil h⟩
          | some r =>
            obtain ⟨cap, buf, s, r', hb, h1, h2⟩ := hk
            have hw := R.hle _ _ hb
            by_cases hc : cap ≤ buf.size
            · exact ⟨_, _, w, _, h1 hc, hrun (some r) hev, HStep.refl R.hle R.frle R.dj, fun f l es h => Conc.step_lone_select_send_full h hw hc⟩
            · refine ⟨_, _, _, _, h2 (by omega), hrun (some r) hev, HStep.set R.hle R.frle R.dj hb, fun f l es h => Conc.step_lone_select_send_room h hw (by omega)⟩
        · exact hk.elim
    · exact hk.elim
  case convert s d x =>
    split at hk
    · rename_i e st hs hd hx
      split at hk
      · rename_i hu
        obtain ⟨b, cap, h', w', hk, hr, hst⟩ := toBytes_run (P := P) R.hle R.frle R.dj hk
        refine .inl ⟨_, _, _, _, hk, .inl rfl, ?_, hst⟩
        simp only [execOp, convert, R.eval_v hx, Sem.run_bind, r_under hs, r_under hd, Result.andThen_ok]
        rw [r_under hu]
        simp [hr]
      · exact hk.elim
    · rename_i e' e ad len cap hs hd hx
      split at hk
      · rename_i hu
        cases hq : Nat.beq s d with
        | false => rw [hq] at hk; exact hk.elim
        | true =>
          rw [hq] at hk
          have hq := beqT.1 hq
          subst hq
          obtain ⟨h', w', hk, hr, hst⟩ := mark_run (P := P) R.hle R.frle R.dj hk
          refine .inl ⟨_, _, _, _, hk, .inl rfl, ?_, hst⟩
          simp only [execOp, convert, R.eval_v hx, Sem.run_bind, r_under hs, Result.andThen_ok]
          have he : e' = e := by rw [hs] at hd; cases hd; rfl
          subst he
          rw [r_under hu]
          simp [hr]
      · exact hk.elim
    · exact hk.elim
  case call c =>
    obtain ⟨callee, args, ats⟩ := c
    dsimp only at hk
    split at hk
    · rename_i f l hl
      have hargs : args.map a.eval = l.toArray := Array.ext' (by simpa using vals_eval R hl)
      split at hk
      · rename_i g first captured hfv
        split at hk
        · rename_i r hr
          obtain ⟨⟨fn, body, hfn, hbody⟩, hk⟩ := hk
          refine .inr (.inr (.inl ⟨g, (first.toList ++ (l ++ captured.toList)).toArray, ?_, hk.mono ?_⟩))
          · have hng := hP.noNG g fn hfn
            simp only [execOp, resolve, Deferred.ofValue, R.eval_v hfv, hargs, Sem.run_bind, Sem.run_pure, Result.andThen_ok, invoke, callFunc, run_program, hfn, hng, Bool.false_eq_true, if_false, hbody, Option.isNone_some]
            congr 2
            apply Array.ext'
            simp
          · rintro v h' ⟨y, rfl, hk⟩; exact hk
        · split at hk
          · rename_i r hr
            split at hk
            · rename_i fn hfn
              split at hk
              · rename_i body hbody
                refine .inr (.inr (.inl ⟨g, (first.toList ++ (l ++ captured.toList)).toArray, ?_, hk.mono ?_⟩))
                · have hng := hP.noNG g fn hfn
                  simp only [execOp, resolve, Deferred.ofValue, R.eval_v hfv, hargs, Sem.run_bind, Sem.run_pure, Result.andThen_ok, invoke, callFunc, run_program, hfn, hng, Bool.false_eq_true, if_false, hbody, Option.isNone_some]
                  congr 2
                  apply Array.ext'
                  simp
                · rintro v h' ⟨y, rfl, hk⟩; exact hk
              · obtain ⟨x, hx, hk⟩ := hk
                refine .inl ⟨_, _, _, _, hk, .inl rfl, ?_, HStep.refl R.hle R.frle R.dj⟩
                have hx := hx w R.hle
                simp only [execOp, resolve, Deferred.ofValue, R.eval_v hfv, hargs, Sem.run_bind, Sem.run_pure, Result.andThen_ok, invoke]
                rw [← hx]
                congr 2
                apply Array.ext'
                simp
            · exact hk.elim
          · exact hk.elim
      · exact hk.elim
    · rename_i p len cap q n cap' hl
      have hargs : args.map a.eval = #[.slice p len cap, .slice q n cap'] := Array.ext' (by simpa using vals_eval R hl)
      split at hk
      · rename_i t u ht hu
        split at hk
        · rename_i e u' ht' hu'
          split at hk
          · rename_i cd hcd
            cases hq : (fitsT P cd e && (Nat.ble 1 (bytesT P e) && (Nat.ble (bytesT P e) 1048576 && zeroOk P e))) with
            | false => rw [hq] at hk; exact hk.elim
            | true =>
              rw [hq] at hk
              simp only [cond_true] at hk
              simp only [Bool.and_eq_true] at hq
              obtain ⟨p', l', c', h', w', hk, hr, hst⟩ := append_run (w := w) (ty := type) (cap' := cap') ht hu ht' hu' hq.1 rfl (Nat.le_of_ble_eq_true hq.2.1) (Nat.le_of_ble_eq_true hq.2.2.1) hq.2.2.2 R.hle R.frle R.dj hk
              exact .inl ⟨_, _, _, _, hk, .inl rfl, by simp only [execOp, resolve, hargs, Sem.run_bind, Sem.run_pure, Result.andThen_ok, invoke, builtin, hr], hst⟩
          · exact hk.elim
        · exact hk.elim
      · exact hk.elim
    · rename_i p len cap q n cap' hl
      have hargs : args.map a.eval = #[.slice p len cap, .slice q n cap'] := Array.ext' (by simpa using vals_eval R hl)
      split at hk
      · rename_i t ht
        split at hk
        · rename_i e ht'
          split at hk
          · rename_i cd hcd
            cases hq : fitsT P cd e with
            | false => rw [hq] at hk; exact hk.elim
            | true =>
              rw [hq] at hk
              simp only [cond_true] at hk
              obtain ⟨m, h', w', hk, hr, hst⟩ := copy_run (P := P) (ty := type) (cap := cap) (cap' := cap') ht ht' hq R.hle R.frle R.dj hk
              exact .inl ⟨_, _, _, _, hk, .inl rfl, by simp only [execOp, resolve, hargs, Sem.run_bind, Sem.run_pure, Result.andThen_ok, invoke, builtin, hr], hst⟩
          · exact hk.elim
        · exact hk.elim
      · exact hk.elim
    · rename_i p n cap hl
      have hargs : args.map a.eval = #[.slice p n cap] := Array.ext' (by simpa using vals_eval R hl)
      split at hk
      · rename_i t ht
        split at hk
        · rename_i e ht'
          split at hk
          · rename_i cd z hcd hz
            cases hq : fitsT P cd e with
            | false => rw [hq] at hk; exact hk.elim
            | true =>
              rw [hq] at hk
              simp only [cond_true] at hk
              split at hk
              · rename_i x hx
                obtain ⟨h', w', hk, hr, hst⟩ := clear_run (P := P) (ty := type) (cap := cap) ht ht' hq hz (cd.law _ _ hx).symm R.hle R.frle R.dj hk
                exact .inl ⟨_, _, _, _, hk, .inl rfl, by simp only [execOp, resolve, hargs, Sem.run_bind, Sem.run_pure, Result.andThen_ok, invoke, builtin, hr], hst⟩
              · exact hk.elim
          · exact hk.elim
        · exact hk.elim
      · exact hk.elim
    · exact hk.elim
end
end Go.Eng
