import Derived.Test.YtmkgcdgpokidjaaGreatXMsg
set_option linter.unusedVariables false
/- Chapter 10: sessions, in plain Lean; what both sides share. -/
namespace Go.Proofs.YtmkgcdgpokidjaaGreat
open Go.Eng

/-- A session: its beat, is it up, the number it wants, what it keeps, the number it asked for, the beats since it sent and since it heard. -/
structure SS where
  beat : Nat
  up : Bool
  want : Nat
  all : List Frame
  asked : Nat
  sent : Nat
  heard : Nat
instance (n : Nat) (seq : Int) : Decidable (Gone n seq) := by unfold Gone; exact inferInstance
def ownF (k v : Int) : Frame := ⟨0, k, v, 0, 0, 0, 0, 0⟩
def zeroM : Msg := ⟨0, 0, 0, 0, 0, 0, 0⟩
def logV (s : SS) (v : Int) : SS × List Frame :=
  if Gone s.all.length v then ({ s with up := false }, []) else ({ s with up := true, asked := 0, sent := 0, heard := 0 }, ownF 1 s.want :: s.all.drop (v - 1).toNat)
def sesV (s : SS) (k v : Int) : SS × List Frame × Bool :=
  if k = 3 then ({ s with sent := 0 }, [ownF 2 0], false)
  else if k = 4 then
    if Gone s.all.length v then ({ s with up := false }, [ownF 5 0], true)
    else ({ s with sent := if (s.all.drop (v - 1).toNat).length = 0 then s.sent else 0 }, s.all.drop (v - 1).toNat, false)
  else if k = 5 then ({ s with up := false }, [], true)
  else (s, [], false)
def seqV (s : SS) (x : Frame) : SS × List Frame × Msg × Bool :=
  if ¬ (6 ≤ x.Msg_Kind ∧ x.Msg_Kind ≤ 17) then (s, [], zeroM, false)
  else if x.Seq = s.want then ({ s with want := s.want + 1 }, [], fmsg x, true)
  else if (s.want : Int) < x.Seq ∧ s.asked ≠ s.want then ({ s with asked := s.want, sent := 0 }, [ownF 4 s.want], zeroM, false)
  else (s, [], zeroM, false)
/-- A session takes a frame. -/
def takeV (s : SS) (x : Frame) : SS × List Frame × Msg × Bool × Bool :=
  if x.Seq = 0 ∧ x.Msg_Kind = 1 then ((logV s x.Msg_F_0).1, (logV s x.Msg_F_0).2, zeroM, false, s.up && !(logV s x.Msg_F_0).1.up)
  else if s.up = false then (s, [], zeroM, false, false)
  else if x.Seq = 0 then ((sesV { s with heard := 0 } x.Msg_Kind x.Msg_F_0).1, (sesV { s with heard := 0 } x.Msg_Kind x.Msg_F_0).2.1, zeroM, false, (sesV { s with heard := 0 } x.Msg_Kind x.Msg_F_0).2.2)
  else ((seqV { s with heard := 0 } x).1, (seqV { s with heard := 0 } x).2.1, (seqV { s with heard := 0 } x).2.2.1, (seqV { s with heard := 0 } x).2.2.2, false)
/-- A beat goes by. -/
def tickV (s : SS) : SS × List Frame × Bool :=
  if s.up = false then (s, [], false)
  else if s.heard + 1 = 3 * s.beat then ({ s with up := false, sent := s.sent + 1, heard := s.heard + 1 }, [ownF 5 0], true)
  else if s.heard + 1 = 2 * s.beat then ({ s with sent := 0, heard := s.heard + 1 }, [ownF 3 0], false)
  else if s.beat ≤ s.sent + 1 then ({ s with sent := 0, heard := s.heard + 1 }, [ownF 2 0], false)
  else ({ s with sent := s.sent + 1, heard := s.heard + 1 }, [], false)
def sesK (k : Int) : Bool := decide (1 ≤ k ∧ k ≤ 5)
/-- A message is sent. -/
def sendV (s : SS) (m : Msg) : SS × Frame × Bool :=
  if isV m = false ∨ sesK m.Kind = true then (s, zeroF, false)
  else ({ s with all := s.all ++ [mkF (s.all.length + 1 : Nat) m], sent := if s.up = true then 0 else s.sent }, mkF (s.all.length + 1 : Nat) m, s.up)
def cutV (s : SS) : SS × Bool := ({ s with up := false }, s.up)
def newV (n : Nat) : SS := ⟨n, false, 1, [], 0, 0, 0⟩
/-- The cells of a session. -/
def cellsS (beat : Nat) (up : Bool) (want : Nat) (kp : Option Addr) (a b c : Int) : List Value := [.int .i64 beat, .bool up, .int .i64 want, .pointer kp, .int .i64 a, .int .i64 b, .int .i64 c]
/-- A session in memory: 'lay' says where its three counts lie. -/
def IsS (K : Option Addr → List Frame → Hp → Prop) (lay : SS → Nat × Nat × Nat) (e : TypeId) (p : Option Addr) (s : SS) (c : Hp) : Prop :=
  ∃ (b : Nat) (kp : Option Addr) (ck : Hp) (x : Nat × Nat × Nat), p = some ⟨b, 0, none⟩ ∧ On c [ob b (cellsS s.beat s.up s.want kp x.1 x.2.1 x.2.2) e, ck] ∧ K kp s.all ck ∧ (s.up = true → x = lay s)
def layP (s : SS) : Nat × Nat × Nat := (s.asked, s.sent, s.heard)
def layR (s : SS) : Nat × Nat × Nat := (s.sent, s.heard, s.asked)
def IsSess := IsS IsKeep layP 86
def IsRef := IsS IsRef9 layR 49
theorem isS_of {K : Option Addr → List Frame → Hp → Prop} {lay : SS → Nat × Nat × Nat} {e : TypeId} {b : Nat} {kp : Option Addr} {ck h : Hp} {l : List Hp} {s : SS} (x : Nat × Nat × Nat)
    (o : On h (ob b (cellsS s.beat s.up s.want kp x.1 x.2.1 x.2.2) e :: ck :: l)) (k : K kp s.all ck) (hx : s.up = true → x = lay s) : ∃ c, On h (c :: l) ∧ IsS K lay e (some ⟨b, 0, none⟩) s c := by
  obtain ⟨o1, o2⟩ := On.joined (cs := [_, ck]) (l := l) o
  exact ⟨_, o1, b, kp, ck, x, rfl, o2, k, hx⟩
theorem isS_some {K : Option Addr → List Frame → Hp → Prop} {lay : SS → Nat × Nat × Nat} {e : TypeId} {p : Option Addr} {s : SS} {c : Hp} (w : IsS K lay e p s c) : ∃ b, p = some ⟨b, 0, none⟩ := by
  obtain ⟨b, _, _, _, h, _⟩ := w
  exact ⟨b, h⟩
theorem own_ok {k v : Int} {h : Hp} {Q : Frame → Hp → Prop} (hq : Q (ownF k v) h) : callP Tryz.prog 74 [Value.int .i64 k, Value.int .i64 v] cFrame h Q := by
  refine c74 ?_
  unfold F74
  exact ⟨by decide, by decide, hq⟩
theorem rown_ok {k : Int} {p : Sl} {g h : Hp} {vs : List Int} (hg : g.sub h) (r : Row (cI .i64) g p vs) {Q : Frame → Hp → Prop} (hq : Q (mkF 0 (mkM k (vs.take 6))) h) : callP Tryz.prog 64 [Value.int .i64 k, Value.slice p.a p.len p.cap] cFrame h Q := by
  refine c64 ?_
  unfold F64
  exact of5_ok hg r hq
theorem rown_nil {k : Int} {h : Hp} {Q : Frame → Hp → Prop} (hq : Q (ownF k 0) h) : callP Tryz.prog 64 [Value.int .i64 k, Value.slice none 0 0] cFrame h Q := rown_ok (p := ⟨none, 0, 0⟩) (g := h) (vs := []) (Hp.sub_refl h) (Row.nil h) hq
theorem ses_k {k : Int} {h : Hp} {Q : Bool → Hp → Prop} (hq : Q (sesK k) h) : callP Tryz.prog 66 [Value.int .i64 k] cB h Q := by
  unfold sesK at hq
  refine c66 ?_
  unfold F66
  refine cond_d (fun e => ?_) fun e => ?_
  · rw [decide_eq_decide.2 (show (1 ≤ k ∧ k ≤ 5) ↔ k ≤ 5 by omega)] at hq; exact hq
  · rw [decide_eq_false (by omega)] at hq; exact hq
theorem rses_k {k : Int} {h : Hp} {Q : Bool → Hp → Prop} (hq : Q (sesK k) h) : callP Tryz.prog 69 [Value.int .i64 k] cB h Q := by
  unfold sesK at hq
  refine c69 ?_
  unfold F69
  refine cond_d (fun e => ?_) fun e => ?_
  · rw [decide_eq_decide.2 (show (1 ≤ k ∧ k ≤ 5) ↔ k ≤ 5 by omega)] at hq; exact hq
  · rw [decide_eq_false (by omega)] at hq; exact hq
theorem ask_k {k : Int} {h : Hp} {Q : Bool → Hp → Prop} (hq : Q (decide (6 ≤ k ∧ k ≤ 17)) h) : callP Tryz.prog 84 [Value.int .i64 k] cB h Q := by
  refine c84 ?_
  unfold F84
  refine cond_d (fun e => ?_) fun e => ?_
  · rw [decide_eq_decide.2 (show (6 ≤ k ∧ k ≤ 17) ↔ k ≤ 17 by omega)] at hq; exact hq
  · rw [decide_eq_false (by omega)] at hq; exact hq
theorem rask_k {k : Int} {h : Hp} {Q : Bool → Hp → Prop} (hq : Q (decide (6 ≤ k ∧ k ≤ 17)) h) : callP Tryz.prog 63 [Value.int .i64 k] cB h Q := by
  refine c63 ?_
  unfold F63
  refine cond_d (fun e => ?_) fun e => ?_
  · rw [decide_eq_decide.2 (show (6 ≤ k ∧ k ≤ 17) ↔ k ≤ 17 by omega)] at hq; exact hq
  · rw [decide_eq_false (by omega)] at hq; exact hq
/-- One frame of its own, as a row. -/
theorem one_ok {x : Frame} {h : Hp} {l : List Hp} (o : On h l) {K : Nat → Hp → Prop} (hk : ∀ k d h', On h' (d :: l) → Row cFrame d ⟨some ⟨k, 0, none⟩, 1, 1⟩ [x] → Own cFrame d ⟨some ⟨k, 0, none⟩, 1, 1⟩ [x] → K k h') : allocP (Obj.cells (cFrame.enc x).cells 65) h K := by
  refine alloc_ob o fun k h' o' => ?_
  exact hk k _ h' o' (row_ob (cd := cFrame) (xs := [x]) rfl rfl) (own_ob (cd := cFrame) (xs := [x]) (rest := []) rfl rfl rfl)
end Go.Proofs.YtmkgcdgpokidjaaGreat

/- Chapter 10: the program's sessions. -/
namespace Go.Proofs.YtmkgcdgpokidjaaGreat
open Go.Eng

theorem new10_ok {n : Int} {h : Hp} {l : List Hp} (o : On h l) {Q : Option Addr → Hp → Prop} (h0 : n < 1 ∨ 1000 < n → Q none h) (h1 : 1 ≤ n → n ≤ 1000 → ∀ p c h', On h' (c :: l) → IsSess p (newV n.toNat) c → Q p h') : callP Tryz.prog 20 [Value.int .i64 n] cP h Q := by
  refine c20 ?_
  unfold F20
  refine join_i (fun t h' => h' = h ∧ (t = true → n < 1 ∨ 1000 < n) ∧ (t = false → 1 ≤ n ∧ n ≤ 1000)) ?_ fun J hJ => ?_
  · rintro t h' ⟨rfl, ht, hf⟩
    refine cond_i (fun e => h0 (ht e)) fun e => ?_
    obtain ⟨a, b⟩ := hf e
    refine knew_ok o fun kp ck h2 o2 wk => ?_
    refine alloc_ob o2 fun k3 h3 o3 => ?_
    obtain ⟨m, rfl⟩ : ∃ m : Nat, n = m := ⟨n.toNat, by omega⟩
    obtain ⟨c, o4, w4⟩ := isS_of (s := newV m) (lay := layP) (K := IsKeep) (0, 0, 0) o3 wk (fun h => by cases h)
    exact h1 a b _ c h3 o4 w4
  · refine cond_d (fun e => hJ _ _ ⟨rfl, fun _ => .inl e, fun h => (by cases h)⟩) fun e => hJ _ _ ⟨rfl, fun h => .inr (of_decide_eq_true h), fun h => ?_⟩
    have h := of_decide_eq_false h
    omega
theorem up10_ok {p : Option Addr} {s : SS} {c h : Hp} (hc : c.sub h) (w : IsSess p s c) {Q : Bool → Hp → Prop} (hq : Q s.up h) : callP Tryz.prog 41 [Value.pointer p] cB h Q := by
  obtain ⟨b, kp, ck, x, rfl, oc, wk, hx⟩ := w
  refine c41 ?_
  unfold F41
  dsimp only [nilP]
  exact cond_t rfl ⟨s.up, Hp.sub_rds (Hp.sub_trans (oc.get (i := 0) rfl) hc) (ob_rds rfl), hq⟩
theorem up10_nil {h : Hp} {Q : Bool → Hp → Prop} (hq : Q false h) : callP Tryz.prog 41 [Value.pointer none] cB h Q := by
  refine c41 ?_
  unfold F41
  exact cond_f rfl hq
theorem cut10_ok {p : Option Addr} {s : SS} {c h : Hp} {l : List Hp} (o : On h (c :: l)) (w : IsSess p s c) {Q : Bool → Hp → Prop} (hq : ∀ c' h', On h' (c' :: l) → IsSess p (cutV s).1 c' → Q (cutV s).2 h') : callP Tryz.prog 36 [Value.pointer p] cB h Q := by
  have w' := w
  obtain ⟨b, kp, ck, x, rfl, oc, wk, hx⟩ := w
  refine c36 ?_
  unfold F36
  dsimp only [nilP]
  have os := o.split oc
  unfold cutV at hq
  refine join_i (fun t h' => h' = h ∧ t = !s.up) ?_ fun J hJ => cond_f rfl (load_ob (x := s.up) os 0 rfl rfl (hJ _ _ ⟨rfl, rfl⟩))
  rintro t h' ⟨rfl, rfl⟩
  refine cond_i (fun e => ?_) fun e => ?_
  · have e : s.up = false := by simpa using e
    have := hq c h' o
    rw [e] at this
    obtain ⟨beat, up, want, all, asked, sent, heard⟩ := s
    cases e
    exact this w'
  · have e : s.up = true := by simpa using e
    refine store_ob (cd := cB) (i := 1) (x := false) (vs' := cellsS s.beat false s.want kp x.1 x.2.1 x.2.2) os rfl rfl (by show 1 + 1 ≤ 7; omega) fun h1 o1 => ?_
    obtain ⟨c', o2, w2⟩ := isS_of (s := { s with up := false }) (lay := layP) (K := IsKeep) (e := 86) x o1 wk (fun h => by cases h)
    have := hq c' h1 o2 w2
    rw [e] at this
    exact this
theorem logs_ok {b : Nat} {kp : Option Addr} {ck h : Hp} {l : List Hp} {beat want : Nat} {up : Bool} {all : List Frame} {a4 a5 a6 : Nat} {v : Int} (o : On h (ob b (cellsS beat up want kp a4 a5 a6) 86 :: ck :: l)) (wk : IsKeep kp all ck) (hl : all.length ≤ 1000000) (hs : I64 v)
    {Q : Sl × Bool → Hp → Prop} (h0 : Gone all.length v → ∀ h', On h' (ob b (cellsS beat false want kp a4 a5 a6) 86 :: ck :: l) → Q (⟨none, 0, 0⟩, false) h')
    (h1 : ¬ Gone all.length v → ∀ sl d h', On h' (ob b (cellsS beat true want kp 0 a5 0) 86 :: ck :: d :: l) → Row cFrame d sl (ownF 1 want :: all.drop (v - 1).toNat) → Q (sl, true) h') :
    callP Tryz.prog 51 [Value.pointer (some ⟨b, 0, none⟩), Value.int .i64 v] (tupC [cSl, cB]) h Q := by
  refine c51 ?_
  unfold F51
  dsimp only [nilP]
  refine load_ob (x := kp) o 0 rfl rfl ?_
  refine kfrom_ok o.swap wk hl hs (fun hg => ?_) fun hg s d h2 o2 w2 => ?_
  · refine store_ob (cd := cB) (i := 1) (x := false) (vs' := cellsS beat false want kp a4 a5 a6) o rfl rfl (by show 1 + 1 ≤ 7; omega) fun h1 o1 => ?_
    exact cond_t rfl (h0 hg h1 o1)
  · have o2' : On h2 (ob b (cellsS beat up want kp a4 a5 a6) 86 :: ck :: d :: l) := o2.pick [2, 1, 0] 3 (by decide) (by decide)
    refine store_ob (cd := cB) (i := 1) (x := true) (vs' := cellsS beat true want kp a4 a5 a6) o2' rfl rfl (by show 1 + 1 ≤ 7; omega) fun h3 o3 => ?_
    refine cond_f rfl ?_
    refine store_ob (cd := cI .i64) (i := 6) (x := (0 : Int)) (vs' := cellsS beat true want kp a4 a5 0) o3 rfl rfl (by show 6 + 1 ≤ 7; omega) fun h4 o4 => ?_
    refine store_ob (cd := cI .i64) (i := 4) (x := (0 : Int)) (vs' := cellsS beat true want kp 0 a5 0) o4 rfl rfl (by show 4 + 1 ≤ 7; omega) fun h5 o5 => ?_
    refine load_ob (cd := cI .i64) (x := (want : Int)) o5 0 rfl rfl ?_
    refine own_ok ?_
    refine one_ok (x := ownF 1 want) o5 fun k6 d6 h6 o6 r6 w6 => ?_
    refine append_own (g := d) (s := ⟨some ⟨k6, 0, none⟩, 1, 1⟩) (t := s) o6 rfl w6 (by decide) w2.row (o6.mem (by simp)) (by unfold roomP; simp; omega) fun d7 p7 n7 m7 h7 o7 w7 => ?_
    exact h1 hg ⟨p7, n7, m7⟩ d7 h7 (o7.pick [1, 2, 0] 4 (by decide) (by decide)) w7.row
theorem takes_ok {b : Nat} {kp : Option Addr} {ck h : Hp} {l : List Hp} {s : SS} {x : Frame} (o : On h (ob b (cellsS s.beat true s.want kp s.asked s.sent s.heard) 86 :: ck :: l)) (wk : IsKeep kp s.all ck) (hup : s.up = true) (hl : s.all.length ≤ 1000000) (hw : s.want ≤ 1000000) (hs : I64 x.Msg_F_0) (hne : x.Seq ≠ 0)
    {Q : Sl × Msg × Bool → Hp → Prop} (hq : ∀ sl d h', On h' (ob b (cellsS s.beat true (seqV s x).1.want kp (seqV s x).1.asked s.sent s.heard) 86 :: ck :: d :: l) → Row cFrame d sl (seqV s x).2.1 → Q (sl, (seqV s x).2.2.1, (seqV s x).2.2.2) h') :
    callP Tryz.prog 52 [Value.pointer (some ⟨b, 0, none⟩), cFrame.enc x] (tupC [cSl, cMsg, cB]) h Q := by
  refine c52 ?_
  unfold F52
  dsimp only [nilP]
  have oe : On h (ob b (cellsS s.beat true s.want kp s.asked s.sent s.heard) 86 :: ck :: Hp.emp :: l) := o.emp.pick [1, 2, 0] 3 (by decide) (by decide)
  refine cond_f (by simpa using hne) ?_
  refine ask_k ?_
  unfold seqV at hq
  by_cases hk : 6 ≤ x.Msg_Kind ∧ x.Msg_Kind ≤ 17
  · rw [if_neg (by simpa using hk)] at hq
    refine cond_f (by rw [decide_eq_true hk]; rfl) ?_
    refine load_ob (cd := cI .i64) (x := (s.want : Int)) o 0 rfl rfl ?_
    by_cases he : x.Seq = (s.want : Int)
    · rw [if_pos he] at hq
      refine cond_t (by simpa using he) ?_
      refine load_ob (cd := cI .i64) (x := (s.want : Int)) o 0 rfl rfl ?_
      rw [w64n (by omega)]
      refine store_ob (cd := cI .i64) (i := 2) (x := ((s.want + 1 : Nat) : Int)) (vs' := cellsS s.beat true (s.want + 1) kp s.asked s.sent s.heard) oe rfl rfl (by show 2 + 1 ≤ 7; omega) fun h3 o3 => ?_
      exact hq ⟨none, 0, 0⟩ Hp.emp h3 o3 (Row.nil _)
    · rw [if_neg he] at hq
      refine cond_f (by simpa using he) ?_
      refine join_i (fun t h' => h' = h ∧ t = decide ((s.want : Int) < x.Seq ∧ s.asked ≠ s.want)) ?_ fun J hJ => ?_
      · rintro t h' ⟨rfl, rfl⟩
        refine cond_d (fun ha => ?_) fun ha => ?_
        · rw [if_pos ha] at hq
          refine load_ob (cd := cI .i64) (x := (s.want : Int)) o 0 rfl rfl ?_
          refine store_ob (cd := cI .i64) (i := 4) (x := (s.want : Int)) (vs' := cellsS s.beat true s.want kp s.want s.sent s.heard) o rfl rfl (by show 4 + 1 ≤ 7; omega) fun h3 o3 => ?_
          refine load_ob (cd := cI .i64) (x := (s.want : Int)) o3 0 rfl rfl ?_
          refine own_ok ?_
          refine one_ok (x := ownF 4 s.want) o3 fun k6 d6 h6 o6 r6 w6 => ?_
          exact hq _ d6 h6 (o6.pick [1, 2, 0] 3 (by decide) (by decide)) r6
        · rw [if_neg ha] at hq
          exact hq ⟨none, 0, 0⟩ Hp.emp h' oe (Row.nil _)
      · refine load_ob (cd := cI .i64) (x := (s.want : Int)) o 0 rfl rfl ?_
        refine cond_d (fun hgt => ?_) fun hle => ?_
        · refine load_ob (cd := cI .i64) (x := (s.asked : Int)) o 0 rfl rfl ?_
          refine load_ob (cd := cI .i64) (x := (s.want : Int)) o 0 rfl rfl ?_
          refine hJ _ _ ⟨rfl, ?_⟩
          rw [Bool.eq_iff_iff]
          simp only [bne_iff_ne, ne_eq, decide_eq_true_eq]
          omega
        · exact hJ _ _ ⟨rfl, (decide_eq_false (by omega)).symm⟩
  · rw [if_pos hk] at hq
    refine cond_t (by rw [decide_eq_false hk]; rfl) ?_
    exact hq ⟨none, 0, 0⟩ Hp.emp h oe (Row.nil _)
end Go.Proofs.YtmkgcdgpokidjaaGreat

/- Chapter 10: the program's sessions: a frame taken, a beat, a message sent. -/
namespace Go.Proofs.YtmkgcdgpokidjaaGreat
open Go.Eng

/-- What a session's own message brings, before the count of beats is struck. -/
def sesP (s : SS) (k v : Int) : SS × List Frame :=
  if k = 1 then (if Gone s.all.length v then ({ s with up := false }, []) else ({ s with up := true, asked := 0, heard := 0 }, ownF 1 s.want :: s.all.drop (v - 1).toNat))
  else if k = 3 then (s, [ownF 2 0])
  else if k = 4 then (if Gone s.all.length v then ({ s with up := false }, [ownF 5 0]) else (s, s.all.drop (v - 1).toNat))
  else if k = 5 then ({ s with up := false }, [])
  else (s, [])
def cellsOf (s : SS) (kp : Option Addr) : List Value := cellsS s.beat s.up s.want kp s.asked s.sent s.heard
theorem session_ok {b : Nat} {kp : Option Addr} {ck h : Hp} {l : List Hp} {s : SS} {m : Msg} (o : On h (ob b (cellsOf s kp) 86 :: ck :: l)) (wk : IsKeep kp s.all ck) (hl : s.all.length ≤ 1000000) (hs : I64 m.F_0)
    {Q : Sl → Hp → Prop} (hq : ∀ sl d h', On h' (ob b (cellsOf (sesP s m.Kind m.F_0).1 kp) 86 :: ck :: d :: l) → Row cFrame d sl (sesP s m.Kind m.F_0).2 → Q sl h') :
    callP Tryz.prog 83 [Value.pointer (some ⟨b, 0, none⟩), cMsg.enc m] cSl h Q := by
  refine c83 ?_
  unfold F83
  dsimp only [nilP]
  unfold sesP at hq
  have oe : On h (ob b (cellsOf s kp) 86 :: ck :: Hp.emp :: l) := o.emp.pick [1, 2, 0] 3 (by decide) (by decide)
  by_cases h1 : m.Kind = 1
  · rw [if_pos h1] at hq
    refine join_i (fun _ _ => False) (fun _ _ h => h.elim) fun J hJ => cond_t (by simpa using h1) ?_
    refine ⟨by decide, by decide, ?_⟩
    refine logs_ok o wk hl hs (fun hg h2 o2 => ?_) fun hg sl d h2 o2 r2 => ?_
    · rw [if_pos hg] at hq
      exact hq _ Hp.emp h2 (o2.emp.pick [1, 2, 0] 3 (by decide) (by decide)) (Row.nil _)
    · rw [if_neg hg] at hq
      exact hq sl d h2 o2 r2
  · rw [if_neg h1] at hq
    by_cases h3 : m.Kind = 3
    · rw [if_pos h3] at hq
      refine join_i (fun _ _ => False) (fun _ _ h => h.elim) fun J hJ => cond_f (by simpa using h1) (cond_t (by simpa using h3) ?_)
      refine own_ok ?_
      refine one_ok (x := ownF 2 0) o fun k6 d6 h6 o6 r6 w6 => ?_
      exact hq _ d6 h6 (o6.pick [1, 2, 0] 3 (by decide) (by decide)) r6
    · rw [if_neg h3] at hq
      by_cases h4 : m.Kind = 4
      · rw [if_pos h4] at hq
        refine join_i (fun _ _ => False) (fun _ _ h => h.elim) fun J hJ => cond_f (by simpa using h1) (cond_f (by simpa using h3) (cond_t (by simpa using h4) ?_))
        refine ⟨by decide, by decide, ?_⟩
        refine load_ob (x := kp) o 0 rfl rfl ?_
        refine kfrom_ok o.swap wk hl hs (fun hg => ?_) fun hg sl d h2 o2 w2 => ?_
        · rw [if_pos hg] at hq
          refine cond_t rfl ?_
          refine store_ob (cd := cB) (i := 1) (x := false) (vs' := cellsOf { s with up := false } kp) o rfl rfl (by show 1 + 1 ≤ 7; omega) fun h5 o5 => ?_
          refine own_ok ?_
          refine one_ok (x := ownF 5 0) o5 fun k6 d6 h6 o6 r6 w6 => ?_
          exact hq _ d6 h6 (o6.pick [1, 2, 0] 3 (by decide) (by decide)) r6
        · rw [if_neg hg] at hq
          exact cond_f rfl (hq sl d h2 (o2.pick [2, 1, 0] 3 (by decide) (by decide)) w2.row)
      · rw [if_neg h4] at hq
        by_cases h5 : m.Kind = 5
        · rw [if_pos h5] at hq
          refine join_i (fun _ h' => On h' (ob b (cellsOf { s with up := false } kp) 86 :: ck :: l)) ?_ fun J hJ => cond_f (by simpa using h1) (cond_f (by simpa using h3) (cond_f (by simpa using h4) (cond_t (by simpa using h5) ?_)))
          · intro _ h' o'
            exact hq _ Hp.emp h' (o'.emp.pick [1, 2, 0] 3 (by decide) (by decide)) (Row.nil _)
          · refine store_ob (cd := cB) (i := 1) (x := false) (vs' := cellsOf { s with up := false } kp) o rfl rfl (by show 1 + 1 ≤ 7; omega) fun h5 o5 => ?_
            exact hJ _ _ o5
        · rw [if_neg h5] at hq
          refine join_i (fun _ h' => h' = h) ?_ fun J hJ => cond_f (by simpa using h1) (cond_f (by simpa using h3) (cond_f (by simpa using h4) (cond_f (by simpa using h5) (hJ _ _ rfl))))
          rintro _ h' rfl
          exact hq _ Hp.emp h' oe (Row.nil _)
theorem seqV_same (s : SS) (x : Frame) : (seqV s x).1.beat = s.beat ∧ (seqV s x).1.up = s.up ∧ (seqV s x).1.all = s.all ∧ (seqV s x).1.heard = s.heard ∧ (seqV s x).1.sent = if (seqV s x).2.1.length = 0 then s.sent else 0 := by
  unfold seqV
  split
  · exact ⟨rfl, rfl, rfl, rfl, rfl⟩
  · split
    · exact ⟨rfl, rfl, rfl, rfl, rfl⟩
    · split
      · exact ⟨rfl, rfl, rfl, rfl, rfl⟩
      · exact ⟨rfl, rfl, rfl, rfl, rfl⟩
/-- What 's1' comes to when its frames 'fs' are sent. -/
def Fin (s1 : SS) (fs : List Frame) (t : SS) : Prop :=
  s1.beat = t.beat ∧ s1.up = t.up ∧ s1.want = t.want ∧ s1.all = t.all ∧ (t.up = true → s1.asked = t.asked ∧ s1.heard = t.heard ∧ t.sent = if fs.length = 0 then s1.sent else 0)
theorem sesP_fin (s : SS) (x : Frame) (hup : s.up = true) (h0 : x.Seq = 0) : (sesP { s with heard := 0 } x.Msg_Kind x.Msg_F_0).2 = (takeV s x).2.1 ∧ (takeV s x).2.2 = (zeroM, false, !(sesP { s with heard := 0 } x.Msg_Kind x.Msg_F_0).1.up) ∧ Fin (sesP { s with heard := 0 } x.Msg_Kind x.Msg_F_0).1 (sesP { s with heard := 0 } x.Msg_Kind x.Msg_F_0).2 (takeV s x).1 := by
  obtain ⟨beat, up, want, all, asked, sent, heard⟩ := s
  have hup : up = true := hup
  subst hup
  unfold takeV sesP
  by_cases h1 : x.Msg_Kind = 1
  · rw [if_pos h1, if_pos (show x.Seq = 0 ∧ x.Msg_Kind = 1 from ⟨h0, h1⟩)]
    unfold logV
    by_cases hg : Gone all.length x.Msg_F_0
    · simp only [hg, ↓reduceIte]; refine ⟨?_, ?_, ?_, ?_, ?_, ?_, ?_⟩ <;> first | rfl | trivial | (intro h; cases h)
    · simp only [hg, ↓reduceIte]; refine ⟨?_, ?_, ?_, ?_, ?_, ?_, ?_⟩ <;> first | rfl | trivial | (intro _; exact ⟨rfl, rfl, rfl⟩)
  · rw [if_neg h1, if_neg (show ¬ (x.Seq = 0 ∧ x.Msg_Kind = 1) from fun h => h1 h.2), if_neg (show ¬ (true = false) by simp), if_pos h0]
    unfold sesV
    by_cases h3 : x.Msg_Kind = 3
    · rw [if_pos h3, if_pos h3]; exact ⟨rfl, rfl, rfl, rfl, rfl, rfl, fun _ => ⟨rfl, rfl, rfl⟩⟩
    · rw [if_neg h3, if_neg h3]
      by_cases h4 : x.Msg_Kind = 4
      · rw [if_pos h4, if_pos h4]
        by_cases hg : Gone all.length x.Msg_F_0
        · simp only [hg, ↓reduceIte]; refine ⟨?_, ?_, ?_, ?_, ?_, ?_, ?_⟩ <;> first | rfl | trivial | (intro h; cases h)
        · simp only [hg, ↓reduceIte]; refine ⟨?_, ?_, ?_, ?_, ?_, ?_, ?_⟩ <;> first | rfl | trivial | (intro _; exact ⟨rfl, rfl, rfl⟩)
      · rw [if_neg h4, if_neg h4]
        by_cases h5 : x.Msg_Kind = 5
        · rw [if_pos h5, if_pos h5]; exact ⟨rfl, rfl, rfl, rfl, rfl, rfl, fun h => by cases h⟩
        · rw [if_neg h5, if_neg h5]; exact ⟨rfl, rfl, rfl, rfl, rfl, rfl, fun _ => ⟨rfl, rfl, rfl⟩⟩
theorem take10_ok {p : Option Addr} {s : SS} {x : Frame} {c h : Hp} {l : List Hp} (o : On h (c :: l)) (w : IsSess p s c) (hl : s.all.length ≤ 1000000) (hw : s.want ≤ 1000000) (hs : I64 x.Msg_F_0)
    {Q : Sl × Msg × Bool × Bool → Hp → Prop} (hq : ∀ sl c' r' h', On h' (c' :: r' :: l) → IsSess p (takeV s x).1 c' → Row cFrame r' sl (takeV s x).2.1 → Q (sl, (takeV s x).2.2) h') :
    callP Tryz.prog 27 [Value.pointer p, cFrame.enc x] (tupC [cSl, cMsg, cB, cB]) h Q := by
  obtain ⟨b, kp, ck, y, rfl, oc, wk, hx⟩ := w
  refine c27 ?_
  unfold F27
  dsimp only [nilP]
  have os := o.split oc
  have oe : On h (ob b (cellsS s.beat s.up s.want kp y.1 y.2.1 y.2.2) 86 :: ck :: Hp.emp :: l) := On.pick (l := Hp.emp :: ob b (cellsS s.beat s.up s.want kp y.1 y.2.1 y.2.2) 86 :: ck :: l) os.emp [1, 2, 0] 3 (by decide) (by decide)
  refine cond_f rfl ?_
  refine join_i (fun z h' => ∃ (s1 : SS) (d : Hp) (y : Nat × Nat × Nat), On h' (ob b (cellsS s1.beat s1.up s1.want kp y.1 y.2.1 y.2.2) 86 :: ck :: d :: l) ∧ (s1.up = true → y = layP s1) ∧ s1.all = s.all ∧ Row cFrame d z.1 (takeV s x).2.1 ∧ z.2 = (takeV s x).2.2 ∧ Fin s1 (takeV s x).2.1 (takeV s x).1) ?_ fun J hJ => ?_
  · rintro ⟨z1, z2⟩ h1 ⟨s1, d, y, o1, hy, hall, r1, hz, f1, f2, f3, f4, f5⟩
    dsimp only at hz r1
    subst hz
    rw [f1, f2, f3] at o1
    have wk' : IsKeep kp (takeV s x).1.all ck := by rw [← f4, hall]; exact wk
    refine join_i (fun _ h' => ∃ c', On h' (c' :: d :: l) ∧ IsSess (some ⟨b, 0, none⟩) (takeV s x).1 c') ?_ fun J2 hJ2 => ?_
    · rintro _ h2 ⟨c', o2, w2⟩
      exact hq z1 c' d h2 o2 w2 r1
    · have hrl := r1.1
      refine cond_d (fun hpos => ?_) fun hpos => ?_
      · refine store_ob (cd := cI .i64) (i := 5) (x := (0 : Int)) (vs' := cellsS (takeV s x).1.beat (takeV s x).1.up (takeV s x).1.want kp y.1 0 y.2.2) o1 rfl rfl (by show 5 + 1 ≤ 7; omega) fun h2 o2 => ?_
        obtain ⟨c', o3, w3⟩ := isS_of (s := (takeV s x).1) (lay := layP) (K := IsKeep) (e := 86) (y.1, 0, y.2.2) o2 wk' (fun h => by
          obtain ⟨g1, g2, g3⟩ := f5 h
          have e := hy (by rw [f2]; exact h)
          rw [e]
          rw [if_neg (by dsimp only at hpos; omega)] at g3
          unfold layP
          rw [g1, g2, g3])
        exact hJ2 _ _ ⟨c', o3, w3⟩
      · obtain ⟨c', o3, w3⟩ := isS_of (s := (takeV s x).1) (lay := layP) (K := IsKeep) (e := 86) y o1 wk' (fun h => by
          obtain ⟨g1, g2, g3⟩ := f5 h
          have e := hy (by rw [f2]; exact h)
          rw [e]
          rw [if_pos (by dsimp only at hpos; omega)] at g3
          unfold layP
          rw [g1, g2, g3])
        exact hJ2 _ _ ⟨c', o3, w3⟩
  · refine load_ob (x := s.up) os 0 rfl rfl ?_
    refine cond_i (fun e => ?_) fun e => ?_
    · have e : s.up = false := by simpa using e
      refine join_i (fun t h' => h' = h ∧ t = decide (x.Seq = 0 ∧ x.Msg_Kind = 1)) ?_ fun J3 hJ3 => ?_
      · rintro t h' ⟨rfl, rfl⟩
        refine cond_d (fun hk => ?_) fun hk => ?_
        · have et : takeV s x = ((logV s x.Msg_F_0).1, (logV s x.Msg_F_0).2, zeroM, false, s.up && !(logV s x.Msg_F_0).1.up) := by unfold takeV; rw [if_pos hk]
          refine ⟨by decide, by decide, ?_⟩
          refine logs_ok (a4 := y.1) (a5 := y.2.1) (a6 := y.2.2) os wk hl hs (fun hg h2 o2 => ?_) fun hg sl d h2 o2 r2 => ?_
          · have el : logV s x.Msg_F_0 = ({ s with up := false }, []) := by unfold logV; rw [if_pos hg]
            rw [el, e] at et
            refine hJ _ _ ⟨{ s with up := false }, Hp.emp, y, o2.emp.pick [1, 2, 0] 3 (by decide) (by decide), fun h => (by cases h), rfl, ?_, ?_, ?_⟩
            · rw [et]; exact Row.nil _
            · rw [et]; rfl
            · rw [et]; exact ⟨rfl, rfl, rfl, rfl, fun h => by cases h⟩
          · have el : logV s x.Msg_F_0 = ({ s with up := true, asked := 0, sent := 0, heard := 0 }, ownF 1 s.want :: s.all.drop (x.Msg_F_0 - 1).toNat) := by unfold logV; rw [if_neg hg]
            rw [el, e] at et
            refine hJ _ _ ⟨{ s with up := true, asked := 0, sent := y.2.1, heard := 0 }, d, (0, y.2.1, 0), o2, fun h => rfl, rfl, ?_, ?_, ?_⟩
            · rw [et]; exact r2
            · rw [et]; rfl
            · rw [et]; exact ⟨rfl, rfl, rfl, rfl, fun _ => ⟨rfl, rfl, by simp⟩⟩
        · have et : takeV s x = (s, [], zeroM, false, false) := by unfold takeV; rw [if_neg hk, if_pos e]
          refine hJ _ _ ⟨s, Hp.emp, y, oe, hx, rfl, ?_, ?_, ?_⟩
          · rw [et]; exact Row.nil _
          · rw [et]; rfl
          · rw [et]; exact ⟨rfl, rfl, rfl, rfl, fun h => by rw [e] at h; cases h⟩
      · refine cond_i (fun h0 => hJ3 _ _ ⟨rfl, ?_⟩) fun h0 => hJ3 _ _ ⟨rfl, ?_⟩
        · have h0 : x.Seq = 0 := by simpa using h0
          rw [Bool.eq_iff_iff]; simp [h0]
        · have h0 : x.Seq ≠ 0 := by simpa using h0
          exact (decide_eq_false (fun h => h0 h.1)).symm
    · have e : s.up = true := by simpa using e
      have hy := hx e
      subst hy
      have os : On h (ob b (cellsOf s kp) 86 :: ck :: l) := os
      refine store_ob (cd := cI .i64) (i := 6) (x := (0 : Int)) (vs' := cellsOf { s with heard := 0 } kp) os rfl rfl (by show 6 + 1 ≤ 7; omega) fun h6 o6 => ?_
      by_cases h0 : x.Seq = 0
      · obtain ⟨q1, q2, q3⟩ := sesP_fin s x e h0
        refine c52 ?_
        unfold F52
        refine cond_t (by simpa using h0) ?_
        refine session_ok (m := fmsg x) (s := { s with heard := 0 }) o6 wk hl hs fun sl d h7 o7 r7 => ?_
        have q4 : (sesP { s with heard := 0 } x.Msg_Kind x.Msg_F_0).1.all = s.all := by
          unfold sesP
          split
          · split <;> rfl
          · split
            · rfl
            · split
              · split <;> rfl
              · split <;> rfl
        refine load_ob (x := (sesP { s with heard := 0 } x.Msg_Kind x.Msg_F_0).1.up) o7 0 rfl rfl ?_
        refine hJ _ _ ⟨(sesP { s with heard := 0 } x.Msg_Kind x.Msg_F_0).1, d, layP _, o7, fun _ => rfl, q4, ?_, ?_, ?_⟩
        · rw [← q1]; exact r7
        · rw [q2]; rfl
        · rw [← q1]; exact q3
      · have et : takeV s x = ((seqV { s with heard := 0 } x).1, (seqV { s with heard := 0 } x).2.1, (seqV { s with heard := 0 } x).2.2.1, (seqV { s with heard := 0 } x).2.2.2, false) := by
          unfold takeV; rw [if_neg (fun h => h0 h.1), if_neg (by rw [e]; simp), if_neg h0]
        obtain ⟨v1, v2, v3, v4, v5⟩ := seqV_same { s with heard := 0 } x
        have o6' : On h6 (ob b (cellsS s.beat true s.want kp s.asked s.sent (0 : Nat)) 86 :: ck :: l) := by rw [← e]; exact o6
        refine takes_ok (s := { s with heard := 0 }) o6' wk e hl hw hs h0 fun sl d h7 o7 r7 => ?_
        refine load_ob (x := true) o7 0 rfl rfl ?_
        refine hJ _ _ ⟨{ (seqV { s with heard := 0 } x).1 with sent := s.sent }, d, ((seqV { s with heard := 0 } x).1.asked, s.sent, 0), ?_, ?_, v3, ?_, ?_, ?_⟩
        · dsimp only
          have ee : (seqV { s with heard := 0 } x).1.up = true := by rw [v2]; exact e
          rw [v1, ee]
          exact o7
        · intro _
          unfold layP
          rw [show ({ (seqV { s with heard := 0 } x).1 with sent := s.sent } : SS).heard = 0 from v4]
        · rw [et]; exact r7
        · rw [et]; rfl
        · rw [et]; exact ⟨rfl, rfl, rfl, rfl, fun _ => ⟨rfl, rfl, v5⟩⟩
end Go.Proofs.YtmkgcdgpokidjaaGreat

/- Chapter 10: the program's sessions: a beat, a message sent; what is known. -/
namespace Go.Proofs.YtmkgcdgpokidjaaGreat
open Go.Eng

theorem tmod_nat (a b : Nat) : (a : Int).tmod (b : Int) = ((a % b : Nat) : Int) := rfl
theorem tdiv_nat (a b : Nat) : (a : Int).tdiv (b : Int) = ((a / b : Nat) : Int) := rfl
theorem div_is {a b k : Nat} (hb : 0 < b) : (a % b = 0 ∧ a / b = k) ↔ a = k * b := by
  constructor
  · rintro ⟨h1, h2⟩
    have := Nat.div_add_mod a b
    rw [h1, h2, Nat.add_zero, Nat.mul_comm] at this
    exact this.symm
  · rintro rfl
    exact ⟨Nat.mul_mod_left _ _, Nat.mul_div_cancel _ hb⟩
theorem tick10_ok {p : Option Addr} {s : SS} {c h : Hp} {l : List Hp} (o : On h (c :: l)) (w : IsSess p s c) (hb : 1 ≤ s.beat ∧ s.beat ≤ 1000) (hs1 : s.sent ≤ 1000000) (hs2 : s.heard ≤ 1000000)
    {Q : Sl × Bool → Hp → Prop} (hq : ∀ sl c' r' h', On h' (c' :: r' :: l) → IsSess p (tickV s).1 c' → Row cFrame r' sl (tickV s).2.1 → Q (sl, (tickV s).2.2) h') :
    callP Tryz.prog 39 [Value.pointer p] (tupC [cSl, cB]) h Q := by
  have w' := w
  obtain ⟨b, kp, ck, y, rfl, oc, wk, hx⟩ := w
  refine c39 ?_
  unfold F39
  dsimp only [nilP]
  have os := o.split oc
  unfold tickV at hq
  refine join_i (fun t h' => h' = h ∧ t = !s.up) ?_ fun J hJ => cond_f rfl (load_ob (x := s.up) os 0 rfl rfl (hJ _ _ ⟨rfl, rfl⟩))
  rintro t h' ⟨rfl, rfl⟩
  refine cond_i (fun e => ?_) fun e => ?_
  · have e : s.up = false := by simpa using e
    rw [if_pos e] at hq
    exact hq _ c Hp.emp h' (o.emp.swap) w' (Row.nil _)
  · have e : s.up = true := by simpa using e
    rw [if_neg (by rw [e]; simp)] at hq
    have hy := hx e
    subst hy
    have os : On h' (ob b (cellsOf s kp) 86 :: ck :: l) := os
    refine load_ob (cd := cI .i64) (x := (s.sent : Int)) os 0 rfl rfl ?_
    rw [w64n (n := s.sent) (by omega)]
    refine store_ob (cd := cI .i64) (i := 5) (x := ((s.sent + 1 : Nat) : Int)) (vs' := cellsOf { s with sent := s.sent + 1 } kp) os rfl rfl (by show 5 + 1 ≤ 7; omega) fun h2 o2 => ?_
    refine load_ob (cd := cI .i64) (x := (s.heard : Int)) o2 0 rfl rfl ?_
    rw [w64n (n := s.heard) (by omega)]
    refine store_ob (cd := cI .i64) (i := 6) (x := ((s.heard + 1 : Nat) : Int)) (vs' := cellsOf { s with sent := s.sent + 1, heard := s.heard + 1 } kp) o2 rfl rfl (by show 6 + 1 ≤ 7; omega) fun h3 o3 => ?_
    refine load_ob (cd := cI .i64) (x := ((s.heard + 1 : Nat) : Int)) o3 0 rfl rfl ?_
    refine load_ob (cd := cI .i64) (x := (s.beat : Int)) o3 0 rfl rfl ?_
    refine ⟨by omega, ?_⟩
    have ediv : quoI .i64 ((s.heard + 1 : Nat) : Int) (s.beat : Int) = (((s.heard + 1) / s.beat : Nat) : Int) := by
      have hle := Nat.div_le_self (s.heard + 1) s.beat
      unfold quoI
      rw [tdiv_nat]
      generalize (s.heard + 1) / s.beat = k at hle ⊢
      exact w64 (by omega) (by omega)
    have d2 := div_is (a := s.heard + 1) (b := s.beat) (k := 2) (by omega)
    have d3 := div_is (a := s.heard + 1) (b := s.beat) (k := 3) (by omega)
    rw [tmod_nat]
    refine join_i (fun s1 h4 => s.heard + 1 ≠ 3 * s.beat ∧ ∃ d, On h4 (ob b (cellsOf { s with sent := s.sent + 1, heard := s.heard + 1 } kp) 86 :: ck :: d :: l) ∧ Row cFrame d s1 (if s.heard + 1 = 2 * s.beat then [ownF 3 0] else if s.beat ≤ s.sent + 1 then [ownF 2 0] else [])) ?_ fun J2 hJ2 => ?_
    · rintro s1 h4 ⟨hne, d, o4, r4⟩
      rw [if_neg hne] at hq
      have hrl := r4.1
      refine join_i (fun _ h' => ∃ n, On h' (ob b (cellsOf { s with sent := n, heard := s.heard + 1 } kp) 86 :: ck :: d :: l) ∧ n = if s1.len = 0 then s.sent + 1 else 0) ?_ fun J1 hJ1 => ?_
      · rintro _ h5 ⟨n, o5, hn⟩
        obtain ⟨c', o6, w6⟩ := isS_of (s := { s with sent := n, heard := s.heard + 1 }) (lay := layP) (K := IsKeep) (e := 86) (s.asked, n, s.heard + 1) o5 wk (fun h => rfl)
        by_cases a2 : s.heard + 1 = 2 * s.beat
        · rw [if_pos a2] at hq r4 hrl
          have hn : n = 0 := by rw [hn, if_neg (by rw [hrl]; simp)]
          subst hn
          exact hq s1 c' d h5 o6 w6 r4
        · rw [if_neg a2] at hq r4 hrl
          by_cases a3 : s.beat ≤ s.sent + 1
          · rw [if_pos a3] at hq r4 hrl
            have hn : n = 0 := by rw [hn, if_neg (by rw [hrl]; simp)]
            subst hn
            exact hq s1 c' d h5 o6 w6 r4
          · rw [if_neg a3] at hq r4 hrl
            have hn : n = s.sent + 1 := by rw [hn, if_pos (by rw [hrl]; rfl)]
            subst hn
            exact hq s1 c' d h5 o6 w6 r4
      · refine cond_d (fun hpos => ?_) fun hpos => hJ1 _ _ ⟨s.sent + 1, o4, by rw [if_pos (by omega)]⟩
        refine store_ob (cd := cI .i64) (i := 5) (x := (0 : Int)) (vs' := cellsOf { s with sent := 0, heard := s.heard + 1 } kp) o4 rfl rfl (by show 5 + 1 ≤ 7; omega) fun h5 o5 => ?_
        exact hJ1 _ _ ⟨0, o5, by rw [if_neg (by omega)]⟩
    · refine join_i (fun t h' => h' = h3 ∧ t = decide (s.heard + 1 = 3 * s.beat)) ?_ fun J4 hJ4 => ?_
      · rintro t h7 ⟨rfl, rfl⟩
        refine cond_d (fun a3 => ?_) fun a3 => ?_
        · rw [if_pos a3] at hq
          refine store_ob (cd := cB) (i := 1) (x := false) (vs' := cellsOf { s with up := false, sent := s.sent + 1, heard := s.heard + 1 } kp) o3 rfl rfl (by show 1 + 1 ≤ 7; omega) fun h8 o8 => ?_
          refine own_ok ?_
          refine one_ok (x := ownF 5 0) o8 fun k6 d6 h6 o6 r6 w6 => ?_
          obtain ⟨c', o9, w9⟩ := isS_of (s := { s with up := false, sent := s.sent + 1, heard := s.heard + 1 }) (lay := layP) (K := IsKeep) (e := 86) (s.asked, s.sent + 1, s.heard + 1) (o6.pick [1, 2, 0] 3 (by decide) (by decide)) wk (fun h => by cases h)
          exact hq _ c' d6 h6 o9 w9 r6
        · refine join_i (fun t h' => h' = h7 ∧ t = decide (s.heard + 1 = 2 * s.beat)) ?_ fun J3 hJ3 => ?_
          · rintro t h11 ⟨rfl, rfl⟩
            refine cond_d (fun a2 => ?_) fun a2 => ?_
            · refine own_ok ?_
              refine one_ok (x := ownF 3 0) o3 fun k6 d6 h6 o6 r6 w6 => ?_
              exact hJ2 _ _ ⟨a3, d6, o6.pick [1, 2, 0] 3 (by decide) (by decide), by rw [if_pos a2]; exact r6⟩
            · refine load_ob (cd := cI .i64) (x := ((s.sent + 1 : Nat) : Int)) o3 0 rfl rfl ?_
              refine load_ob (cd := cI .i64) (x := (s.beat : Int)) o3 0 rfl rfl ?_
              refine cond_d (fun hge => ?_) fun hge => ?_
              · refine own_ok ?_
                refine one_ok (x := ownF 2 0) o3 fun k6 d6 h6 o6 r6 w6 => ?_
                exact hJ2 _ _ ⟨a3, d6, o6.pick [1, 2, 0] 3 (by decide) (by decide), by rw [if_neg a2, if_pos (by omega)]; exact r6⟩
              · exact hJ2 _ _ ⟨a3, Hp.emp, o3.emp.pick [1, 2, 0] 3 (by decide) (by decide), by rw [if_neg a2, if_neg (by omega)]; exact Row.nil _⟩
          · refine cond_i (fun hm => ?_) fun hm => hJ3 _ _ ⟨rfl, ?_⟩
            · refine load_ob (cd := cI .i64) (x := ((s.heard + 1 : Nat) : Int)) o3 0 rfl rfl ?_
              refine load_ob (cd := cI .i64) (x := (s.beat : Int)) o3 0 rfl rfl ?_
              refine ⟨by omega, hJ3 _ _ ⟨rfl, ?_⟩⟩
              rw [ediv, Bool.eq_iff_iff, decide_eq_true_eq, beq_iff_eq, ← d2]
              have hm : (s.heard + 1) % s.beat = 0 := by
                have := eq_of_beq hm
                omega
              omega
            · refine (decide_eq_false (fun h => ?_)).symm
              have h := (d2.2 h).1
              rw [h] at hm
              cases hm
      · refine cond_i (fun hm => ?_) fun hm => hJ4 _ _ ⟨rfl, ?_⟩
        · refine load_ob (cd := cI .i64) (x := ((s.heard + 1 : Nat) : Int)) o3 0 rfl rfl ?_
          refine load_ob (cd := cI .i64) (x := (s.beat : Int)) o3 0 rfl rfl ?_
          refine ⟨by omega, hJ4 _ _ ⟨rfl, ?_⟩⟩
          rw [ediv, Bool.eq_iff_iff, decide_eq_true_eq, beq_iff_eq, ← d3]
          have hm : (s.heard + 1) % s.beat = 0 := by
            have := eq_of_beq hm
            omega
          omega
        · refine (decide_eq_false (fun h => ?_)).symm
          have h := (d3.2 h).1
          rw [h] at hm
          cases hm
theorem send10_ok {p : Option Addr} {s : SS} {m : Msg} {c h : Hp} {l : List Hp} (o : On h (c :: l)) (w : IsSess p s c) (hl : s.all.length ≤ 1000000)
    {Q : Frame × Bool → Hp → Prop} (hq : ∀ c' h', On h' (c' :: l) → IsSess p (sendV s m).1 c' → Q (sendV s m).2 h') :
    callP Tryz.prog 33 [Value.pointer p, cMsg.enc m] (tupC [cFrame, cB]) h Q := by
  have w' := w
  obtain ⟨b, kp, ck, y, rfl, oc, wk, hx⟩ := w
  refine c33 ?_
  unfold F33
  dsimp only [nilP]
  unfold sendV at hq
  refine join_i (fun t h' => On h' (c :: l) ∧ t = decide (isV m = false ∨ sesK m.Kind = true)) ?_ fun J hJ => ?_
  · rintro t h' ⟨o, rfl⟩
    refine cond_d (fun e => ?_) fun e => ?_
    · rw [if_pos e] at hq
      exact hq c h' o w'
    · rw [if_neg e] at hq
      have os := o.split oc
      refine join_i (fun _ h' => ∃ y : Nat × Nat × Nat, On h' (ob b (cellsS s.beat s.up s.want kp y.1 y.2.1 y.2.2) 86 :: ck :: l) ∧ (s.up = true → y = (s.asked, 0, s.heard)) ∧ (s.up = false → True)) ?_ fun J1 hJ1 => ?_
      · rintro _ h2 ⟨y, o2, hy, _⟩
        refine load_ob (x := kp) o2 0 rfl rfl ?_
        refine load_ob (x := s.up) o2 0 rfl rfl ?_
        refine kadd_ok o2.swap wk hl fun ck' h3 o3 wk' => ?_
        obtain ⟨c', o4, w4⟩ := isS_of (s := { s with all := s.all ++ [mkF (s.all.length + 1 : Nat) m], sent := if s.up = true then 0 else s.sent }) (lay := layP) (K := IsKeep) (e := 86) y o3.swap wk' (fun h => by
          rw [hy h]
          have h : s.up = true := h
          unfold layP
          dsimp only
          rw [if_pos h])
        refine ⟨⟨Hp.sub_rds (o3.get (i := 1) rfl) (ob_rds rfl), trivial⟩, ?_⟩
        exact hq c' h3 o4 w4
      · refine load_ob (x := s.up) os 0 rfl rfl ?_
        refine cond_i (fun e1 => ?_) fun e1 => hJ1 _ _ ⟨y, os, fun h => (by rw [e1] at h; cases h), fun _ => trivial⟩
        have hy := hx e1
        subst hy
        have os : On h' (ob b (cellsOf s kp) 86 :: ck :: l) := os
        refine store_ob (cd := cI .i64) (i := 5) (x := (0 : Int)) (vs' := cellsOf { s with sent := 0 } kp) os rfl rfl (by show 5 + 1 ≤ 7; omega) fun h5 o5 => ?_
        exact hJ1 _ _ ⟨(s.asked, 0, s.heard), o5, fun _ => rfl, fun _ => trivial⟩
  · refine cond_f rfl (is_ok (m := m) o fun h5 o5 => ?_)
    refine cond_i (fun e => hJ _ _ ⟨o5, ?_⟩) fun e => ses_k (hJ _ _ ⟨o5, ?_⟩)
    · exact (decide_eq_true (.inl (by simpa using e))).symm
    · have e : isV m = true := by simpa using e
      rw [Bool.eq_iff_iff, decide_eq_true_eq, e]
      simp
end Go.Proofs.YtmkgcdgpokidjaaGreat

/- Chapter 10: the document's sessions. -/
namespace Go.Proofs.YtmkgcdgpokidjaaGreat
open Go.Eng

/-- The document's cells: sent, heard, asked. -/
def cellsR (s : SS) (kp : Option Addr) : List Value := cellsS s.beat s.up s.want kp s.sent s.heard s.asked
theorem rnew10_ok {n : Int} {h : Hp} {l : List Hp} (o : On h l) {Q : Option Addr → Hp → Prop} (h0 : n < 1 ∨ 1000 < n → Q none h) (h1 : 1 ≤ n → n ≤ 1000 → ∀ p c h', On h' (c :: l) → IsRef p (newV n.toNat) c → Q p h') : callP Tryz.prog 23 [Value.int .i64 n] cP h Q := by
  refine c23 ?_
  unfold F23
  refine join_i (fun t h' => h' = h ∧ (t = true → n < 1 ∨ 1000 < n) ∧ (t = false → 1 ≤ n ∧ n ≤ 1000)) ?_ fun J hJ => ?_
  · rintro t h' ⟨rfl, ht, hf⟩
    refine cond_i (fun e => h0 (ht e)) fun e => ?_
    obtain ⟨a, b⟩ := hf e
    refine alloc_ob o fun k1 h2 o2 => ?_
    obtain ⟨o3, o4⟩ := On.joined (cs := [ob k1 [Value.slice none 0 0] 93, Hp.emp]) (l := l) o2.emp.swap
    have wk : IsRef9 (some ⟨k1, 0, none⟩) [] (allOf [ob k1 [Value.slice none 0 0] 93, Hp.emp]) := ⟨k1, 93, ⟨none, 0, 0⟩, Hp.emp, rfl, o4, Own.nil _⟩
    refine alloc_ob o3 fun k3 h3 o5 => ?_
    obtain ⟨m, rfl⟩ : ∃ m : Nat, n = m := ⟨n.toNat, by omega⟩
    obtain ⟨c, o6, w6⟩ := isS_of (s := newV m) (lay := layR) (K := IsRef9) (0, 0, 0) o5 wk (fun h => by cases h)
    exact h1 a b _ c h3 o6 w6
  · refine cond_d (fun e => hJ _ _ ⟨rfl, fun _ => .inl e, fun h => (by cases h)⟩) fun e => hJ _ _ ⟨rfl, fun h => .inr (of_decide_eq_true h), fun h => ?_⟩
    have h := of_decide_eq_false h
    omega
theorem ref_at {k : Nat} {s : SS} {c : Hp} (w : IsRef (some ⟨k, 0, none⟩) s c) : c.rds ⟨k, 1, none⟩ [Value.bool s.up] ∧ c.rds ⟨k, 2, none⟩ [Value.int .i64 s.want] := by
  obtain ⟨b, kp, ck, x, hb, oc, wk, hx⟩ := w
  injection hb with hb
  injection hb with hb
  subst hb
  exact ⟨Hp.sub_rds (oc.get (i := 0) rfl) (ob_rds rfl), Hp.sub_rds (oc.get (i := 0) rfl) (ob_rds rfl)⟩
theorem rcut10_ok {p : Option Addr} {s : SS} {c h : Hp} {l : List Hp} (o : On h (c :: l)) (w : IsRef p s c) {Q : Bool → Hp → Prop} (hq : ∀ c' h', On h' (c' :: l) → IsRef p (cutV s).1 c' → Q (cutV s).2 h') : callP Tryz.prog 12 [Value.pointer p] cB h Q := by
  obtain ⟨b, kp, ck, x, rfl, oc, wk, hx⟩ := w
  refine c12 ?_
  unfold F12
  dsimp only [nilP]
  have os := o.split oc
  refine load_ob (x := s.up) os 0 rfl rfl ?_
  refine store_ob (cd := cB) (i := 1) (x := false) (vs' := cellsS s.beat false s.want kp x.1 x.2.1 x.2.2) os rfl rfl (by show 1 + 1 ≤ 7; omega) fun h1 o1 => ?_
  obtain ⟨c', o2, w2⟩ := isS_of (s := { s with up := false }) (lay := layR) (K := IsRef9) (e := 49) x o1 wk (fun h => by cases h)
  exact hq c' h1 o2 w2
theorem rsend10_ok {p : Option Addr} {s : SS} {m : Msg} {c h : Hp} {l : List Hp} (o : On h (c :: l)) (w : IsRef p s c) (hl : s.all.length ≤ 1000000)
    {Q : Frame × Bool → Hp → Prop} (hq : ∀ c' h', On h' (c' :: l) → IsRef p (sendV s m).1 c' → Q (sendV s m).2 h') :
    callP Tryz.prog 34 [Value.pointer p, cMsg.enc m] (tupC [cFrame, cB]) h Q := by
  have w' := w
  obtain ⟨b, kp, ck, y, rfl, oc, wk, hx⟩ := w
  refine c34 ?_
  unfold F34
  dsimp only [nilP]
  unfold sendV at hq
  refine join_i (fun t h' => On h' (c :: l) ∧ t = decide (isV m = false ∨ sesK m.Kind = true)) ?_ fun J hJ => ?_
  · rintro t h' ⟨o, rfl⟩
    refine cond_d (fun e => ?_) fun e => ?_
    · rw [if_pos e] at hq
      exact hq c h' o w'
    · rw [if_neg e] at hq
      have os := o.split oc
      refine load_ob (x := kp) os 0 rfl rfl ?_
      refine rkadd_ok (l := ob b (cellsS s.beat s.up s.want kp y.1 y.2.1 y.2.2) 49 :: l) os.swap wk hl fun ck' h3 o3 wk' => ?_
      refine join_i (fun _ h' => ∃ c', On h' (c' :: l) ∧ IsRef (some ⟨b, 0, none⟩) { s with all := s.all ++ [mkF (s.all.length + 1 : Nat) m], sent := if s.up = true then 0 else s.sent } c') ?_ fun J1 hJ1 => ?_
      · rintro _ h2 ⟨c', o2, w2⟩
        obtain ⟨r1, r2⟩ := ref_at w2
        refine ⟨s.up, Hp.sub_rds (o2.get (i := 0) rfl) r1, ?_⟩
        exact hq c' h2 o2 w2
      · refine load_ob (x := s.up) o3 1 rfl rfl ?_
        refine cond_i (fun e1 => ?_) fun e1 => ?_
        · have hy := hx e1
          subst hy
          have o3' : On h3 (ob b (cellsR s kp) 49 :: ck' :: l) := o3.swap
          refine store_ob (cd := cI .i64) (i := 4) (x := (0 : Int)) (vs' := cellsR { s with sent := 0 } kp) o3' rfl rfl (by show 4 + 1 ≤ 7; omega) fun h5 o5 => ?_
          obtain ⟨c', o4, w4⟩ := isS_of (s := { s with all := s.all ++ [mkF (s.all.length + 1 : Nat) m], sent := if s.up = true then 0 else s.sent }) (lay := layR) (K := IsRef9) (e := 49) (0, s.heard, s.asked) o5 wk' (fun h => by
            have h : s.up = true := h
            unfold layR
            dsimp only
            rw [if_pos h])
          exact hJ1 _ _ ⟨c', o4, w4⟩
        · obtain ⟨c', o4, w4⟩ := isS_of (s := { s with all := s.all ++ [mkF (s.all.length + 1 : Nat) m], sent := if s.up = true then 0 else s.sent }) (lay := layR) (K := IsRef9) (e := 49) y o3.swap wk' (fun h => by
            have h : s.up = true := h
            rw [e1] at h; cases h)
          exact hJ1 _ _ ⟨c', o4, w4⟩
  · refine ris_ok (m := m) o fun h5 o5 => ?_
    refine cond_i (fun e => hJ _ _ ⟨o5, ?_⟩) fun e => rses_k (hJ _ _ ⟨o5, ?_⟩)
    · exact (decide_eq_true (.inl (by simpa using e))).symm
    · have e : isV m = true := by simpa using e
      rw [Bool.eq_iff_iff, decide_eq_true_eq, e]
      simp
theorem rtick10_ok {p : Option Addr} {s : SS} {c h : Hp} {l : List Hp} (o : On h (c :: l)) (w : IsRef p s c) (hb : 1 ≤ s.beat ∧ s.beat ≤ 1000) (hs1 : s.sent ≤ 1000000) (hs2 : s.heard ≤ 1000000)
    {Q : Sl × Bool → Hp → Prop} (hq : ∀ sl c' r' h', On h' (c' :: r' :: l) → IsRef p (tickV s).1 c' → Row cFrame r' sl (tickV s).2.1 → Q (sl, (tickV s).2.2) h') :
    callP Tryz.prog 40 [Value.pointer p] (tupC [cSl, cB]) h Q := by
  have w' := w
  obtain ⟨b, kp, ck, y, rfl, oc, wk, hx⟩ := w
  refine c40 ?_
  unfold F40
  dsimp only [nilP]
  have os := o.split oc
  unfold tickV at hq
  refine load_ob (x := s.up) os 0 rfl rfl ?_
  refine cond_i (fun e => ?_) fun e => ?_
  · have e : s.up = false := by simpa using e
    rw [if_pos e] at hq
    exact hq _ c Hp.emp h (o.emp.swap) w' (Row.nil _)
  · have e : s.up = true := by simpa using e
    rw [if_neg (by rw [e]; simp)] at hq
    have hy := hx e
    subst hy
    have os : On h (ob b (cellsR s kp) 49 :: ck :: l) := os
    refine load_ob (cd := cI .i64) (x := (s.sent : Int)) os 0 rfl rfl ?_
    rw [w64n (n := s.sent) (by omega)]
    refine store_ob (cd := cI .i64) (i := 4) (x := ((s.sent + 1 : Nat) : Int)) (vs' := cellsR { s with sent := s.sent + 1 } kp) os rfl rfl (by show 4 + 1 ≤ 7; omega) fun h2 o2 => ?_
    refine load_ob (cd := cI .i64) (x := (s.heard : Int)) o2 0 rfl rfl ?_
    rw [w64n (n := s.heard) (by omega)]
    refine store_ob (cd := cI .i64) (i := 5) (x := ((s.heard + 1 : Nat) : Int)) (vs' := cellsR { s with sent := s.sent + 1, heard := s.heard + 1 } kp) o2 rfl rfl (by show 5 + 1 ≤ 7; omega) fun h3 o3 => ?_
    refine load_ob (cd := cI .i64) (x := ((s.heard + 1 : Nat) : Int)) o3 0 rfl rfl ?_
    refine load_ob (cd := cI .i64) (x := (s.beat : Int)) o3 0 rfl rfl ?_
    rw [w64 (n := 3 * (s.beat : Int)) (by omega) (by omega)]
    refine cond_i (fun a3 => ?_) fun a3 => ?_
    · have a3 : s.heard + 1 = 3 * s.beat := by have := eq_of_beq a3; omega
      rw [if_pos a3] at hq
      refine store_ob (cd := cB) (i := 1) (x := false) (vs' := cellsR { s with up := false, sent := s.sent + 1, heard := s.heard + 1 } kp) o3 rfl rfl (by show 1 + 1 ≤ 7; omega) fun h8 o8 => ?_
      refine rown_nil ?_
      refine one_ok (x := ownF 5 0) o8 fun k6 d6 h6 o6 r6 w6 => ?_
      obtain ⟨c', o9, w9⟩ := isS_of (s := { s with up := false, sent := s.sent + 1, heard := s.heard + 1 }) (lay := layR) (K := IsRef9) (e := 49) (s.sent + 1, s.heard + 1, s.asked) (o6.pick [1, 2, 0] 3 (by decide) (by decide)) wk (fun h => by cases h)
      exact hq _ c' d6 h6 o9 w9 r6
    · have a3 : ¬ s.heard + 1 = 3 * s.beat := fun h => by
        have : ((s.heard + 1 : Nat) : Int) = 3 * (s.beat : Int) := by omega
        rw [this] at a3; simp at a3
      rw [if_neg a3] at hq
      refine load_ob (cd := cI .i64) (x := ((s.heard + 1 : Nat) : Int)) o3 0 rfl rfl ?_
      refine load_ob (cd := cI .i64) (x := (s.beat : Int)) o3 0 rfl rfl ?_
      rw [w64 (n := 2 * (s.beat : Int)) (by omega) (by omega)]
      refine cond_i (fun a2 => ?_) fun a2 => ?_
      · have a2 : s.heard + 1 = 2 * s.beat := by have := eq_of_beq a2; omega
        rw [if_pos a2] at hq
        refine store_ob (cd := cI .i64) (i := 4) (x := (0 : Int)) (vs' := cellsR { s with sent := 0, heard := s.heard + 1 } kp) o3 rfl rfl (by show 4 + 1 ≤ 7; omega) fun h8 o8 => ?_
        refine rown_nil ?_
        refine one_ok (x := ownF 3 0) o8 fun k6 d6 h6 o6 r6 w6 => ?_
        obtain ⟨c', o9, w9⟩ := isS_of (s := { s with sent := 0, heard := s.heard + 1 }) (lay := layR) (K := IsRef9) (e := 49) (0, s.heard + 1, s.asked) (o6.pick [1, 2, 0] 3 (by decide) (by decide)) wk (fun h => rfl)
        exact hq _ c' d6 h6 o9 w9 r6
      · have a2 : ¬ s.heard + 1 = 2 * s.beat := fun h => by
          have : ((s.heard + 1 : Nat) : Int) = 2 * (s.beat : Int) := by omega
          rw [this] at a2; simp at a2
        rw [if_neg a2] at hq
        refine load_ob (cd := cI .i64) (x := ((s.sent + 1 : Nat) : Int)) o3 0 rfl rfl ?_
        refine load_ob (cd := cI .i64) (x := (s.beat : Int)) o3 0 rfl rfl ?_
        refine cond_d (fun hge => ?_) fun hge => ?_
        · rw [if_pos (by omega)] at hq
          refine store_ob (cd := cI .i64) (i := 4) (x := (0 : Int)) (vs' := cellsR { s with sent := 0, heard := s.heard + 1 } kp) o3 rfl rfl (by show 4 + 1 ≤ 7; omega) fun h8 o8 => ?_
          refine rown_nil ?_
          refine one_ok (x := ownF 2 0) o8 fun k6 d6 h6 o6 r6 w6 => ?_
          obtain ⟨c', o9, w9⟩ := isS_of (s := { s with sent := 0, heard := s.heard + 1 }) (lay := layR) (K := IsRef9) (e := 49) (0, s.heard + 1, s.asked) (o6.pick [1, 2, 0] 3 (by decide) (by decide)) wk (fun h => rfl)
          exact hq _ c' d6 h6 o9 w9 r6
        · rw [if_neg (by omega)] at hq
          obtain ⟨c', o9, w9⟩ := isS_of (s := { s with sent := s.sent + 1, heard := s.heard + 1 }) (lay := layR) (K := IsRef9) (e := 49) (s.sent + 1, s.heard + 1, s.asked) o3 wk (fun h => rfl)
          exact hq _ c' Hp.emp h3 o9.emp.swap w9 (Row.nil _)
end Go.Proofs.YtmkgcdgpokidjaaGreat

/- Chapter 10: the document's sessions: a frame taken. -/
namespace Go.Proofs.YtmkgcdgpokidjaaGreat
open Go.Eng

theorem rtake10_ok {p : Option Addr} {s : SS} {x : Frame} {c h : Hp} {l : List Hp} (o : On h (c :: l)) (w : IsRef p s c) (hl : s.all.length ≤ 1000000) (hw : s.want ≤ 1000000) (hs : I64 x.Msg_F_0)
    {Q : Sl × Msg × Bool × Bool → Hp → Prop} (hq : ∀ sl c' r' h', On h' (c' :: r' :: l) → IsRef p (takeV s x).1 c' → Row cFrame r' sl (takeV s x).2.1 → Q (sl, (takeV s x).2.2) h') :
    callP Tryz.prog 31 [Value.pointer p, cFrame.enc x] (tupC [cSl, cMsg, cB, cB]) h Q := by
  have w' := w
  obtain ⟨b, kp, ck, y, rfl, oc, wk, hx⟩ := w
  refine c31 ?_
  unfold F31
  dsimp only [nilP]
  have os := o.split oc
  have one_of : ∀ {h2 : Hp} {n : Nat} {k : Int} {s2 : SS} (o2 : On h2 (ob b (cellsR s2 kp) 49 :: ck :: l)) {K : Frame → Hp → Prop}, (∀ h3, On h3 (ob b (cellsR s2 kp) 49 :: ck :: l) → K (ownF k n) h3) →
      allocP (Obj.cells { toList := [Value.int .i64 (n : Int)] } 2) h2 fun k1 h9 => callP Tryz.prog 64 [Value.int .i64 k, Value.slice (some { block := k1, off := 0 }) 1 1] cFrame h9 K := by
    intro h2 n k s2 o2 K hK
    refine alloc_ob o2 fun k1 h3 o3 => ?_
    have r1 : Row (cI .i64) (ob k1 [Value.int .i64 (n : Int)] 2) ⟨some ⟨k1, 0, none⟩, 1, 1⟩ [(n : Int)] := row_ob rfl rfl
    exact rown_ok (p := ⟨some ⟨k1, 0, none⟩, 1, 1⟩) (o3.mem (by simp)) r1 (hK h3 o3.tail)
  refine join_i (fun t h' => h' = h ∧ t = decide (x.Seq = 0 ∧ x.Msg_Kind = 1)) ?_ fun J hJ => ?_
  · rintro t h' ⟨rfl, rfl⟩
    refine cond_d (fun hk => ?_) fun hk => ?_
    · have et : takeV s x = ((logV s x.Msg_F_0).1, (logV s x.Msg_F_0).2, zeroM, false, s.up && !(logV s x.Msg_F_0).1.up) := by unfold takeV; rw [if_pos hk]
      rw [et] at hq
      refine ⟨by decide, by decide, ?_⟩
      refine c61 ?_
      unfold F61
      dsimp only [nilP]
      unfold logV at hq
      refine load_ob (x := kp) os 0 rfl rfl ?_
      refine rkfrom_ok (l := ob b (cellsS s.beat s.up s.want kp y.1 y.2.1 y.2.2) 49 :: l) os.swap wk hl hs (fun hg => ?_) fun hg sl d h2 o2 w2 => ?_
      · rw [if_pos hg] at hq
        refine cond_t rfl ?_
        refine load_ob (x := s.up) os 0 rfl rfl ?_
        refine store_ob (cd := cB) (i := 1) (x := false) (vs' := cellsS s.beat false s.want kp y.1 y.2.1 y.2.2) os rfl rfl (by show 1 + 1 ≤ 7; omega) fun h3 o3 => ?_
        obtain ⟨c', o4, w4⟩ := isS_of (s := { s with up := false }) (lay := layR) (K := IsRef9) (e := 49) y o3 wk (fun h => by cases h)
        have := hq ⟨none, 0, 0⟩ c' Hp.emp h3 o4.emp.swap w4 (Row.nil _)
        simp only [Bool.not_false, Bool.and_true] at this
        exact this
      · rw [if_neg hg] at hq
        refine cond_f rfl ?_
        have o2' : On h2 (ob b (cellsS s.beat s.up s.want kp y.1 y.2.1 y.2.2) 49 :: ck :: d :: l) := o2.pick [2, 1, 0] 3 (by decide) (by decide)
        refine store_ob (cd := cB) (i := 1) (x := true) (vs' := cellsS s.beat true s.want kp y.1 y.2.1 y.2.2) o2' rfl rfl (by show 1 + 1 ≤ 7; omega) fun h3 o3 => ?_
        refine store_ob (cd := cI .i64) (i := 4) (x := (0 : Int)) (vs' := cellsS s.beat true s.want kp 0 y.2.1 y.2.2) o3 rfl rfl (by show 4 + 1 ≤ 7; omega) fun h4 o4 => ?_
        refine store_ob (cd := cI .i64) (i := 5) (x := (0 : Int)) (vs' := cellsS s.beat true s.want kp 0 0 y.2.2) o4 rfl rfl (by show 5 + 1 ≤ 7; omega) fun h5 o5 => ?_
        refine store_ob (cd := cI .i64) (i := 6) (x := (0 : Int)) (vs' := cellsS s.beat true s.want kp 0 0 0) o5 rfl rfl (by show 6 + 1 ≤ 7; omega) fun h6 o6 => ?_
        refine load_ob (cd := cI .i64) (x := (s.want : Int)) o6 0 rfl rfl ?_
        refine alloc_ob o6 fun k1 h7 o7 => ?_
        have r1 : Row (cI .i64) (ob k1 [Value.int .i64 (s.want : Int)] 2) ⟨some ⟨k1, 0, none⟩, 1, 1⟩ [(s.want : Int)] := row_ob rfl rfl
        refine rown_ok (p := ⟨some ⟨k1, 0, none⟩, 1, 1⟩) (o7.mem (by simp)) r1 ?_
        refine one_ok (x := ownF 1 s.want) o7.tail fun k6 d6 h8 o8 r6 w6 => ?_
        refine append_own (g := d) (s := ⟨some ⟨k6, 0, none⟩, 1, 1⟩) (t := sl) o8 rfl w6 (by decide) w2.row (o8.mem (by simp)) (by unfold roomP; simp; omega) fun d7 p7 n7 m7 h9 o9 w9 => ?_
        obtain ⟨c', oa, wa⟩ := isS_of (s := { s with up := true, asked := 0, sent := 0, heard := 0 }) (lay := layR) (K := IsRef9) (e := 49) (0, 0, 0) (o9.pick [1, 2, 0] 4 (by decide) (by decide)) wk (fun h => rfl)
        have := hq ⟨p7, n7, m7⟩ c' d7 h9 oa wa w9.row
        simp only [Bool.not_true, Bool.and_false] at this
        exact this
    · unfold takeV at hq
      rw [if_neg hk] at hq
      refine load_ob (x := s.up) os 0 rfl rfl ?_
      refine cond_i (fun e => ?_) fun e => ?_
      · have e : s.up = false := by simpa using e
        rw [if_pos e] at hq
        exact hq _ c Hp.emp h' o.emp.swap w' (Row.nil _)
      · have e : s.up = true := by simpa using e
        rw [if_neg (show ¬ (s.up = false) by rw [e]; simp)] at hq
        have hy := hx e
        subst hy
        have os : On h' (ob b (cellsR s kp) 49 :: ck :: l) := os
        refine store_ob (cd := cI .i64) (i := 5) (x := (0 : Int)) (vs' := cellsR { s with heard := 0 } kp) os rfl rfl (by show 5 + 1 ≤ 7; omega) fun h3 o3 => ?_
        by_cases h0 : x.Seq = 0
        · rw [if_pos h0] at hq
          refine cond_t (by simpa using h0) ?_
          have h1 : x.Msg_Kind ≠ 1 := fun h => hk ⟨h0, h⟩
          refine c62 (p1 := fmsg x) ?_
          unfold F62
          dsimp only [nilP]
          unfold sesV at hq
          by_cases a3 : x.Msg_Kind = 3
          · rw [if_pos a3] at hq
            refine cond_t (by simpa [fmsg] using a3) ?_
            refine store_ob (cd := cI .i64) (i := 4) (x := (0 : Int)) (vs' := cellsR { s with sent := 0, heard := 0 } kp) o3 rfl rfl (by show 4 + 1 ≤ 7; omega) fun h4 o4 => ?_
            refine rown_nil ?_
            refine one_ok (x := ownF 2 0) o4 fun k6 d6 h6 o6 r6 w6 => ?_
            obtain ⟨c', o9, w9⟩ := isS_of (s := { s with sent := 0, heard := 0 }) (lay := layR) (K := IsRef9) (e := 49) (0, 0, s.asked) (o6.pick [1, 2, 0] 3 (by decide) (by decide)) wk (fun h => rfl)
            exact hq _ c' d6 h6 o9 w9 r6
          · rw [if_neg a3] at hq
            refine cond_f (by simpa [fmsg] using a3) ?_
            by_cases a4 : x.Msg_Kind = 4
            · rw [if_pos a4] at hq
              refine cond_t (by simpa [fmsg] using a4) ?_
              refine ⟨by decide, by decide, ?_⟩
              refine load_ob (x := kp) o3 0 rfl rfl ?_
              refine rkfrom_ok (l := ob b (cellsR { s with heard := 0 } kp) 49 :: l) o3.swap wk hl hs (fun hg => ?_) fun hg sl d h2 o2 w2 => ?_
              · rw [if_pos hg] at hq
                refine cond_t rfl ?_
                refine store_ob (cd := cB) (i := 1) (x := false) (vs' := cellsR { s with up := false, heard := 0 } kp) o3 rfl rfl (by show 1 + 1 ≤ 7; omega) fun h4 o4 => ?_
                refine rown_nil ?_
                refine one_ok (x := ownF 5 0) o4 fun k6 d6 h6 o6 r6 w6 => ?_
                obtain ⟨c', o9, w9⟩ := isS_of (s := { s with up := false, heard := 0 }) (lay := layR) (K := IsRef9) (e := 49) (s.sent, 0, s.asked) (o6.pick [1, 2, 0] 3 (by decide) (by decide)) wk (fun h => by cases h)
                exact hq _ c' d6 h6 o9 w9 r6
              · rw [if_neg hg] at hq
                have hwl := w2.1
                refine cond_f rfl ?_
                have o2' : On h2 (ob b (cellsR { s with heard := 0 } kp) 49 :: ck :: d :: l) := o2.pick [2, 1, 0] 3 (by decide) (by decide)
                refine join_i (fun _ h' => ∃ n, On h' (ob b (cellsR { s with sent := n, heard := 0 } kp) 49 :: ck :: d :: l) ∧ n = if (s.all.drop (x.Msg_F_0 - 1).toNat).length = 0 then s.sent else 0) ?_ fun J1 hJ1 => ?_
                · rintro _ h5 ⟨n, o5, rfl⟩
                  obtain ⟨c', o9, w9⟩ := isS_of (s := { s with sent := if (s.all.drop (x.Msg_F_0 - 1).toNat).length = 0 then s.sent else 0, heard := 0 }) (lay := layR) (K := IsRef9) (e := 49) (_, 0, s.asked) o5 wk (fun h => rfl)
                  exact hq _ c' d h5 o9 w9 w2.row
                · refine cond_d (fun hpos => ?_) fun hpos => hJ1 _ _ ⟨s.sent, o2', by rw [if_pos (by dsimp only at hpos; omega)]⟩
                  refine store_ob (cd := cI .i64) (i := 4) (x := (0 : Int)) (vs' := cellsR { s with sent := 0, heard := 0 } kp) o2' rfl rfl (by show 4 + 1 ≤ 7; omega) fun h5 o5 => ?_
                  exact hJ1 _ _ ⟨0, o5, by rw [if_neg (by dsimp only at hpos; omega)]⟩
            · rw [if_neg a4] at hq
              refine cond_f (by simpa [fmsg] using a4) ?_
              by_cases a5 : x.Msg_Kind = 5
              · rw [if_pos a5] at hq
                refine cond_t (by simpa [fmsg] using a5) ?_
                refine store_ob (cd := cB) (i := 1) (x := false) (vs' := cellsR { s with up := false, heard := 0 } kp) o3 rfl rfl (by show 1 + 1 ≤ 7; omega) fun h4 o4 => ?_
                obtain ⟨c', o9, w9⟩ := isS_of (s := { s with up := false, heard := 0 }) (lay := layR) (K := IsRef9) (e := 49) (s.sent, 0, s.asked) o4 wk (fun h => by cases h)
                exact hq _ c' Hp.emp h4 o9.emp.swap w9 (Row.nil _)
              · rw [if_neg a5] at hq
                refine cond_f (by simpa [fmsg] using a5) ?_
                obtain ⟨c', o9, w9⟩ := isS_of (s := { s with heard := 0 }) (lay := layR) (K := IsRef9) (e := 49) (s.sent, 0, s.asked) o3 wk (fun h => rfl)
                exact hq _ c' Hp.emp h3 o9.emp.swap w9 (Row.nil _)
        · rw [if_neg h0] at hq
          refine cond_f (by simpa using h0) ?_
          unfold seqV at hq
          obtain ⟨c0, o0, w0⟩ := isS_of (s := { s with heard := 0 }) (lay := layR) (K := IsRef9) (e := 49) (s.sent, 0, s.asked) o3 wk (fun h => rfl)
          by_cases ha : 6 ≤ x.Msg_Kind ∧ x.Msg_Kind ≤ 17
          · rw [if_neg (show ¬ ¬ (6 ≤ x.Msg_Kind ∧ x.Msg_Kind ≤ 17) from not_not_intro ha)] at hq
            refine join_i (fun t h' => h' = h3 ∧ t = decide (x.Seq < s.want)) ?_ fun J1 hJ1 => ?_
            · rintro t h5 ⟨rfl, rfl⟩
              refine cond_d (fun hlt => ?_) fun hlt => ?_
              · rw [if_neg (show ¬ x.Seq = (({ s with heard := 0 } : SS).want : Int) by dsimp only; omega), if_neg (by dsimp only; omega)] at hq
                exact hq _ c0 Hp.emp h5 o0.emp.swap w0 (Row.nil _)
              · refine load_ob (cd := cI .i64) (x := (s.want : Int)) o3 0 rfl rfl ?_
                by_cases he : x.Seq = (s.want : Int)
                · rw [if_pos he] at hq
                  refine cond_t (by simpa using he) ?_
                  refine load_ob (cd := cI .i64) (x := (s.want : Int)) o3 0 rfl rfl ?_
                  rw [w64n (by omega)]
                  refine store_ob (cd := cI .i64) (i := 2) (x := ((s.want + 1 : Nat) : Int)) (vs' := cellsR { s with want := s.want + 1, heard := 0 } kp) o3 rfl rfl (by show 2 + 1 ≤ 7; omega) fun h4 o4 => ?_
                  obtain ⟨c', o9, w9⟩ := isS_of (s := { s with want := s.want + 1, heard := 0 }) (lay := layR) (K := IsRef9) (e := 49) (s.sent, 0, s.asked) o4 wk (fun h => rfl)
                  exact hq _ c' Hp.emp h4 o9.emp.swap w9 (Row.nil _)
                · rw [if_neg he] at hq
                  refine cond_f (by simpa using he) ?_
                  refine load_ob (cd := cI .i64) (x := (s.asked : Int)) o3 0 rfl rfl ?_
                  refine load_ob (cd := cI .i64) (x := (s.want : Int)) o3 0 rfl rfl ?_
                  refine cond_i (fun heq => ?_) fun hne => ?_
                  · have heq := eq_of_beq heq
                    rw [if_neg (by dsimp only; omega)] at hq
                    exact hq _ c0 Hp.emp h5 o0.emp.swap w0 (Row.nil _)
                  · have hne : s.asked ≠ s.want := fun h => by rw [h] at hne; simp at hne
                    rw [if_pos (by dsimp only; omega)] at hq
                    refine load_ob (cd := cI .i64) (x := (s.want : Int)) o3 0 rfl rfl ?_
                    refine store_ob (cd := cI .i64) (i := 6) (x := (s.want : Int)) (vs' := cellsR { s with asked := s.want, heard := 0 } kp) o3 rfl rfl (by show 6 + 1 ≤ 7; omega) fun h4 o4 => ?_
                    refine store_ob (cd := cI .i64) (i := 4) (x := (0 : Int)) (vs' := cellsR { s with asked := s.want, sent := 0, heard := 0 } kp) o4 rfl rfl (by show 4 + 1 ≤ 7; omega) fun h6 o6 => ?_
                    refine load_ob (cd := cI .i64) (x := (s.want : Int)) o6 0 rfl rfl ?_
                    refine one_of o6 fun h7 o7 => ?_
                    refine one_ok (x := ownF 4 s.want) o7 fun k6 d6 h8 o8 r6 w6 => ?_
                    obtain ⟨c', o9, w9⟩ := isS_of (s := { s with asked := s.want, sent := 0, heard := 0 }) (lay := layR) (K := IsRef9) (e := 49) (0, 0, s.want) (o8.pick [1, 2, 0] 3 (by decide) (by decide)) wk (fun h => rfl)
                    exact hq _ c' d6 h8 o9 w9 r6
            · refine rask_k (cond_f (by rw [decide_eq_true ha]; rfl) ?_)
              exact load_ob (cd := cI .i64) (x := (s.want : Int)) o3 0 rfl rfl (hJ1 _ _ ⟨rfl, rfl⟩)
          · rw [if_pos ha] at hq
            refine join_i (fun t h' => h' = h3 ∧ t = true) ?_ fun J1 hJ1 => rask_k (cond_t (by rw [decide_eq_false ha]; rfl) (hJ1 _ _ ⟨rfl, rfl⟩))
            rintro t h5 ⟨rfl, rfl⟩
            exact cond_t rfl (hq _ c0 Hp.emp h5 o0.emp.swap w0 (Row.nil _))
  · refine cond_i (fun h0 => hJ _ _ ⟨rfl, ?_⟩) fun h0 => hJ _ _ ⟨rfl, ?_⟩
    · have h0 : x.Seq = 0 := by simpa using h0
      rw [Bool.eq_iff_iff]; simp [h0]
    · have h0 : x.Seq ≠ 0 := by simpa using h0
      exact (decide_eq_false (fun h => h0 h.1)).symm
end Go.Proofs.YtmkgcdgpokidjaaGreat

/- Chapter 10: what is known, and laws of one session. -/
namespace Go.Proofs.YtmkgcdgpokidjaaGreat
open Go.Eng

def logF (v : Int) : Frame := ⟨0, 1, v, 0, 0, 0, 0, 0⟩
def resF (q v : Int) : Frame := ⟨q, 12, v, 0, 0, 0, 0, 0⟩
theorem gone_0 : ¬ Gone ([] : List Frame).length 1 := by unfold Gone; simp
theorem log_on {s : SS} {v : Int} (h : ¬ Gone s.all.length v) : logV s v = ({ s with up := true, asked := 0, sent := 0, heard := 0 }, ownF 1 s.want :: s.all.drop (v - 1).toNat) := if_neg h
theorem take_log {s : SS} (hall : s.all = []) : takeV s (logF 1) = ({ s with up := true, asked := 0, sent := 0, heard := 0 }, [ownF 1 s.want], zeroM, false, false) := by
  unfold takeV
  rw [if_pos (show (logF 1).Seq = 0 ∧ (logF 1).Msg_Kind = 1 from ⟨rfl, rfl⟩)]
  rw [show logV s (logF 1).Msg_F_0 = ({ s with up := true, asked := 0, sent := 0, heard := 0 }, ownF 1 s.want :: s.all.drop ((1 : Int) - 1).toNat) from log_on (by rw [hall]; exact gone_0)]
  rw [hall]
  simp
/-- A result's frame, taken by a session that is up. -/
theorem take_res {s : SS} (hup : s.up = true) (hw : 1 ≤ s.want) (q v : Int) : takeV s (resF q v) =
    if q = s.want then ({ s with want := s.want + 1, heard := 0 }, [], ⟨12, v, 0, 0, 0, 0, 0⟩, true, false)
    else if (s.want : Int) < q ∧ s.asked ≠ s.want then ({ s with asked := s.want, sent := 0, heard := 0 }, [ownF 4 s.want], zeroM, false, false)
    else ({ s with heard := 0 }, [], zeroM, false, false) := by
  unfold takeV
  rw [if_neg (show ¬ ((resF q v).Seq = 0 ∧ (resF q v).Msg_Kind = 1) from fun h => by have := h.2; cases this), if_neg (show ¬ (s.up = false) by rw [hup]; simp)]
  by_cases h0 : q = 0
  · rw [if_pos (show (resF q v).Seq = 0 from h0), if_neg (by omega), if_neg (by omega)]
    rfl
  · rw [if_neg (show ¬ (resF q v).Seq = 0 from h0)]
    unfold seqV
    rw [if_neg (show ¬ ¬ (6 ≤ (resF q v).Msg_Kind ∧ (resF q v).Msg_Kind ≤ 17) from not_not_intro ⟨(by decide : (6 : Int) ≤ 12), (by decide : (12 : Int) ≤ 17)⟩)]
    by_cases h1 : q = s.want
    · rw [if_pos (show (resF q v).Seq = _ from h1), if_pos h1]; rfl
    · rw [if_neg (show ¬ (resF q v).Seq = _ from h1), if_neg h1]
      by_cases h2 : (s.want : Int) < q ∧ s.asked ≠ s.want
      · rw [if_pos (show (({ s with heard := 0 } : SS).want : Int) < (resF q v).Seq ∧ ({ s with heard := 0 } : SS).asked ≠ ({ s with heard := 0 } : SS).want from h2), if_pos h2]
      · rw [if_neg (show ¬ ((({ s with heard := 0 } : SS).want : Int) < (resF q v).Seq ∧ ({ s with heard := 0 } : SS).asked ≠ ({ s with heard := 0 } : SS).want) from h2), if_neg h2]
end Go.Proofs.YtmkgcdgpokidjaaGreat

/- Chapter 10: beats, and a gap. -/
namespace Go.Proofs.YtmkgcdgpokidjaaGreat
open Go.Eng

end Go.Proofs.YtmkgcdgpokidjaaGreat

/- Chapter 10: a gap is asked for once. -/
namespace Go.Proofs.YtmkgcdgpokidjaaGreat
open Go.Eng

/-- A message of the document's, with one field. -/
theorem of1_one {k v : Int} {h : Hp} {l : List Hp} (o : On h l) {K : Msg → Hp → Prop} (hK : ∀ h', On h' l → K ⟨k, v, 0, 0, 0, 0, 0⟩ h') :
    allocP (Obj.cells { toList := [Value.int .i64 v] } 2) h fun k1 h9 => callP Tryz.prog 43 [Value.int .i64 k, Value.slice (some { block := k1, off := 0 }) 1 1] cMsg h9 K := by
  refine alloc_ob o fun k1 h3 o3 => ?_
  have r1 : Row (cI .i64) (ob k1 [Value.int .i64 v] 2) ⟨some ⟨k1, 0, none⟩, 1, 1⟩ [v] := row_ob rfl rfl
  exact of5_ok (p := ⟨some ⟨k1, 0, none⟩, 1, 1⟩) (o3.mem (by simp)) r1 (hK h3 o3.tail)
end Go.Proofs.YtmkgcdgpokidjaaGreat

/- Chapter 10: a session plays as the document's. -/
namespace Go.Proofs.YtmkgcdgpokidjaaGreat
open Go.Eng

theorem take_bd (s : SS) (x : Frame) : (takeV s x).1.beat = s.beat ∧ (takeV s x).1.all = s.all ∧ (takeV s x).1.want ≤ s.want + 1 ∧ (takeV s x).1.sent ≤ s.sent ∧ (takeV s x).1.heard ≤ s.heard ∧ (takeV s x).2.1.length ≤ s.all.length + 1 := by
  unfold takeV
  split
  · unfold logV
    split
    · exact ⟨rfl, rfl, by simp, by simp, by simp, by simp⟩
    · exact ⟨rfl, rfl, by simp, by simp, by simp, by simp⟩
  · split
    · exact ⟨rfl, rfl, by simp, by simp, by simp, by simp⟩
    · split
      · unfold sesV
        split
        · exact ⟨rfl, rfl, by simp, by simp, by simp, by simp⟩
        · split
          · split
            · exact ⟨rfl, rfl, by simp, by simp, by simp, by simp⟩
            · refine ⟨rfl, rfl, by simp, ?_, by simp, by simp; omega⟩
              dsimp only
              split <;> omega
          · split
            · exact ⟨rfl, rfl, by simp, by simp, by simp, by simp⟩
            · exact ⟨rfl, rfl, by simp, by simp, by simp, by simp⟩
      · unfold seqV
        split
        · exact ⟨rfl, rfl, by simp, by simp, by simp, by simp⟩
        · split
          · exact ⟨rfl, rfl, by simp, by simp, by simp, by simp⟩
          · split
            · exact ⟨rfl, rfl, by simp, by simp, by simp, by simp⟩
            · exact ⟨rfl, rfl, by simp, by simp, by simp, by simp⟩
theorem tick_bd (s : SS) : (tickV s).1.beat = s.beat ∧ (tickV s).1.all = s.all ∧ (tickV s).1.want = s.want ∧ (tickV s).1.sent ≤ s.sent + 1 ∧ (tickV s).1.heard ≤ s.heard + 1 ∧ (tickV s).2.1.length ≤ 1 := by
  unfold tickV
  split
  · exact ⟨rfl, rfl, rfl, by simp, by simp, by simp⟩
  · split
    · exact ⟨rfl, rfl, rfl, by simp, by simp, by simp⟩
    · split
      · exact ⟨rfl, rfl, rfl, by simp, by simp, by simp⟩
      · split
        · exact ⟨rfl, rfl, rfl, by simp, by simp, by simp⟩
        · exact ⟨rfl, rfl, rfl, by simp, by simp, by simp⟩
theorem send_bd (s : SS) (m : Msg) : (sendV s m).1.beat = s.beat ∧ (sendV s m).1.all.length ≤ s.all.length + 1 ∧ (sendV s m).1.want = s.want ∧ (sendV s m).1.sent ≤ s.sent ∧ (sendV s m).1.heard = s.heard := by
  unfold sendV
  split
  · exact ⟨rfl, by simp, rfl, by simp, rfl⟩
  · refine ⟨rfl, by simp, rfl, ?_, rfl⟩
    dsimp only
    split <;> omega
/-- Both sides hold the same session, within these bounds. -/
def Both (p q : Option Addr) (g : Hp) (i j : Nat) (h : Hp) : Prop :=
  ∃ (s : SS) (c cR : Hp), On h (cR :: c :: g :: []) ∧ IsSess p s c ∧ IsRef q s cR ∧ 1 ≤ s.beat ∧ s.beat ≤ 1000 ∧ s.all.length ≤ i ∧ s.want ≤ i + 1 ∧ s.sent ≤ j ∧ s.heard ≤ j
end Go.Proofs.YtmkgcdgpokidjaaGreat

/- Chapter 10: what was sent is sent again; a session's own messages. -/
namespace Go.Proofs.YtmkgcdgpokidjaaGreat
open Go.Eng

theorem take_logv (s : SS) (v : Int) : takeV s (logF v) = ((logV s v).1, (logV s v).2, zeroM, false, s.up && !(logV s v).1.up) := by
  unfold takeV
  rw [if_pos (show (logF v).Seq = 0 ∧ (logF v).Msg_Kind = 1 from ⟨rfl, rfl⟩)]
  rfl
def sentF (k : Nat) : Frame := mkF ((k + 1 : Nat) : Int) ⟨27, (k : Int), 0, 0, 0, 0, 0⟩
def sentL (n : Nat) : List Frame := (List.range n).map sentF
theorem sentL_len (n : Nat) : (sentL n).length = n := by simp [sentL]
theorem sentL_succ (n : Nat) : sentL (n + 1) = sentL n ++ [sentF n] := by simp [sentL, List.range_succ]
theorem sentL_get {n k : Nat} (h : k < n) : (sentL n)[k]? = some (sentF k) := by simp [sentL, h]
theorem send_27 (s : SS) (v : Int) : sendV s ⟨27, v, 0, 0, 0, 0, 0⟩ = ({ s with all := s.all ++ [mkF (s.all.length + 1 : Nat) ⟨27, v, 0, 0, 0, 0, 0⟩], sent := if s.up = true then 0 else s.sent }, mkF (s.all.length + 1 : Nat) ⟨27, v, 0, 0, 0, 0, 0⟩, s.up) := by
  unfold sendV
  rw [if_neg]
  rintro (h | h)
  · have : isV ⟨27, v, 0, 0, 0, 0, 0⟩ = true := isV_mk (k := 27) (l := [v]) (by decide) (by simp [manyV, manyL])
    rw [this] at h; cases h
  · cases h
end Go.Proofs.YtmkgcdgpokidjaaGreat
