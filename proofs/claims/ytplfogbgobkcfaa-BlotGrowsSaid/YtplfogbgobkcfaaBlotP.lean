/- Chapter 21: what blot's functions say of parts of the heap. -/
import Derived.Test.YtplfogbgobkcfaaPackP
import Derived.Test.YtplfogbgobkcfaaKeepU
set_option linter.unusedVariables false
namespace Go.Proofs.Ytplfogbgobkcfaa
open Go.Eng

def tfs (t : Trade) : List Int := [t.ID, t.Bond, t.Buyer, t.Seller, t.Price, t.Qty, t.Ask, t.Tick]
/-- A trade's bytes. -/
def tb (t : Trade) : List Int := putV (tfs t)
def TradeOk (t : Trade) : Prop := ∀ n ∈ tfs t, I64 n
def setId (n : Int) (t : Trade) : Trade := ⟨n, t.Bond, t.Buyer, t.Seller, t.Price, t.Qty, t.Ask, t.Tick⟩
theorem setId_ok {n : Int} {t : Trade} (hn : I64 n) (h : TradeOk t) : TradeOk (setId n t) := by
  intro x hx
  have hx' : x = n ∨ x ∈ [t.Bond, t.Buyer, t.Seller, t.Price, t.Qty, t.Ask, t.Tick] := by simpa [setId, tfs] using hx
  rcases hx' with rfl | hx'
  · exact hn
  · exact h x (by unfold tfs; exact List.mem_cons_of_mem _ hx')
theorem tb_len {t : Trade} (h : TradeOk t) : (tb t).length ≤ 80 := by
  have := putV_len _ h
  exact this
/-- What trades come to. -/
def headV (ts : List Trade) : Int := ts.foldl (fun x t => chainV x (tb t)) 0
theorem headV_push (ts : List Trade) (t : Trade) : headV (ts ++ [t]) = chainV (headV ts) (tb t) := by simp [headV]
theorem headV_take {ts : List Trade} {i : Nat} {t : Trade} (h : ts[i]? = some t) : headV (ts.take (i + 1)) = chainV (headV (ts.take i)) (tb t) := take_foldl _ _ _ h
def headsV (ts : List Trade) (n : Nat) : List Int := (List.range n).map fun i => headV (ts.take (i + 1))
theorem headsV_len (ts : List Trade) (n : Nat) : (headsV ts n).length = n := by simp [headsV]
theorem headsV_get (ts : List Trade) {n i : Nat} (h : i < n) : (headsV ts n)[i]? = some (headV (ts.take (i + 1))) := by
  unfold headsV; rw [List.getElem?_map, List.getElem?_range h]; rfl
theorem headsV_succ (ts : List Trade) (n : Nat) : headsV ts (n + 1) = headsV ts n ++ [headV (ts.take (n + 1))] := by simp [headsV, List.range_succ]

theorem bytes21_ok {t : Trade} {h : Hp} {l : List Hp} (o : On h l) (ht : TradeOk t) {Q : Sl → Hp → Prop} (hq : ∀ s d h', On h' (d :: l) → Own (cI .u8) d s (tb t) → Q s h') :
    callP Try.prog 53 [cTrade.enc t] cSl h Q := by
  refine c53 ?_
  unfold F53
  refine alloc_ob o fun k1 h1 o1 => ?_
  have r : Row (cI .i64) (ob k1 _ 2) ⟨some ⟨k1, 0, none⟩, 8, 8⟩ (tfs t) := row_ob (cd := cI .i64) (xs := tfs t) rfl rfl
  refine put3_ok (p0 := ⟨some ⟨k1, 0, none⟩, 8, 8⟩) o1 (List.mem_cons_self ..) r ht (by simp [tfs]) fun s d h2 o2 w2 => ?_
  exact hq s d h2 (o2.sublist (by simp)) w2
theorem rbytes21_ok {t : Trade} {h : Hp} {l : List Hp} (o : On h l) (ht : TradeOk t) {Q : Sl → Hp → Prop} (hq : ∀ s d h', On h' (d :: l) → Own (cI .u8) d s (tb t) → Q s h') :
    callP Try.prog 54 [cTrade.enc t] cSl h Q := by
  refine c54 ?_
  unfold F54
  refine alloc_ob o fun k1 h1 o1 => ?_
  have r : Row (cI .i64) (ob k1 _ 2) ⟨some ⟨k1, 0, none⟩, 8, 8⟩ (tfs t) := row_ob (cd := cI .i64) (xs := tfs t) rfl rfl
  refine rput3_ok (p0 := ⟨some ⟨k1, 0, none⟩, 8, 8⟩) o1 (List.mem_cons_self ..) r ht (by simp [tfs]) fun s d h2 o2 w2 => ?_
  exact hq s d h2 (o2.sublist (by simp)) w2

theorem heads_ok {p0 : Sl} {g h : Hp} {l : List Hp} {ts : List Trade} (o : On h l) (hg : g ∈ l) (r : Row cTrade g p0 ts) (ht : ∀ t ∈ ts, TradeOk t) (hl : ts.length ≤ 1000000) {Q : Sl → Hp → Prop}
    (hq : ∀ s d h', On h' (d :: l) → Own (cI .u64) d s (headsV ts ts.length) → Q s h') : callP Try.prog 51 [Value.slice p0.a p0.len p0.cap] cSl h Q := by
  refine c51 ?_
  unfold F51
  refine loop_i (fun z h' => ∃ (i : Nat) (d : Hp), z.2.2 = i ∧ i ≤ ts.length ∧ z.2.1 = headV (ts.take i) ∧ On h' (d :: l) ∧ Own (cI .u64) d z.1 (headsV ts i)) (fun z => ts.length - z.2.2.toNat) ⟨0, Hp.emp, rfl, Nat.zero_le _, rfl, o.emp, Own.nil _⟩ ?_
  rintro J ⟨s, x, z⟩ h' again ⟨i, d, hi, hle, hx, o', w⟩
  dsimp only at hi hx w
  subst hi hx
  refine cond_d (fun hlt => ?_) fun hge => ?_
  · dsimp only at hlt
    rw [r.1] at hlt
    have hlt : i < ts.length := by omega
    have hi : ts[i]? = some ts[i] := List.getElem?_eq_getElem hlt
    refine idx_row r (Int.natCast_nonneg i) (by dsimp only; omega) fun a ha => load_row r (o'.mem (by simp [hg])) rfl ha (i := i) hi (by simp) ?_
    have hti := ht _ (List.mem_of_getElem? hi)
    refine bytes21_ok o' hti fun s2 d2 h2 o2 w2 => ?_
    refine chain_ok (o2.get (i := 0) rfl) w2.row (by have := tb_len hti; omega) ?_
    rw [← headV_take hi]
    refine alloc_ob o2 fun k1 h3 o3 => ?_
    have rb : Row (cI .u64) (ob k1 [Value.int .u64 (headV (ts.take (i + 1)))] 30) ⟨some ⟨k1, 0, none⟩, 1, 1⟩ [headV (ts.take (i + 1))] := row_ob rfl rfl
    have o3' := o3.pull 2 rfl
    refine append_own (s := s) (t := ⟨some ⟨k1, 0, none⟩, 1, 1⟩) o3' rfl w (by decide) rb (o3'.get (i := 1) rfl) (by unfold roomP; rw [headsV_len]; simp; omega) fun d4 p4 n4 m4 h4 o4 w4 => ?_
    refine again _ _ ⟨i + 1, d4, w64n (by omega), by omega, rfl, o4.sublist (by simp), ?_⟩ (by dsimp only; rw [w64n (by omega)]; omega)
    rw [headsV_succ]; exact w4
  · dsimp only at hge
    rw [r.1] at hge
    have : i = ts.length := by omega
    subst this
    exact hq _ _ _ o' w
theorem rheads_ok {p0 : Sl} {g h : Hp} {l : List Hp} {ts : List Trade} (o : On h l) (hg : g ∈ l) (r : Row cTrade g p0 ts) (ht : ∀ t ∈ ts, TradeOk t) (hl : ts.length ≤ 1000000) {Q : Sl → Hp → Prop}
    (hq : ∀ s d h', On h' (d :: l) → Own (cI .u64) d s (headsV ts ts.length) → Q s h') : callP Try.prog 52 [Value.slice p0.a p0.len p0.cap] cSl h Q := by
  refine c52 ?_
  unfold F52
  refine loop_i (fun z h' => ∃ (i : Nat) (d : Hp), z.2.2 = i ∧ i ≤ ts.length ∧ z.2.1 = headV (ts.take i) ∧ On h' (d :: l) ∧ Own (cI .u64) d z.1 (headsV ts i)) (fun z => ts.length - z.2.2.toNat) ⟨0, Hp.emp, rfl, Nat.zero_le _, rfl, o.emp, Own.nil _⟩ ?_
  rintro J ⟨s, x, z⟩ h' again ⟨i, d, hi, hle, hx, o', w⟩
  dsimp only at hi hx w
  subst hi hx
  refine cond_d (fun hlt => ?_) fun hge => ?_
  · dsimp only at hlt
    rw [r.1] at hlt
    have hlt : i < ts.length := by omega
    have hi : ts[i]? = some ts[i] := List.getElem?_eq_getElem hlt
    refine idx_row r (Int.natCast_nonneg i) (by dsimp only; omega) fun a ha => load_row r (o'.mem (by simp [hg])) rfl ha (i := i) hi (by simp) ?_
    have hti := ht _ (List.mem_of_getElem? hi)
    refine rbytes21_ok o' hti fun s2 d2 h2 o2 w2 => ?_
    refine rchain_ok (o2.get (i := 0) rfl) w2.row (by have := tb_len hti; omega) ?_
    rw [← headV_take hi]
    refine alloc_ob o2 fun k1 h3 o3 => ?_
    have rb : Row (cI .u64) (ob k1 [Value.int .u64 (headV (ts.take (i + 1)))] 30) ⟨some ⟨k1, 0, none⟩, 1, 1⟩ [headV (ts.take (i + 1))] := row_ob rfl rfl
    have o3' := o3.pull 2 rfl
    refine append_own (s := s) (t := ⟨some ⟨k1, 0, none⟩, 1, 1⟩) o3' rfl w (by decide) rb (o3'.get (i := 1) rfl) (by unfold roomP; rw [headsV_len]; simp; omega) fun d4 p4 n4 m4 h4 o4 w4 => ?_
    refine again _ _ ⟨i + 1, d4, w64n (by omega), by omega, rfl, o4.sublist (by simp), ?_⟩ (by dsimp only; rw [w64n (by omega)]; omega)
    rw [headsV_succ]; exact w4
  · dsimp only at hge
    rw [r.1] at hge
    have : i = ts.length := by omega
    subst this
    exact hq _ _ _ o' w

/-- A blotter that has these trades. -/
def IsBlot (p : Option Addr) (ts : List Trade) (c : Hp) : Prop :=
  ∃ b e sl d, p = some ⟨b, 0, none⟩ ∧ On c [ob b [sv sl, .int .u64 (headV ts)] e, d] ∧ Own cTrade d sl ts
/-- The document's. -/
def IsRef21 (p : Option Addr) (ts : List Trade) (c : Hp) : Prop :=
  ∃ b e sl d, p = some ⟨b, 0, none⟩ ∧ On c [ob b [sv sl] e, d] ∧ Own cTrade d sl ts

theorem bnew_ok {h : Hp} {l : List Hp} (o : On h l) {Q : Option Addr → Hp → Prop} (hq : ∀ p c h', On h' (c :: l) → IsBlot p [] c → Q p h') : callP Try.prog 43 [] cP h Q := by
  refine c43 ?_
  unfold F43
  refine alloc_ob o fun k1 h1 o1 => ?_
  have o2 : On h1 ([ob k1 [Value.slice none 0 0, Value.int .u64 0] 107, Hp.emp] ++ l) := o1.emp.swap
  obtain ⟨o3, o4⟩ := o2.joined
  exact hq _ _ _ o3 ⟨k1, 107, ⟨none, 0, 0⟩, Hp.emp, rfl, o4, Own.nil _⟩

theorem badd_ok {p : Option Addr} {ts : List Trade} {t : Trade} {c h : Hp} {l : List Hp} (o : On h (c :: l)) (w : IsBlot p ts c) (hl : ts.length ≤ 1000000) (ht : TradeOk t) {Q : Trade → Hp → Prop}
    (hq : ∀ c' h', On h' (c' :: l) → IsBlot p (ts ++ [setId (ts.length + 1 : Nat) t]) c' → Q (setId (ts.length + 1 : Nat) t) h') : callP Try.prog 44 [Value.pointer p, cTrade.enc t] cTrade h Q := by
  obtain ⟨b, e, sl, d, rfl, oc, wd⟩ := w
  refine c44 ?_
  unfold F44
  dsimp only [nilP]
  have os := o.split oc
  refine cond_f rfl ?_
  refine load_ob (x := sl) os 0 rfl rfl ?_
  refine load_ob (x := sl) os 0 rfl rfl ?_
  have hid : IntKind.i64.wrap ((sl.len : Int) + 1) = ((ts.length + 1 : Nat) : Int) := by rw [wd.1]; exact w64n (by omega)
  rw [hid]
  refine alloc_ob os fun k1 h2 o2 => ?_
  have rf : Row cTrade (ob k1 _ 87) ⟨some ⟨k1, 0, none⟩, 1, 1⟩ [setId (ts.length + 1 : Nat) t] := row_ob (cd := cTrade) (xs := [setId (ts.length + 1 : Nat) t]) rfl rfl
  have o2' := o2.pull 2 rfl
  refine append_own (s := sl) (t := ⟨some ⟨k1, 0, none⟩, 1, 1⟩) o2' rfl wd (by decide) rf (o2'.get (i := 1) rfl) (by unfold roomP; simp; omega) fun d3 p3 k2 k3 h3 o3 w3 => ?_
  have o3' := o3.pull 2 rfl
  refine store_ob (vs' := [Value.slice p3 k2 k3, .int .u64 (headV ts)]) (cd := cSl) (i := 0) (x := (⟨p3, k2, k3⟩ : Sl)) o3' rfl rfl (Nat.le_succ 1) fun h4 o4 => ?_
  refine load_ob (cd := cI .u64) (x := headV ts) o4 0 rfl rfl ?_
  have hti : TradeOk (setId (ts.length + 1 : Nat) t) := setId_ok (by unfold I64; omega) ht
  refine bytes21_ok (t := setId (ts.length + 1 : Nat) t) o4 hti fun s5 d5 h5 o5 w5 => ?_
  refine ⟨⟨Hp.sub_rds (o5.get (i := 1) rfl) (ob_rds rfl), trivial⟩, ?_⟩
  refine chain_ok (o5.get (i := 0) rfl) w5.row (by have := tb_len hti; omega) ?_
  rw [← headV_push]
  refine store_ob (cd := cI .u64) (i := 1) (vs' := [Value.slice p3 k2 k3, .int .u64 (headV (ts ++ [setId (ts.length + 1 : Nat) t]))]) (o5.pull 1 rfl) rfl rfl (Nat.le_refl 2) fun h6 o6 => ?_
  have o7 : On h6 ([ob b [Value.slice p3 k2 k3, .int .u64 (headV (ts ++ [setId (ts.length + 1 : Nat) t]))] e, d3] ++ l) := o6.sublist (by simp)
  obtain ⟨o8, o9⟩ := o7.joined
  exact hq _ _ o8 ⟨b, e, ⟨p3, k2, k3⟩, d3, rfl, o9, w3⟩
theorem badd_nil {t : Trade} {h : Hp} {Q : Trade → Hp → Prop} (hq : Q ⟨0, 0, 0, 0, 0, 0, 0, 0⟩ h) : callP Try.prog 44 [Value.pointer none, cTrade.enc t] cTrade h Q := by
  refine c44 ?_
  unfold F44
  exact cond_t rfl hq

theorem rbadd_ok {p : Option Addr} {ts : List Trade} {t : Trade} {c h : Hp} {l : List Hp} (o : On h (c :: l)) (w : IsRef21 p ts c) (hl : ts.length ≤ 1000000) {Q : Trade → Hp → Prop}
    (hq : ∀ c' h', On h' (c' :: l) → IsRef21 p (ts ++ [setId (ts.length + 1 : Nat) t]) c' → Q (setId (ts.length + 1 : Nat) t) h') : callP Try.prog 45 [Value.pointer p, cTrade.enc t] cTrade h Q := by
  obtain ⟨b, e, sl, d, rfl, oc, wd⟩ := w
  refine c45 ?_
  unfold F45
  dsimp only [nilP]
  have os := o.split oc
  refine load_ob (x := sl) os 0 rfl rfl ?_
  refine load_ob (x := sl) os 0 rfl rfl ?_
  have hid : IntKind.i64.wrap ((sl.len : Int) + 1) = ((ts.length + 1 : Nat) : Int) := by rw [wd.1]; exact w64n (by omega)
  rw [hid]
  refine alloc_ob os fun k1 h2 o2 => ?_
  have rf : Row cTrade (ob k1 _ 87) ⟨some ⟨k1, 0, none⟩, 1, 1⟩ [setId (ts.length + 1 : Nat) t] := row_ob (cd := cTrade) (xs := [setId (ts.length + 1 : Nat) t]) rfl rfl
  have o2' := o2.pull 2 rfl
  refine append_own (s := sl) (t := ⟨some ⟨k1, 0, none⟩, 1, 1⟩) o2' rfl wd (by decide) rf (o2'.get (i := 1) rfl) (by unfold roomP; simp; omega) fun d3 p3 k2 k3 h3 o3 w3 => ?_
  have o3' := o3.pull 2 rfl
  refine store_ob (vs' := [Value.slice p3 k2 k3]) (cd := cSl) (i := 0) (x := (⟨p3, k2, k3⟩ : Sl)) o3' rfl rfl (Nat.le_refl 1) fun h4 o4 => ?_
  have o7 : On h4 ([ob b [Value.slice p3 k2 k3] e, d3] ++ l) := o4.sublist (by simp)
  obtain ⟨o8, o9⟩ := o7.joined
  exact hq _ _ o8 ⟨b, e, ⟨p3, k2, k3⟩, d3, rfl, o9, w3⟩

theorem bhead_ok {p : Option Addr} {ts : List Trade} {c h : Hp} {l : List Hp} (o : On h (c :: l)) (w : IsBlot p ts c) {Q : Int → Hp → Prop} (hq : Q (headV ts) h) : callP Try.prog 46 [Value.pointer p] (cI .u64) h Q := by
  obtain ⟨b, e, sl, d, rfl, oc, wd⟩ := w
  refine c46 ?_
  unfold F46
  dsimp only [nilP]
  exact cond_f rfl (load_ob (cd := cI .u64) (x := headV ts) (o.split oc) 0 rfl rfl hq)
theorem bhead_nil {h : Hp} {Q : Int → Hp → Prop} (hq : Q 0 h) : callP Try.prog 46 [Value.pointer none] (cI .u64) h Q := by
  refine c46 ?_
  unfold F46
  exact cond_t rfl hq
theorem rhead_ok {p : Option Addr} {ts : List Trade} {c h : Hp} {l : List Hp} (o : On h (c :: l)) (w : IsRef21 p ts c) (ht : ∀ t ∈ ts, TradeOk t) (hl : ts.length ≤ 1000000) {Q : Int → Hp → Prop} (hq : ∀ h', On h' (c :: l) → Q (headV ts) h') :
    callP Try.prog 47 [Value.pointer p] (cI .u64) h Q := by
  obtain ⟨b, e, sl, d, rfl, oc, wd⟩ := w
  refine c47 ?_
  unfold F47
  dsimp only [nilP]
  refine load_ob (cd := cSl) (x := sl) (o.split oc) 0 rfl rfl ?_
  refine rheads_ok o (List.mem_cons_self ..) (wd.row.sub (oc.get (i := 1) rfl)) ht hl fun s d2 h2 o2 w2 => ?_
  have hlen := w2.1
  rw [headsV_len] at hlen
  refine cond_i (fun e0 => ?_) fun e0 => ?_
  · have : ts = [] := by
      have h0 : (s.len : Int) = 0 := by simpa using e0
      exact List.length_eq_zero_iff.1 (by omega)
    subst this
    exact hq _ o2.tail
  · have h0 : ¬ (s.len : Int) = 0 := by simpa using e0
    rw [w64 (by omega) (by omega)]
    refine idx_row w2.row (by omega) (by rw [headsV_len]; omega) fun a ha => load_row w2.row (o2.get (i := 0) rfl) rfl ha (i := s.len - 1) (headsV_get ts (by omega)) (by simp) ?_
    rw [List.take_of_length_le (by omega)]
    exact hq _ o2.tail

theorem tclone_ok {p0 : Sl} {g h : Hp} {l : List Hp} {ts : List Trade} (o : On h l) (hg : g ∈ l) (r : Row cTrade g p0 ts) (hl : ts.length ≤ 1000000) {Q : Sl → Hp → Prop}
    (hq : ∀ s d h', On h' (d :: l) → Own cTrade d s ts → Q s h') : callP Try.prog 59 [Value.slice p0.a p0.len p0.cap] cSl h Q := by
  refine c59 ?_
  unfold F59
  refine cond_i (fun hn => ?_) fun _ => ?_
  · have ha : p0.a = none := Option.isNone_iff_eq_none.1 hn
    have : ts = [] := by
      have := r.2
      rw [ha] at this
      exact this
    subst this
    exact hq _ Hp.emp h o.emp (Own.nil _)
  · refine alloc_ob o fun k1 h1 o1 => ?_
    have w0 : Own cTrade (ob k1 [] 87) ⟨some ⟨k1, 0, none⟩, 0, 0⟩ [] := own_ob (cd := cTrade) (xs := []) (rest := []) rfl rfl rfl
    exact append_own (g := g) (s := ⟨some ⟨k1, 0, none⟩, 0, 0⟩) (t := p0) o1 rfl w0 (by decide) r (o1.mem (by simp [hg])) (by unfold roomP; simp; omega) fun c p k2 k3 h3 o3 w3 => hq _ c _ o3 w3
theorem blist_ok {p : Option Addr} {ts : List Trade} {c h : Hp} {l : List Hp} (o : On h (c :: l)) (w : IsBlot p ts c) (hl : ts.length ≤ 1000000) {Q : Sl → Hp → Prop} (hq : ∀ s d h', On h' (d :: c :: l) → Own cTrade d s ts → Q s h') :
    callP Try.prog 49 [Value.pointer p] cSl h Q := by
  obtain ⟨b, e, sl, d, rfl, oc, wd⟩ := w
  refine c49 ?_
  unfold F49
  dsimp only [nilP]
  refine cond_f rfl (load_ob (cd := cSl) (x := sl) (o.split oc) 0 rfl rfl ?_)
  exact tclone_ok o (List.mem_cons_self ..) (wd.row.sub (oc.get (i := 1) rfl)) hl fun s d2 h2 o2 w2 => hq s d2 h2 o2 w2
theorem blist_nil {h : Hp} {Q : Sl → Hp → Prop} (hq : Q ⟨none, 0, 0⟩ h) : callP Try.prog 49 [Value.pointer none] cSl h Q := by
  refine c49 ?_
  unfold F49
  exact cond_t rfl hq

theorem same21_ok {p0 p1 : Sl} {g1 g2 h : Hp} {xs : List Trade} (h1 : g1.sub h) (h2 : g2.sub h) (r1 : Row cTrade g1 p0 xs) (r2 : Row cTrade g2 p1 xs) (hl : xs.length ≤ 1000000) {Q : Bool → Hp → Prop} (hq : Q true h) :
    callP Try.prog 48 [Value.slice p0.a p0.len p0.cap, Value.slice p1.a p1.len p1.cap] cB h Q := by
  refine c48 ?_
  unfold F48
  refine cond_f (by rw [r1.1, r2.1]; simp) ?_
  refine loop_i (fun z h' => ∃ i : Nat, z = i ∧ i ≤ xs.length ∧ h' = h) (fun z => xs.length - z.toNat) ⟨0, rfl, Nat.zero_le _, rfl⟩ ?_
  rintro J z h' again ⟨i, rfl, hle, rfl⟩
  refine cond_d (fun hlt => ?_) fun _ => hq
  rw [r1.1] at hlt
  have hlt : i < xs.length := by omega
  have hi : xs[i]? = some xs[i] := List.getElem?_eq_getElem hlt
  refine idx_row r1 (by omega) (by omega) fun a ha => idx_row r2 (by omega) (by omega) fun a2 ha2 => ?_
  refine load_row r1 h1 rfl ha (i := i) hi (by simp) ?_
  refine load_row r2 h2 rfl ha2 (i := i) hi (by simp) ?_
  refine cond_f (by simp) ?_
  exact again _ _ ⟨i + 1, w64n (by omega), by omega, rfl⟩ (by rw [w64n (by omega)]; omega)

theorem tb1 : tb ⟨1, 0, 0, 0, 5, 0, 0, 0⟩ = [2, 0, 0, 0, 10, 0, 0, 0] := by simp [tb, tfs, putV, one3, zigV, grp_lt]
theorem tb2 : tb ⟨2, 0, 0, 0, 6, 0, 0, 0⟩ = [4, 0, 0, 0, 12, 0, 0, 0] := by simp [tb, tfs, putV, one3, zigV, grp_lt]
theorem known21_ok {h : Hp} {l : List Hp} (o : On h l) {Q : Bool → Hp → Prop} (hq : ∀ h', On h' l → Q true h') : callP Try.prog 50 [] cB h Q := by
  refine c50 ?_
  unfold F50
  have z5 : TradeOk ⟨0, 0, 0, 0, 5, 0, 0, 0⟩ := by intro n hn; simp [tfs] at hn; unfold I64; omega
  have z6 : TradeOk ⟨0, 0, 0, 0, 6, 0, 0, 0⟩ := by intro n hn; simp [tfs] at hn; unfold I64; omega
  refine bnew_ok o fun p c h1 o1 w1 => ?_
  refine badd_ok (t := ⟨0, 0, 0, 0, 5, 0, 0, 0⟩) o1 w1 (by simp) z5 fun c2 h2 o2 w2 => ?_
  refine badd_ok (t := ⟨0, 0, 0, 0, 6, 0, 0, 0⟩) o2 w2 (by simp) z6 fun c3 h3 o3 w3 => ?_
  refine cond_t rfl (cond_t rfl (cond_t rfl ?_))
  refine blist_ok o3 w3 (by simp) fun s d h4 o4 w4 => ?_
  refine cond_t (by have := w4.1; simp at this; simp [this]) ?_
  refine bhead_ok o4.swap w3 ?_
  have hne : headV ([] ++ [setId (([] : List Trade).length + 1 : Nat) ⟨0, 0, 0, 0, 5, 0, 0, 0⟩] ++ [setId (([] ++ [setId (([] : List Trade).length + 1 : Nat) ⟨0, 0, 0, 0, 5, 0, 0, 0⟩]).length + 1 : Nat) ⟨0, 0, 0, 0, 6, 0, 0, 0⟩]) ≠ 0 := by
    show chainV (chainV 0 (tb ⟨1, 0, 0, 0, 5, 0, 0, 0⟩)) (tb ⟨2, 0, 0, 0, 6, 0, 0, 0⟩) ≠ 0
    rw [tb1, tb2]
    decide +kernel
  rw [show (headV _ != 0) = true from bne_iff_ne.2 hne]
  exact hq _ o4.tail.tail
end Go.Proofs.Ytplfogbgobkcfaa
