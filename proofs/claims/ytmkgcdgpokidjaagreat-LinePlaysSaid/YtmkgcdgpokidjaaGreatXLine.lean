import Derived.Test.YtmkgcdgpokidjaaGreatXSess
import Derived.Test.YtmkgcdgpokidjaaGreatXFlow
import Derived.Test.YtmkgcdgpokidjaaGreatMailA
import Derived.Test.YtmkgcdgpokidjaaGreatFC
set_option linter.unusedVariables false
/- Chapter 24: a line: bytes in, frames out. -/
namespace Go.Proofs.YtmkgcdgpokidjaaGreat
open Go.Eng

/-- A frame goes into the box, or the session is cut. -/
def goes1 (st : SS × List (List Int) × Bool) (f : Frame) : SS × List (List Int) × Bool :=
  if st.2.1.length < 256 then (st.1, st.2.1 ++ [frameV (bytesF f)], st.2.2) else ((cutV st.1).1, st.2.1, st.2.2 || (cutV st.1).2)
def goesV (st : SS × List (List Int) × Bool) (fs : List Frame) : SS × List (List Int) × Bool := fs.foldl goes1 st
/-- A body that a line hears. -/
def hearV (st : SS × List (List Int) × List Frame × Bool) (b : List Int) : SS × List (List Int) × List Frame × Bool :=
  match readV b with
  | none => st
  | some x =>
    ((goesV ((takeV st.1 x).1, st.2.1, false) (takeV st.1 x).2.1).1, (goesV ((takeV st.1 x).1, st.2.1, false) (takeV st.1 x).2.1).2.1,
      if (takeV st.1 x).2.2.2.1 = true then st.2.2.1 ++ [mkF x.Seq (takeV st.1 x).2.2.1] else st.2.2.1,
      st.2.2.2 || ((takeV st.1 x).2.2.2.2 || (goesV ((takeV st.1 x).1, st.2.1, false) (takeV st.1 x).2.1).2.2))
def cellsLn (pf ps pb : Option Addr) : List Value := [.pointer pf, .pointer ps, .pointer pb]
/-- A line in memory. -/
def IsLine (p : Option Addr) (held : List Int) (lost : Nat) (s : SS) (out : List (List Int)) (c : Hp) : Prop :=
  ∃ (b : Nat) (pf ps pb : Option Addr) (cf cs cb : Hp), p = some ⟨b, 0, none⟩ ∧ On c [ob b (cellsLn pf ps pb) 58, cf, cs, cb] ∧ IsFlow pf held lost cf 88 ∧ IsSess ps s cs ∧ IsBox pb 256 out false cb
theorem new24_ok {n : Int} {h : Hp} {l : List Hp} (o : On h l) {Q : Option Addr → Hp → Prop} (h0 : n < 1 ∨ 1000 < n → Q none h) (h1 : 1 ≤ n → n ≤ 1000 → ∀ p c h', On h' (c :: l) → IsLine p [] 0 (newV n.toNat) [] c → Q p h') : callP Tryz.prog 4 [Value.int .i64 n] cP h Q := by
  refine c4 ?_
  unfold F4
  refine new10_ok o (fun hn => cond_t rfl (h0 hn)) fun a1 a2 ps cs h2 o2 w2 => ?_
  obtain ⟨ks, rfl⟩ := isS_some w2
  refine cond_f rfl (new7_ok o2 fun pf cf h3 o3 w3 => ?_)
  refine new_ok o3 (fun h => by omega) fun pb cb h4 _ _ o4 w4 => ?_
  refine alloc_ob o4 fun k1 h5 o5 => ?_
  obtain ⟨o6, o7⟩ := On.joined (cs := [ob k1 (cellsLn pf (some ⟨ks, 0, none⟩) pb) 58, cf, cs, cb]) (l := l) (On.pick (l := ob k1 (cellsLn pf (some ⟨ks, 0, none⟩) pb) 58 :: cb :: cf :: cs :: l) o5 [0, 2, 3, 1] 4 (by decide) (by decide))
  exact h1 a1 a2 _ _ h5 o6 ⟨k1, pf, _, pb, cf, cs, cb, rfl, o7, w3, w2, w4⟩
theorem up24_ok {p : Option Addr} {held : List Int} {lost : Nat} {s : SS} {out : List (List Int)} {c h : Hp} (hc : c.sub h) (w : IsLine p held lost s out c) {Q : Bool → Hp → Prop} (hq : Q s.up h) : callP Tryz.prog 18 [Value.pointer p] cB h Q := by
  obtain ⟨b, pf, ps, pb, cf, cs, cb, rfl, oc, wf, ws, wb⟩ := w
  refine c18 ?_
  unfold F18
  dsimp only [nilP]
  exact cond_t rfl ⟨ps, Hp.sub_rds (Hp.sub_trans (oc.get (i := 0) rfl) hc) (ob_rds rfl), up10_ok (Hp.sub_trans (oc.get (i := 2) rfl) hc) ws hq⟩
theorem cut24_ok {p : Option Addr} {held : List Int} {lost : Nat} {s : SS} {out : List (List Int)} {c h : Hp} {l : List Hp} (o : On h (c :: l)) (w : IsLine p held lost s out c) {Q : Bool → Hp → Prop} (hq : ∀ c' h', On h' (c' :: l) → IsLine p held lost (cutV s).1 out c' → Q (cutV s).2 h') : callP Tryz.prog 11 [Value.pointer p] cB h Q := by
  obtain ⟨b, pf, ps, pb, cf, cs, cb, rfl, oc, wf, ws, wb⟩ := w
  refine c11 ?_
  unfold F11
  dsimp only [nilP]
  have os := o.split oc
  refine cond_t rfl ?_
  refine load_ob (x := ps) os 0 rfl rfl ?_
  have os' : On h (cs :: ob b (cellsLn pf ps pb) 58 :: cf :: cb :: l) := On.pick (l := ob b (cellsLn pf ps pb) 58 :: cf :: cs :: cb :: l) os [2, 0, 1, 3] 4 (by decide) (by decide)
  refine cut10_ok os' ws fun cs' h2 o2 w2 => ?_
  obtain ⟨o6, o7⟩ := On.joined (cs := [ob b (cellsLn pf ps pb) 58, cf, cs', cb]) (l := l) (o2.pick [1, 2, 0, 3] 4 (by decide) (by decide))
  exact hq _ h2 o6 ⟨b, pf, _, pb, cf, cs', cb, rfl, o7, wf, w2, wb⟩
theorem goes24_ok {b : Nat} {pf ps pb : Option Addr} {cf cs cb g h : Hp} {l : List Hp} {s : SS} {out : List (List Int)} {p1 : Sl} {fs : List Frame} (o : On h (ob b (cellsLn pf ps pb) 58 :: cf :: cs :: cb :: l)) (ws : IsSess ps s cs) (wb : IsBox pb 256 out false cb) (hg : g ∈ l) (r : Row cFrame g p1 fs) (hw : ∀ f ∈ fs, wfF f) (hn : fs.length ≤ 1000000)
    {Q : Bool → Hp → Prop} (hq : ∀ cs' cb' h', On h' (ob b (cellsLn pf ps pb) 58 :: cf :: cs' :: cb' :: l) → IsSess ps (goesV (s, out, false) fs).1 cs' → IsBox pb 256 (goesV (s, out, false) fs).2.1 false cb' → Q (!(goesV (s, out, false) fs).2.2) h') :
    callP Tryz.prog 28 [Value.pointer (some ⟨b, 0, none⟩), Value.slice p1.a p1.len p1.cap] cB h Q := by
  refine c28 ?_
  unfold F28
  dsimp only [nilP]
  have hl := r.1
  refine loop_i (fun z h' => ∃ (i : Nat) (cs cb : Hp), z = ((goesV (s, out, false) (fs.take i)).2.2, (i : Int)) ∧ i ≤ fs.length ∧ On h' (ob b (cellsLn pf ps pb) 58 :: cf :: cs :: cb :: l) ∧ IsSess ps (goesV (s, out, false) (fs.take i)).1 cs ∧ IsBox pb 256 (goesV (s, out, false) (fs.take i)).2.1 false cb) (fun z => fs.length - z.2.toNat)
    ⟨0, cs, cb, rfl, Nat.zero_le _, o, ws, wb⟩ ?_
  rintro J z h1 again ⟨i, cs, cb, rfl, hle, o1, ws, wb⟩
  dsimp only
  refine cond_d (fun hlt => ?_) fun hge => ?_
  · have hi : i < fs.length := by omega
    have a0 : fs[i]? = some fs[i] := List.getElem?_eq_getElem hi
    have hwf := hw _ (List.mem_of_getElem? a0)
    generalize fs[i] = f at a0 hwf
    have estep : goesV (s, out, false) (fs.take (i + 1)) = goes1 (goesV (s, out, false) (fs.take i)) f := take_foldl goes1 (s, out, false) fs a0
    have ei : IntKind.i64.wrap ((i : Int) + 1) = ((i + 1 : Nat) : Int) := w64n (by omega)
    rw [ei]
    generalize goesV (s, out, false) (fs.take i) = st at ws wb estep
    obtain ⟨s1, out1, bad1⟩ := st
    dsimp only at ws wb ⊢
    refine join_i (fun t h' => ∃ (cs cb : Hp), On h' (ob b (cellsLn pf ps pb) 58 :: cf :: cs :: cb :: l) ∧ IsSess ps (goes1 (s1, out1, bad1) f).1 cs ∧ IsBox pb 256 (goes1 (s1, out1, bad1) f).2.1 false cb ∧ t = (goes1 (s1, out1, bad1) f).2.2) ?_ fun J2 hJ2 => ?_
    · rintro t h2 ⟨cs, cb, o2, ws, wb, rfl⟩
      exact again _ _ ⟨i + 1, cs, cb, by rw [estep], by omega, o2, by rw [estep]; exact ws, by rw [estep]; exact wb⟩ (by dsimp only; omega)
    · refine idx_row r (Int.natCast_nonneg i) (by omega) fun a ha => load_row r (o1.mem (by simp [hg])) rfl ha (i := i) a0 (by simp) ?_
      refine bytes5_ok (x := f) o1 hwf fun s3 d3 h3 o3 w3 => ?_
      have hbl := bytesF_len hwf
      refine put6_ok o3 (g := d3) (by simp) w3.row (bytesF_byte f) (by omega) (fun h => by omega) fun _ s4 d4 h4 o4 w4 => ?_
      refine join_i (fun t h' => ∃ cb, On h' (ob b (cellsLn pf ps pb) 58 :: cf :: cs :: cb :: l) ∧ IsBox pb 256 (if out1.length < 256 then out1 ++ [frameV (bytesF f)] else out1) false cb ∧ t = !decide (out1.length < 256)) ?_ fun J3 hJ3 => ?_
      · rintro t h5 ⟨cb, o5, wb5, rfl⟩
        by_cases h256 : out1.length < 256
        · rw [if_pos h256] at wb5
          have eg : goes1 (s1, out1, bad1) f = (s1, out1 ++ [frameV (bytesF f)], bad1) := if_pos h256
          refine cond_f (by rw [decide_eq_true h256]; rfl) (hJ2 _ _ ⟨cs, cb, o5, by rw [eg]; exact ws, by rw [eg]; exact wb5, by rw [eg]⟩)
        · rw [if_neg h256] at wb5
          have eg : goes1 (s1, out1, bad1) f = ((cutV s1).1, out1, bad1 || (cutV s1).2) := if_neg h256
          refine cond_t (by rw [decide_eq_false h256]; rfl) ?_
          refine load_ob (x := ps) o5 0 rfl rfl ?_
          refine cut10_ok (o5.pick [2, 0, 1, 3] 4 (by decide) (by decide)) ws fun cs6 h6 o6 w6 => ?_
          have o6' : On h6 (ob b (cellsLn pf ps pb) 58 :: cf :: cs6 :: cb :: l) := o6.pick [1, 2, 0, 3] 4 (by decide) (by decide)
          refine cond_i (fun e => hJ2 _ _ ⟨cs6, cb, o6', by rw [eg]; exact w6, by rw [eg]; exact wb5, by rw [eg, e, Bool.or_true]⟩) fun e => hJ2 _ _ ⟨cs6, cb, o6', by rw [eg]; exact w6, by rw [eg]; exact wb5, by rw [eg, e, Bool.or_false]⟩
      · refine cond_f rfl ?_
        refine load_ob (x := pb) o4 2 rfl rfl ?_
        have o4' : On h4 (cb :: d4 :: ob b (cellsLn pf ps pb) 58 :: cf :: cs :: l) := o4.pick [5, 0, 2, 3, 4] 6 (by decide) (by decide)
        refine put_ok (g := d4) o4' wb (i := 1) rfl w4.row (by rw [frameV_len]; omega) fun cb5 h5 o5 w5 => ?_
        refine hJ3 _ _ ⟨cb5, o5.pick [2, 3, 4, 0] 5 (by decide) (by decide), ?_, by simp⟩
        by_cases h256 : out1.length < 256
        · rw [if_pos h256]
          simpa [h256] using w5
        · rw [if_neg h256]
          simpa [h256] using w5
  · have : i = fs.length := by omega
    subst this
    rw [List.take_length] at ws wb ⊢
    exact hq cs cb h1 o1 ws wb
end Go.Proofs.YtmkgcdgpokidjaaGreat

/- Chapter 24: bytes into a line; a wire. -/
namespace Go.Proofs.YtmkgcdgpokidjaaGreat
open Go.Eng

theorem getD_wf {ns : List Int} (h : ∀ x ∈ ns, I64 x) (i : Nat) : I64 (ns.getD i 0) := by
  rw [List.getD_eq_getElem?_getD]
  cases hx : ns[i]? with
  | none => show I64 0; unfold I64; omega
  | some x => exact h x (List.mem_of_getElem? hx)
theorem readV_wf {bs : List Int} {x : Frame} (hb : Bytes bs) (h : readV bs = some x) : wfF x := by
  cases hf : firstV bs with
  | none => rw [readV_0 hf] at h; cases h
  | some p =>
    obtain ⟨s, k⟩ := p
    have i1 := (firstV_inv hb hf).1
    cases hf2 : firstV (bs.drop k) with
    | none => rw [readV_1 hf hf2] at h; cases h
    | some q =>
      obtain ⟨t, k2⟩ := q
      have i2 := (firstV_inv (hb.drop k) hf2).1
      rw [readV_2 hf hf2] at h
      by_cases hc : s < 0 ∨ manyV t < 0
      · rw [if_pos hc] at h; cases h
      · rw [if_neg hc, Option.map_eq_some_iff] at h
        obtain ⟨ns, hns, rfl⟩ := h
        unfold getV at hns
        rw [if_neg (by omega)] at hns
        have hall := (getN_inv _ _ _ ((hb.drop k).drop k2) hns).2.2
        intro n hn
        have hn : n ∈ s :: t :: [ns.getD 0 0, ns.getD 1 0, ns.getD 2 0, ns.getD 3 0, ns.getD 4 0, ns.getD 5 0] := hn
        simp only [List.mem_cons, List.not_mem_nil, or_false] at hn
        rcases hn with rfl | rfl | rfl | rfl | rfl | rfl | rfl | rfl
        · exact i1
        · exact i2
        all_goals exact getD_wf hall _
theorem ownF_wf {k v : Int} (h1 : I64 k) (h2 : I64 v) : wfF (ownF k v) := by
  intro n hn
  have hn : n ∈ [0, k, v, 0, 0, 0, 0, 0] := hn
  simp only [List.mem_cons, List.not_mem_nil, or_false] at hn
  rcases hn with rfl | rfl | rfl | rfl | rfl | rfl | rfl | rfl
  · unfold I64; omega
  · exact h1
  · exact h2
  all_goals (unfold I64; omega)
theorem take_wf {s : SS} {x : Frame} (hall : ∀ f ∈ s.all, wfF f) (hw : s.want ≤ 1000000) : ∀ f ∈ (takeV s x).2.1, wfF f := by
  have o1 : wfF (ownF 1 s.want) := ownF_wf (by unfold I64; omega) (by unfold I64; omega)
  have o2 : wfF (ownF 2 0) := ownF_wf (by unfold I64; omega) (by unfold I64; omega)
  have o4 : wfF (ownF 4 s.want) := ownF_wf (by unfold I64; omega) (by unfold I64; omega)
  have o5 : wfF (ownF 5 0) := ownF_wf (by unfold I64; omega) (by unfold I64; omega)
  have od : ∀ k, ∀ f ∈ s.all.drop k, wfF f := fun k f hf => hall f (List.mem_of_mem_drop hf)
  intro f hf
  unfold takeV at hf
  split at hf
  · unfold logV at hf
    split at hf
    · cases hf
    · rcases List.mem_cons.1 hf with rfl | hf
      · exact o1
      · exact od _ f hf
  · split at hf
    · cases hf
    · split at hf
      · unfold sesV at hf
        split at hf
        · rw [List.mem_singleton] at hf; subst hf; exact o2
        · split at hf
          · split at hf
            · rw [List.mem_singleton] at hf; subst hf; exact o5
            · exact od _ f hf
          · split at hf
            · cases hf
            · cases hf
      · unfold seqV at hf
        split at hf
        · cases hf
        · split at hf
          · cases hf
          · split at hf
            · rw [List.mem_singleton] at hf; subst hf; exact o4
            · cases hf
theorem goes_bd (fs : List Frame) : ∀ st : SS × List (List Int) × Bool, (goesV st fs).1.all = st.1.all ∧ (goesV st fs).1.want = st.1.want ∧ (goesV st fs).1.beat = st.1.beat := by
  induction fs with
  | nil => exact fun st => ⟨rfl, rfl, rfl⟩
  | cons f fs ih =>
    intro st
    have h := ih (goes1 st f)
    have h1 : (goes1 st f).1.all = st.1.all ∧ (goes1 st f).1.want = st.1.want ∧ (goes1 st f).1.beat = st.1.beat := by
      unfold goes1
      split <;> exact ⟨rfl, rfl, rfl⟩
    show (goesV (goes1 st f) fs).1.all = _ ∧ (goesV (goes1 st f) fs).1.want = _ ∧ (goesV (goes1 st f) fs).1.beat = _
    rw [h.1, h.2.1, h.2.2]
    exact h1
theorem hear_bd (st : SS × List (List Int) × List Frame × Bool) (b : List Int) : (hearV st b).1.all = st.1.all ∧ (hearV st b).1.want ≤ st.1.want + 1 ∧ (hearV st b).2.2.1.length ≤ st.2.2.1.length + 1 := by
  unfold hearV
  split
  · exact ⟨rfl, Nat.le_succ _, Nat.le_succ _⟩
  · rename_i x _
    have h1 := take_bd st.1 x
    have h2 := goes_bd (takeV st.1 x).2.1 ((takeV st.1 x).1, st.2.1, false)
    refine ⟨by rw [h2.1]; exact h1.2.1, by rw [h2.2.1]; exact h1.2.2.1, ?_⟩
    dsimp only
    split
    · simp
    · exact Nat.le_succ _
theorem bytes24_ok {p : Option Addr} {held : List Int} {lost : Nat} {s : SS} {out : List (List Int)} {c g h : Hp} {l : List Hp} {m : Sl} {bs : List Int} (o : On h (c :: l)) (w : IsLine p held lost s out c) (hg : g ∈ l) (r : Row (cI .u8) g m bs) (hbh : Bytes held) (hb : Bytes bs) (hl : held.length + bs.length ≤ 100000) (hlost : lost ≤ 1000000)
    (hall : ∀ f ∈ s.all, wfF f) (hal : s.all.length ≤ 100000) (hw : s.want ≤ 100000)
    {Q : Sl × Bool → Hp → Prop} (hq : ∀ sl d c' h', On h' (c' :: d :: l) → IsLine p (flowV (held ++ bs)).2.1 (lost + (flowV (held ++ bs)).2.2) ((flowV (held ++ bs)).1.foldl hearV (s, out, [], false)).1 ((flowV (held ++ bs)).1.foldl hearV (s, out, [], false)).2.1 c' →
      Own cFrame d sl ((flowV (held ++ bs)).1.foldl hearV (s, out, [], false)).2.2.1 → Q (sl, ((flowV (held ++ bs)).1.foldl hearV (s, out, [], false)).2.2.2) h') :
    callP Tryz.prog 6 [Value.pointer p, Value.slice m.a m.len m.cap] (tupC [cSl, cB]) h Q := by
  obtain ⟨b, pf, ps, pb, cf, cs, cb, rfl, oc, wf, ws, wb⟩ := w
  refine c6 ?_
  unfold F6
  dsimp only [nilP]
  have os := o.split oc
  refine cond_f rfl ?_
  refine load_ob (x := pf) os 0 rfl rfl ?_
  have os' : On h (cf :: ob b (cellsLn pf ps pb) 58 :: cs :: cb :: l) := On.pick (l := ob b (cellsLn pf ps pb) 58 :: cf :: cs :: cb :: l) os [1, 0, 2, 3] 4 (by decide) (by decide)
  refine push7c_ok os' wf (g := g) (by simp [hg]) r hbh hb (by omega) hlost fun s1 ss1 cf1 r1 h1 o1 wf1 rs1 rr1 hcaps => ?_
  have hball : Bytes (held ++ bs) := by
    intro x hx
    rcases List.mem_append.1 hx with hx | hx
    · exact hbh x hx
    · exact hb x hx
  have hfb := (flow_bytes hball).1
  have hfl := flow_len hball
  have hfc := (flowV_count _ _ (Nat.le_refl _) hball).1
  rw [List.length_append] at hfl hfc
  generalize flowV (held ++ bs) = fl at wf1 rr1 hfb hfl hfc hq hcaps
  obtain ⟨bodies, held', lost'⟩ := fl
  dsimp only at wf1 rr1 hfb hfl hfc hq hcaps
  have hbl : ∀ x ∈ bodies, x.length ≤ 100000 := by
    intro x hx
    have : x.length + 6 ≤ (bodies.map fun b => b.length + 6).sum := by
      clear hq wf1 rr1 hfb hfl hfc hcaps
      induction bodies with
      | nil => cases hx
      | cons y ys ih =>
        rw [List.map_cons, List.sum_cons]
        rcases List.mem_cons.1 hx with rfl | hx
        · omega
        · have := ih hx; omega
    omega
  have hl1 := rs1.1
  have hl2 := rr1.len
  have o1' : On h1 (ob b (cellsLn pf ps pb) 58 :: cf1 :: cs :: cb :: Hp.emp :: r1 :: l) := On.pick (l := Hp.emp :: cf1 :: r1 :: ob b (cellsLn pf ps pb) 58 :: cs :: cb :: l) o1.emp [3, 1, 4, 5, 0, 2] 6 (by decide) (by decide)
  refine loop_i (fun z h' => ∃ (i : Nat) (cs cb dF : Hp), z.2.2 = (i : Int) ∧ i ≤ bodies.length ∧ On h' (ob b (cellsLn pf ps pb) 58 :: cf1 :: cs :: cb :: dF :: r1 :: l) ∧ IsSess ps ((bodies.take i).foldl hearV (s, out, [], false)).1 cs ∧ IsBox pb 256 ((bodies.take i).foldl hearV (s, out, [], false)).2.1 false cb ∧
    Own cFrame dF z.1 ((bodies.take i).foldl hearV (s, out, [], false)).2.2.1 ∧ z.2.1 = ((bodies.take i).foldl hearV (s, out, [], false)).2.2.2 ∧ ((bodies.take i).foldl hearV (s, out, [], false)).1.all = s.all ∧ ((bodies.take i).foldl hearV (s, out, [], false)).1.want ≤ s.want + i ∧ ((bodies.take i).foldl hearV (s, out, [], false)).2.2.1.length ≤ i) (fun z => bodies.length - z.2.2.toNat)
    ⟨0, cs, cb, Hp.emp, rfl, Nat.zero_le _, o1', ws, wb, Own.nil _, rfl, rfl, Nat.le_refl _, Nat.le_refl _⟩ ?_
  rintro J ⟨zf, zs, zi⟩ h2 again ⟨i, cs, cb, dF, hzi, hle, o2, ws, wb, wF, hzs, q1, q2, q3⟩
  dsimp only at hzi wF hzs
  subst hzi
  dsimp only
  refine cond_d (fun hlt => ?_) fun hge => ?_
  · have hi : i < bodies.length := by omega
    have a0 : ss1[i]? = some ss1[i] := List.getElem?_eq_getElem (by omega)
    obtain ⟨x, hx, rx⟩ := rr1.get i _ a0
    have hxb := hfb x (List.mem_of_getElem? hx)
    have hxl := hbl x (List.mem_of_getElem? hx)
    have estep : (bodies.take (i + 1)).foldl hearV (s, out, [], false) = hearV ((bodies.take i).foldl hearV (s, out, [], false)) x := take_foldl hearV (s, out, [], false) bodies hx
    have ei : IntKind.i64.wrap ((i : Int) + 1) = ((i + 1 : Nat) : Int) := w64n (by omega)
    rw [ei]
    have hbd := hear_bd ((bodies.take i).foldl hearV (s, out, [], false)) x
    rw [← estep] at hbd
    subst hzs
    generalize (bodies.take i).foldl hearV (s, out, [], false) = st at ws wb wF q1 q2 q3 estep hbd ⊢
    obtain ⟨s2, out2, fr2, bad2⟩ := st
    dsimp only at ws wb wF q1 q2 q3 hbd ⊢
    refine join_i (fun z h' => ∃ (cs cb dF : Hp), On h' (ob b (cellsLn pf ps pb) 58 :: cf1 :: cs :: cb :: dF :: r1 :: l) ∧ IsSess ps (hearV (s2, out2, fr2, bad2) x).1 cs ∧ IsBox pb 256 (hearV (s2, out2, fr2, bad2) x).2.1 false cb ∧ Own cFrame dF z.1 (hearV (s2, out2, fr2, bad2) x).2.2.1 ∧ z.2 = (hearV (s2, out2, fr2, bad2) x).2.2.2) ?_ fun J2 hJ2 => ?_
    · rintro ⟨z1, z2⟩ h3 ⟨cs, cb, dF, o3, ws, wb, wF, hz⟩
      dsimp only at wF hz ⊢
      refine again _ _ ⟨i + 1, cs, cb, dF, rfl, by omega, o3, by rw [estep]; exact ws, by rw [estep]; exact wb, by rw [estep]; exact wF, by rw [estep]; exact hz, by rw [hbd.1]; exact q1, by omega, by omega⟩ (by dsimp only; omega)
    · refine idx_row rs1 (Int.natCast_nonneg i) (by omega) fun a ha => load_row rs1 (o2.mem (by simp)) rfl ha (i := i) a0 (by simp) ?_
      obtain ⟨x', hx', hcapx⟩ := hcaps.get i _ a0
      rw [hx] at hx'
      cases hx'
      generalize ss1[i] = sx at a0 rx hcapx
      refine read5_ok o2 (g := r1) (by simp) rx hxb hcapx (by omega) fun h3 o3 => ?_
      cases hrd : readV x with
      | none =>
        rw [readR_none hrd]
        have eh : hearV (s2, out2, fr2, bad2) x = (s2, out2, fr2, bad2) := by unfold hearV; rw [hrd]
        exact cond_t rfl (hJ2 _ _ ⟨cs, cb, dF, o3, by rw [eh]; exact ws, by rw [eh]; exact wb, by rw [eh]; exact wF, by rw [eh]⟩)
      | some f =>
        rw [readR_some hrd]
        have hfw := readV_wf hxb hrd
        have eh : hearV (s2, out2, fr2, bad2) x = ((goesV ((takeV s2 f).1, out2, false) (takeV s2 f).2.1).1, (goesV ((takeV s2 f).1, out2, false) (takeV s2 f).2.1).2.1,
            if (takeV s2 f).2.2.2.1 = true then fr2 ++ [mkF f.Seq (takeV s2 f).2.2.1] else fr2,
            bad2 || ((takeV s2 f).2.2.2.2 || (goesV ((takeV s2 f).1, out2, false) (takeV s2 f).2.1).2.2)) := by unfold hearV; rw [hrd]
        rw [eh] at hJ2
        dsimp only at hJ2
        refine cond_f rfl ?_
        refine load_ob (x := ps) o3 0 rfl rfl ?_
        have o3' : On h3 (cs :: ob b (cellsLn pf ps pb) 58 :: cf1 :: cb :: dF :: r1 :: l) := o3.pick [2, 0, 1, 3] 4 (by decide) (by decide)
        refine take10_ok (x := f) o3' ws (by rw [q1]; omega) (by omega) (hfw _ (by simp [fs, fmsg])) fun sl4 cs4 r4 h4 o4 ws4 rr4 => ?_
        have hbt := take_bd s2 f
        rw [q1] at hbt
        have o4' : On h4 (ob b (cellsLn pf ps pb) 58 :: cf1 :: cs4 :: cb :: r4 :: dF :: r1 :: l) := o4.pick [2, 3, 0, 4, 1] 5 (by decide) (by decide)
        refine goes24_ok o4' ws4 wb (g := r4) (by simp) rr4 (take_wf (by rw [q1]; exact hall) (by omega)) (by omega) fun cs5 cb5 h5 o5 ws5 wb5 => ?_
        refine join_i (fun t h' => h' = h5 ∧ t = (bad2 || ((takeV s2 f).2.2.2.2 || (goesV ((takeV s2 f).1, out2, false) (takeV s2 f).2.1).2.2))) ?_ fun J3 hJ3 => ?_
        · rintro t h6 ⟨rfl, rfl⟩
          have o5' : On h6 (ob b (cellsLn pf ps pb) 58 :: cf1 :: cs5 :: cb5 :: dF :: r1 :: l) := o5.pick [0, 1, 2, 3, 5] 6 (by decide) (by decide)
          refine cond_i (fun e => ?_) fun e => ?_
          · have e : (takeV s2 f).2.2.2.1 = true := e
            rw [if_pos e] at hJ2
            refine one_ok (x := mkF f.Seq (takeV s2 f).2.2.1) o5' fun k7 d7 h7 o7 r7 w7 => ?_
            have o7' : On h7 (dF :: d7 :: ob b (cellsLn pf ps pb) 58 :: cf1 :: cs5 :: cb5 :: r1 :: l) := o7.pick [5, 0, 1, 2, 3, 4] 6 (by decide) (by decide)
            refine append_own (g := d7) (s := zf) (t := ⟨some ⟨k7, 0, none⟩, 1, 1⟩) o7' rfl wF (by decide) r7 (o7'.mem (by simp)) (by unfold roomP; simp; omega) fun d8 p8 n8 m8 h8 o8 w8 => ?_
            exact hJ2 (⟨p8, n8, m8⟩, _) h8 ⟨cs5, cb5, d8, o8.pick [2, 3, 4, 5, 0] 6 (by decide) (by decide), ws5, wb5, w8, rfl⟩
          · have e : (takeV s2 f).2.2.2.1 = false := e
            rw [if_neg (show ¬ ((takeV s2 f).2.2.2.1 = true) by rw [e]; simp)] at hJ2
            exact hJ2 (zf, _) h6 ⟨cs5, cb5, dF, o5', ws5, wb5, wF, rfl⟩
        · refine cond_i (fun e => hJ3 _ _ ⟨rfl, ?_⟩) fun e => cond_i (fun e2 => hJ3 _ _ ⟨rfl, ?_⟩) fun e2 => hJ3 _ _ ⟨rfl, ?_⟩
          · have e : bad2 = true := e
            rw [e]; rfl
          · have e : bad2 = false := e
            have e2 : (takeV s2 f).2.2.2.2 = true := e2
            rw [e, e2]; rfl
          · have e : bad2 = false := e
            have e2 : (takeV s2 f).2.2.2.2 = false := e2
            rw [e, e2, Bool.not_not]; rfl
  · have : i = bodies.length := by omega
    subst this
    rw [List.take_length] at ws wb wF hzs
    obtain ⟨o6, o7⟩ := On.joined (cs := [ob b (cellsLn pf ps pb) 58, cf1, cs, cb]) (l := dF :: r1 :: l) o2
    subst hzs
    exact hq zf dF _ h2 (o6.pick [0, 1] 3 (by decide) (by decide)) ⟨b, pf, ps, pb, cf1, cs, cb, rfl, o7, wf1, ws, wb⟩ wF
end Go.Proofs.YtmkgcdgpokidjaaGreat

/- Chapter 24: a wire, what goes out, a message sent. -/
namespace Go.Proofs.YtmkgcdgpokidjaaGreat
open Go.Eng

def wireV (fs : List Frame) : List Int := (fs.map fun f => frameV (bytesF f)).flatten
theorem wireV_len : ∀ {fs : List Frame}, (∀ f ∈ fs, wfF f) → (wireV fs).length ≤ 86 * fs.length
  | [], _ => by simp [wireV]
  | f :: fs, h => by
    have h1 := wireV_len (fs := fs) fun x hx => h x (by simp [hx])
    have h2 := bytesF_len (h f (by simp))
    have e : wireV (f :: fs) = frameV (bytesF f) ++ wireV fs := rfl
    rw [e, List.length_append, frameV_len, List.length_cons]
    omega
theorem wireV_byte {fs : List Frame} (h : ∀ f ∈ fs, wfF f) : Bytes (wireV fs) := by
  intro b hb
  obtain ⟨y, hy, hby⟩ := List.mem_flatten.1 hb
  obtain ⟨f, hf, rfl⟩ := List.mem_map.1 hy
  exact frameV_byte (bytesF_byte f) (bytesF_len (h f hf)) b hby
theorem wire24_ok {g h : Hp} {l : List Hp} {p0 : Sl} {fs : List Frame} (o : On h l) (hg : g ∈ l) (r : Row cFrame g p0 fs) (hw : ∀ f ∈ fs, wfF f) (hn : fs.length ≤ 1000)
    {Q : Sl → Hp → Prop} (hq : ∀ s d h', On h' (d :: l) → Own (cI .u8) d s (wireV fs) → Q s h') : callP Tryz.prog 42 [Value.slice p0.a p0.len p0.cap] cSl h Q := by
  refine c42 ?_
  unfold F42
  have hl := r.1
  refine loop_i (fun z h' => ∃ (i : Nat) (d : Hp), z.2 = (i : Int) ∧ i ≤ fs.length ∧ On h' (d :: l) ∧ Own (cI .u8) d z.1 (wireV (fs.take i))) (fun z => fs.length - z.2.toNat) ⟨0, Hp.emp, rfl, Nat.zero_le _, o.emp, Own.nil _⟩ ?_
  rintro J ⟨z, zi⟩ h1 again ⟨i, d, hzi, hle, o1, w1⟩
  dsimp only at hzi w1
  subst hzi
  dsimp only
  refine cond_d (fun hlt => ?_) fun hge => ?_
  · have hi : i < fs.length := by omega
    have a0 : fs[i]? = some fs[i] := List.getElem?_eq_getElem hi
    have hwf := hw _ (List.mem_of_getElem? a0)
    generalize fs[i] = f at a0 hwf
    refine idx_row r (Int.natCast_nonneg i) (by omega) fun a ha => load_row r (o1.mem (by simp [hg])) rfl ha (i := i) a0 (by simp) ?_
    refine rbytes5_ok (x := f) o1 hwf fun s2 d2 h2 o2 w2 => ?_
    have hbl := bytesF_len hwf
    refine rput6_ok o2 (g := d2) (by simp) w2.row (bytesF_byte f) (by omega) (fun h => by omega) fun _ s3 d3 h3 o3 w3 => ?_
    have hwl := wireV_len (fs := fs.take i) fun x hx => hw x (List.mem_of_mem_take hx)
    rw [List.length_take] at hwl
    have o3' : On h3 (d :: d3 :: l) := o3.pick [2, 0] 3 (by decide) (by decide)
    refine append_own (g := d3) (s := z) (t := s3) o3' rfl w1 (by decide) w3.row (o3'.mem (by simp)) (by unfold roomP; rw [frameV_len]; omega) fun d4 p4 n4 m4 h4 o4 w4 => ?_
    refine again _ _ ⟨i + 1, d4, w64n (by omega), by omega, o4.pick [0] 2 (by decide) (by decide), ?_⟩ (by dsimp only; rw [w64n (by omega)]; omega)
    have e : wireV (fs.take (i + 1)) = wireV (fs.take i) ++ frameV (bytesF f) := by
      rw [List.take_add_one, a0]
      simp [wireV]
    rw [e]
    exact w4
  · have : i = fs.length := by omega
    subst this
    rw [List.take_length] at w1
    exact hq z d h1 o1 w1
theorem out24_ok {p : Option Addr} {held : List Int} {lost : Nat} {s : SS} {out : List (List Int)} {c h : Hp} {l : List Hp} (o : On h (c :: l)) (w : IsLine p held lost s out c) (hn : out.length ≤ 1000)
    {Q : Sl → Hp → Prop} (hq : ∀ sl ss c' r' h', On h' (c' :: r' :: l) → IsLine p held lost s [] c' → Row cSl r' sl ss → Rows2 r' ss out → Q sl h') : callP Tryz.prog 14 [Value.pointer p] cSl h Q := by
  obtain ⟨b, pf, ps, pb, cf, cs, cb, rfl, oc, wf, ws, wb⟩ := w
  refine c14 ?_
  unfold F14
  dsimp only [nilP]
  have os : On h (ob b (cellsLn pf ps pb) 58 :: cf :: cs :: cb :: l) := o.split oc
  refine cond_f rfl ?_
  have oi : On h (ob b (cellsLn pf ps pb) 58 :: Hp.emp :: Hp.emp :: cf :: cs :: cb :: l) := os.emp.emp.pick [2, 0, 1] 3 (by decide) (by decide)
  refine loop_n (fun n z h' => ∃ (don rest : List (List Int)) (sls : List Sl) (dO rx cb : Hp), n = rest.length ∧ out = don ++ rest ∧ On h' (ob b (cellsLn pf ps pb) 58 :: dO :: rx :: cf :: cs :: cb :: l) ∧ Own cSl dO z sls ∧ Rows2 rx sls don ∧ IsBox pb 256 rest false cb) out.length
    ⟨[], out, [], Hp.emp, Hp.emp, cb, rfl, rfl, oi, Own.nil _, trivial, wb⟩ ?_
  rintro J n z h1 again ⟨don, rest, sls, dO, rx, cb, rfl, rfl, o1, wo, rr, wb⟩
  have hsl := rr.len
  rw [List.length_append] at hn
  refine load_ob (x := pb) o1 0 rfl rfl ?_
  have o1' : On h1 (cb :: ob b (cellsLn pf ps pb) 58 :: dO :: rx :: cf :: cs :: l) := o1.pick [5, 0, 1, 2, 3, 4] 6 (by decide) (by decide)
  refine take_ok o1' wb (fun hnil => ?_) fun bs q' s2 d2 cb2 h2 hbs o2 wb2 w2 => ?_
  · subst hnil
    refine cond_t rfl ?_
    obtain ⟨o6, o7⟩ := On.joined (cs := [ob b (cellsLn pf ps pb) 58, cf, cs, cb]) (l := dO :: rx :: l) (o1.pick [0, 3, 4, 5, 1, 2] 6 (by decide) (by decide))
    obtain ⟨o8, o9⟩ := On.joined (cs := [dO, rx]) (o6.pick [1, 2, 0] 3 (by decide) (by decide))
    rw [List.append_nil] at hq
    exact hq z sls _ _ h1 o8.swap ⟨b, pf, ps, pb, cf, cs, cb, rfl, o7, wf, ws, wb⟩ (wo.row.sub (o9.mem (by simp))) (Rows2.sub (o9.mem (by simp)) rr)
  · subst hbs
    refine cond_f rfl ?_
    have o2' : On h2 (d2 :: ob b (cellsLn pf ps pb) 58 :: dO :: rx :: cf :: cs :: cb2 :: l) := o2.pick [1, 2, 3, 4, 5, 6, 0] 7 (by decide) (by decide)
    refine more_ok o2' wo rr w2 (by omega) fun p3 n3 m3 d3 r3 h3 o3 w3 rr3 => ?_
    exact again _ _ _ ⟨don ++ [bs], q', sls ++ [s2], d3, r3, cb2, rfl, by simp, o3, w3, rr3, wb2⟩ (by simp)
/-- A message is sent on a line. -/
def lsendV (s : SS) (out : List (List Int)) (m : Msg) : SS × List (List Int) × Bool :=
  if (sendV s m).2.2 = true then ((goesV ((sendV s m).1, out, false) [(sendV s m).2.1]).1, (goesV ((sendV s m).1, out, false) [(sendV s m).2.1]).2.1, !(goesV ((sendV s m).1, out, false) [(sendV s m).2.1]).2.2)
  else ((sendV s m).1, out, false)
theorem send24_ok {p : Option Addr} {held : List Int} {lost : Nat} {s : SS} {out : List (List Int)} {m : Msg} {c h : Hp} {l : List Hp} (o : On h (c :: l)) (w : IsLine p held lost s out c) (hl : s.all.length ≤ 1000000) (hw : wfF (mkF (s.all.length + 1 : Nat) m))
    {Q : Bool → Hp → Prop} (hq : ∀ c' h', On h' (c' :: l) → IsLine p held lost (lsendV s out m).1 (lsendV s out m).2.1 c' → Q (lsendV s out m).2.2 h') : callP Tryz.prog 9 [Value.pointer p, cMsg.enc m] cB h Q := by
  obtain ⟨b, pf, ps, pb, cf, cs, cb, rfl, oc, wf, ws, wb⟩ := w
  refine c9 ?_
  unfold F9
  dsimp only [nilP]
  have os : On h (ob b (cellsLn pf ps pb) 58 :: cf :: cs :: cb :: l) := o.split oc
  refine cond_f rfl ?_
  refine load_ob (x := ps) os 0 rfl rfl ?_
  unfold lsendV at hq
  refine send10_ok (m := m) (os.pick [2, 0, 1, 3] 4 (by decide) (by decide)) ws hl fun cs2 h2 o2 w2 => ?_
  have o2' : On h2 (ob b (cellsLn pf ps pb) 58 :: cf :: cs2 :: cb :: l) := o2.pick [1, 2, 0, 3] 4 (by decide) (by decide)
  refine cond_i (fun e => ?_) fun e => ?_
  · rw [if_pos e] at hq
    have hfr : wfF (sendV s m).2.1 := by
      unfold sendV at e ⊢
      split at e
      · cases e
      · rename_i hc
        rw [if_neg hc]; exact hw
    refine one_ok (x := (sendV s m).2.1) o2' fun k3 d3 h3 o3 r3 w3 => ?_
    have o3' : On h3 (ob b (cellsLn pf ps pb) 58 :: cf :: cs2 :: cb :: d3 :: l) := o3.pick [1, 2, 3, 4, 0] 5 (by decide) (by decide)
    refine goes24_ok (p1 := ⟨some ⟨k3, 0, none⟩, 1, 1⟩) o3' w2 wb (g := d3) (by simp) r3 (by intro f hf; rw [List.mem_singleton] at hf; subst hf; exact hfr) (by simp) fun cs4 cb4 h4 o4 ws4 wb4 => ?_
    obtain ⟨o6, o7⟩ := On.joined (cs := [ob b (cellsLn pf ps pb) 58, cf, cs4, cb4]) (l := l) (o4.pick [0, 1, 2, 3] 5 (by decide) (by decide))
    exact hq _ h4 o6 ⟨b, pf, ps, pb, cf, cs4, cb4, rfl, o7, wf, ws4, wb4⟩
  · rw [if_neg (by rw [e]; simp)] at hq
    obtain ⟨o6, o7⟩ := On.joined (cs := [ob b (cellsLn pf ps pb) 58, cf, cs2, cb]) (l := l) o2'
    exact hq _ h2 o6 ⟨b, pf, ps, pb, cf, cs2, cb, rfl, o7, wf, w2, wb⟩
end Go.Proofs.YtmkgcdgpokidjaaGreat

/- Chapter 24: what is known. -/
namespace Go.Proofs.YtmkgcdgpokidjaaGreat
open Go.Eng

theorem logF_wf {v : Int} (h : I64 v) : wfF (logF v) := ownF_wf (by unfold I64; omega) h
theorem logF_ok (v : Int) : okF (logF v) = true := by
  have : isV ⟨1, v, 0, 0, 0, 0, 0⟩ = true := isV_mk (k := 1) (l := [v]) (by decide) (by simp [manyV, manyL])
  show (isV ⟨1, v, 0, 0, 0, 0, 0⟩ && decide ((0 : Int) ≤ 0)) = true
  rw [this]; rfl
theorem wireV_frames {fs : List Frame} (h : ∀ f ∈ fs, wfF f) : flowV (wireV fs) = (fs.map bytesF, [], 0) := by
  have e : wireV fs = ((fs.map bytesF).map frameV).flatten := by rw [List.map_map]; rfl
  rw [e]
  refine flowV_frames _ fun b hb => ?_
  obtain ⟨f, hf, rfl⟩ := List.mem_map.1 hb
  exact bytesF_len (h f hf)
theorem hear_frame {f : Frame} (hk : okF f = true) (hw : wfF f) (st : SS × List (List Int) × List Frame × Bool) : hearV st (bytesF f) =
    ((goesV ((takeV st.1 f).1, st.2.1, false) (takeV st.1 f).2.1).1, (goesV ((takeV st.1 f).1, st.2.1, false) (takeV st.1 f).2.1).2.1,
      if (takeV st.1 f).2.2.2.1 = true then st.2.2.1 ++ [mkF f.Seq (takeV st.1 f).2.2.1] else st.2.2.1,
      st.2.2.2 || ((takeV st.1 f).2.2.2.2 || (goesV ((takeV st.1 f).1, st.2.1, false) (takeV st.1 f).2.1).2.2)) := by
  unfold hearV
  rw [readV_bytes hw hk]
theorem hear_log {s : SS} {out : List (List Int)} {fr : List Frame} {bad : Bool} {v : Int} (hg : ¬ Gone s.all.length v) (hd : s.all.drop (v - 1).toNat = []) (ho : out.length < 256) (hI : I64 v) :
    hearV (s, out, fr, bad) (bytesF (logF v)) = ({ s with up := true, asked := 0, sent := 0, heard := 0 }, out ++ [frameV (bytesF (ownF 1 s.want))], fr, bad) := by
  rw [hear_frame (logF_ok v) (logF_wf hI)]
  dsimp only
  rw [take_logv, log_on hg, hd]
  have e : ∀ s' : SS, goesV (s', out, false) [ownF 1 s.want] = (s', out ++ [frameV (bytesF (ownF 1 s.want))], false) := fun s' => by
    show goes1 (s', out, false) (ownF 1 s.want) = _
    unfold goes1
    rw [if_pos ho]
  dsimp only
  rw [e]
  simp
theorem known24_ok {h : Hp} {l : List Hp} (o : On h l) {Q : Bool → Hp → Prop} (hq : ∀ h', On h' l → Q true h') : callP Tryz.prog 19 [] cB h Q := by
  refine c19 ?_
  unfold F19
  have h1w : ∀ f ∈ [logF 1], wfF f := by intro f hf; rw [List.mem_singleton] at hf; subst hf; exact logF_wf (by unfold I64; omega)
  refine new24_ok o (fun h => by omega) fun _ _ p c h1 o1 w1 => ?_
  refine of1_one o1 fun h2 o2 => ?_
  refine one_ok (x := logF 1) o2 fun k3 d3 h3 o3 r3 w3 => ?_
  refine wire24_ok (p0 := ⟨some ⟨k3, 0, none⟩, 1, 1⟩) o3 (g := d3) (by simp) r3 h1w (by simp) fun s4 d4 h4 o4 w4 => ?_
  have hwl := wireV_len h1w
  rw [List.length_singleton] at hwl
  have o4' : On h4 (c :: d4 :: d3 :: l) := o4.pick [2, 0, 1] 3 (by decide) (by decide)
  refine bytes24_ok o4' w1 (g := d4) (by simp) w4.row (by intro x hx; cases hx) (wireV_byte h1w) (by rw [List.length_nil]; omega) (by omega) (by intro f hf; cases hf) (Nat.zero_le _) (by show 1 ≤ 100000; omega) fun sl5 d5 c5 h5 o5 w5 wf5 => ?_
  have ef : (flowV ([] ++ wireV [logF 1])).1.foldl hearV (newV (Int.toNat 3), [], [], false) = (⟨3, true, 1, [], 0, 0, 0⟩, [frameV (bytesF (logF 1))], [], false) := by
    rw [List.nil_append, wireV_frames h1w]
    show hearV (newV 3, [], [], false) (bytesF (logF 1)) = _
    rw [hear_log gone_0 rfl (by simp) (by unfold I64; omega)]
    rfl
  rw [ef] at w5 ⊢
  dsimp only at w5 ⊢
  refine out24_ok o5 w5 (by simp) fun sl6 ss6 c6 r6 h6 o6 w6 rs6 rr6 => ?_
  have hl6 := rs6.1
  have hl6' := rr6.len
  rw [hl6', List.length_singleton] at hl6
  obtain ⟨s8, rfl⟩ : ∃ x, ss6 = [x] := by
    match ss6, hl6' with
    | [x], _ => exact ⟨x, rfl⟩
  refine cond_t rfl (up24_ok (o6.mem (by simp)) w6 (cond_t rfl (cond_t (by rw [hl6]; rfl) ?_)))
  refine idx_row rs6 (by omega) (by simp) fun a ha => load_row rs6 (o6.mem (by simp)) rfl ha (i := 0) (m := 0) rfl rfl ?_
  refine str_row rr6.1 (o6.mem (by simp)) (str_row w4.row (o6.mem (by simp)) (cond_t ?_ ?_))
  · have e : wireV [logF 1] = frameV (bytesF (logF 1)) := by simp [wireV]
    rw [e, strEq_self]
  · refine new24_ok o6 (fun _ => ?_) (fun h => by omega)
    exact hq _ o6.tail.tail.tail.tail.tail
theorem hear_acc : ∀ (bs : List (List Int)) (s : SS) (out : List (List Int)) (fr : List Frame) (bad : Bool),
    bs.foldl hearV (s, out, fr, bad) = ((bs.foldl hearV (s, out, [], false)).1, (bs.foldl hearV (s, out, [], false)).2.1, fr ++ (bs.foldl hearV (s, out, [], false)).2.2.1, bad || (bs.foldl hearV (s, out, [], false)).2.2.2)
  | [], s, out, fr, bad => by simp
  | b :: bs, s, out, fr, bad => by
    rw [List.foldl_cons, List.foldl_cons]
    cases hr : readV b with
    | none =>
      have e : ∀ st, hearV st b = st := fun st => by unfold hearV; rw [hr]
      rw [e, e]
      exact hear_acc bs s out fr bad
    | some x =>
      have e : ∀ fr bad, hearV (s, out, fr, bad) b = ((goesV ((takeV s x).1, out, false) (takeV s x).2.1).1, (goesV ((takeV s x).1, out, false) (takeV s x).2.1).2.1,
        if (takeV s x).2.2.2.1 = true then fr ++ [mkF x.Seq (takeV s x).2.2.1] else fr, bad || ((takeV s x).2.2.2.2 || (goesV ((takeV s x).1, out, false) (takeV s x).2.1).2.2)) := fun fr bad => by unfold hearV; rw [hr]
      rw [e, e]
      rw [hear_acc bs _ _ (if (takeV s x).2.2.2.1 = true then fr ++ [mkF x.Seq (takeV s x).2.2.1] else fr), hear_acc bs _ _ (if (takeV s x).2.2.2.1 = true then [] ++ [mkF x.Seq (takeV s x).2.2.1] else [])]
      split <;> simp [Bool.or_assoc]
end Go.Proofs.YtmkgcdgpokidjaaGreat

/- Chapter 24: a line in parts. -/
namespace Go.Proofs.YtmkgcdgpokidjaaGreat
open Go.Eng

theorem hear_fold_bd : ∀ (bs : List (List Int)) (st : SS × List (List Int) × List Frame × Bool), (bs.foldl hearV st).1.all = st.1.all ∧ (bs.foldl hearV st).1.want ≤ st.1.want + bs.length ∧ (bs.foldl hearV st).2.2.1.length ≤ st.2.2.1.length + bs.length
  | [], st => ⟨rfl, Nat.le_refl _, Nat.le_refl _⟩
  | b :: bs, st => by
    have h1 := hear_bd st b
    have h2 := hear_fold_bd bs (hearV st b)
    rw [List.foldl_cons, List.length_cons]
    refine ⟨by rw [h2.1]; exact h1.1, by omega, by omega⟩
theorem hear_out : ∀ (bs : List (List Int)) (st : SS × List (List Int) × List Frame × Bool), st.2.1.length ≤ 256 → (bs.foldl hearV st).2.1.length ≤ 256
  | [], st, h => h
  | b :: bs, st, h => by
    rw [List.foldl_cons]
    refine hear_out bs _ ?_
    have g1 : ∀ (fs : List Frame) (st : SS × List (List Int) × Bool), st.2.1.length ≤ 256 → (goesV st fs).2.1.length ≤ 256 := by
      intro fs
      induction fs with
      | nil => exact fun st h => h
      | cons f fs ih =>
        intro st h
        refine ih (goes1 st f) ?_
        unfold goes1
        split
        · simp; omega
        · exact h
    unfold hearV
    split
    · exact h
    · exact g1 _ _ h
theorem hear_bytes : ∀ (bs : List (List Int)) (st : SS × List (List Int) × List Frame × Bool), (∀ b ∈ st.2.1, Bytes b) → (∀ f ∈ st.1.all, wfF f) → st.1.want + bs.length ≤ 1000000 → ∀ b ∈ (bs.foldl hearV st).2.1, Bytes b
  | [], st, h, _, _ => h
  | b :: bs, st, h, ha, hw => by
    rw [List.length_cons] at hw
    have hb := hear_bd st b
    rw [List.foldl_cons]
    refine hear_bytes bs _ ?_ (by rw [hb.1]; exact ha) (by omega)
    have g1 : ∀ (fs : List Frame) (st : SS × List (List Int) × Bool), (∀ f ∈ fs, wfF f) → (∀ b ∈ st.2.1, Bytes b) → ∀ b ∈ (goesV st fs).2.1, Bytes b := by
      intro fs
      induction fs with
      | nil => exact fun st _ h => h
      | cons f fs ih =>
        intro st hf h
        refine ih (goes1 st f) (fun x hx => hf x (by simp [hx])) ?_
        unfold goes1
        split
        · intro b hb
          rcases List.mem_append.1 hb with hb | hb
          · exact h b hb
          · rw [List.mem_singleton] at hb
            subst hb
            exact frameV_byte (bytesF_byte f) (bytesF_len (hf f (by simp)))
        · exact h
    unfold hearV
    split
    · exact h
    · exact g1 _ _ (take_wf ha (by omega)) h
theorem frames_of {W : World} {s : Sl} (h : Opn Tryz.prog W 33 [.slice s.a s.len s.cap]) : ∃ xs : List Frame, Row cFrame (hpOf W) s xs ∧ ∀ x ∈ xs, wfF x := by
  obtain ⟨_, _, _, xs, hr, hx⟩ := open_row (d := 5) (e := 65) (ls := [(.i .i64, 2), (.i .i64, 3), (.i .i64, 2), (.i .i64, 2), (.i .i64, 2), (.i .i64, 2), (.i .i64, 2), (.i .i64, 2)]) (cd := cFrame) (fun x => ⟨x.1, x.2.1, x.2.2.1, x.2.2.2.1, x.2.2.2.2.1, x.2.2.2.2.2.1, x.2.2.2.2.2.2.1, x.2.2.2.2.2.2.2⟩) (fun _ => rfl) h (by kernel_rfl) (by kernel_rfl) (by kernel_rfl)
  refine ⟨xs, hr, fun x hm => ?_⟩
  obtain ⟨y, hy0, k0, k1, k2, k3, k4, k5, k6, k7⟩ := hx x hm
  subst hy0
  intro n hn
  simp only [fs, fmsg, List.mem_cons, List.not_mem_nil, or_false] at hn
  rcases hn with rfl | rfl | rfl | rfl | rfl | rfl | rfl | rfl
  · exact wfI64 k0
  · exact wfI64 k1
  · exact wfI64 k2
  · exact wfI64 k3
  · exact wfI64 k4
  · exact wfI64 k5
  · exact wfI64 k6
  · exact wfI64 k7
end Go.Proofs.YtmkgcdgpokidjaaGreat

/- Chapter 24: the document's line. -/
namespace Go.Proofs.YtmkgcdgpokidjaaGreat
open Go.Eng

theorem rpush7c_ok {p : Option Addr} {held : List Int} {lost : Nat} {c g h : Hp} {l : List Hp} {m : Sl} {bs : List Int} {e : TypeId} (o : On h (c :: l)) (w : IsFlow p held lost c e) (hg : g ∈ l) (r : Row (cI .u8) g m bs) (hbh : Bytes held) (hb : Bytes bs) (hl : held.length + bs.length ≤ 1000000) (hlost : lost ≤ 1000000)
    {Q : Sl → Hp → Prop} (hq : ∀ s ss c' r' h', On h' (c' :: r' :: l) → IsFlow p (flowV (held ++ bs)).2.1 (lost + (flowV (held ++ bs)).2.2) c' e → Row cSl r' s ss → Rows2 r' ss (flowV (held ++ bs)).1 → CapsOk ss (flowV (held ++ bs)).1 → Q s h') :
    callP Tryz.prog 29 [Value.pointer p, Value.slice m.a m.len m.cap] cSl h Q := by
  obtain ⟨b, s, d, rfl, oc, wd⟩ := w
  refine c29 ?_
  unfold F29
  dsimp only [nilP]
  have os := o.split oc
  refine alloc_ob os fun k0 h0 o0 => ?_
  refine load_ob (x := s) o0 1 rfl rfl ?_
  have w0 : Own (cI .u8) (ob k0 [] 5) ⟨some ⟨k0, 0, none⟩, 0, 0⟩ [] := own_ob (cd := cI .u8) (xs := []) (rest := []) rfl rfl rfl
  refine append_own (g := d) (s := ⟨some ⟨k0, 0, none⟩, 0, 0⟩) (t := s) o0 rfl w0 (by decide) wd.row (o0.mem (by simp)) (by unfold roomP; simp; omega) fun d1 p1 k1 k2 h1 o1 w1 => ?_
  have w1 : Own (cI .u8) d1 ⟨p1, k1, k2⟩ held := w1
  refine append_own (g := g) (s := ⟨p1, k1, k2⟩) (t := m) o1 rfl w1 (by decide) r (o1.mem (by simp [hg])) (by unfold roomP; simp; omega) fun d2 p2 k4 k5 h2 o2 w2 => ?_
  have hball : Bytes (held ++ bs) := by
    intro x hx
    rcases List.mem_append.1 hx with hx | hx
    · exact hbh x hx
    · exact hb x hx
  have hal : (held ++ bs).length ≤ 1000000 := by rw [List.length_append]; exact hl
  generalize held ++ bs = all at hq w2 hball hal
  have o2' : On h2 (ob b [.slice s.a s.len s.cap, .int .i64 (lost : Int)] e :: d2 :: l) := o2.pick [1, 0] 3 (by decide) (by decide)
  refine store_ob (cd := cSl) (i := 0) (x := (⟨p2, k4, k5⟩ : Sl)) (vs' := [.slice p2 k4 k5, .int .i64 (lost : Int)]) o2' rfl rfl (Nat.le_succ 1) fun h4 o4 => ?_
  have oi : On h4 (ob b [.slice p2 k4 k5, .int .i64 (lost : Int)] e :: Hp.emp :: Hp.emp :: d2 :: l) := o4.emp.emp.pick [2, 0, 1] 3 (by decide) (by decide)
  refine join_i (fun s5 h5 => ∃ (n : Nat) (outs : List (List Int)) (rest : List Int) (sls : List Sl) (dO r d1 : Hp) (sl : Sl), flowV all = (outs, rest, n) ∧
    On h5 (ob b [.slice sl.a sl.len sl.cap, .int .i64 ((lost + n : Nat) : Int)] e :: dO :: r :: d1 :: l) ∧ Own cSl dO s5 sls ∧ Rows2 r sls outs ∧ CapsOk sls outs ∧ Own (cI .u8) d1 sl rest) ?_ fun J1 hJ1 => ?_
  · rintro s5 h5 ⟨n, outs, rest, sls, dO, r5, d5, sl, hstop, o5, wo, rr, cc, w5⟩
    rw [hstop] at hq
    obtain ⟨o7, o8⟩ := On.joined (cs := [_, d5]) (l := dO :: r5 :: l) (o5.pick [0, 3, 1, 2] 4 (by decide) (by decide))
    obtain ⟨o9, oa⟩ := On.joined (cs := [dO, r5]) (o7.pick [1, 2, 0] 3 (by decide) (by decide))
    exact hq s5 sls _ _ h5 o9.swap ⟨b, sl, d5, rfl, o8, w5⟩ (wo.row.sub (oa.mem (by simp))) (Rows2.sub (oa.mem (by simp)) rr) cc
  refine loop_n (fun f z h' => ∃ (n : Nat) (outs : List (List Int)) (rest : List Int) (sls : List Sl) (dO r d1 : Hp) (sl : Sl), f = rest.length ∧ Mid all rest outs n ∧
    On h' (ob b [.slice sl.a sl.len sl.cap, .int .i64 ((lost + n : Nat) : Int)] e :: dO :: r :: d1 :: l) ∧ Own cSl dO z sls ∧ Rows2 r sls outs ∧ CapsOk sls outs ∧ Own (cI .u8) d1 sl rest) all.length
    ⟨0, [], all, [], Hp.emp, Hp.emp, d2, ⟨p2, k4, k5⟩, rfl, Mid.start hball, oi, Own.nil _, trivial, trivial, w2⟩ ?_
  rintro J f z h6 again ⟨n, outs, rest, sls, dO, r6, d6, sl, rfl, mid, o6, wo, rr, cc, w6⟩
  have hlen := w6.1
  have hbr := mid.2.2.2.1
  have hsz := mid.2.2.2.2
  have hsl := rr.len
  have hcap := w6.le_cap (by decide)
  refine load_ob (x := sl) o6 0 rfl rfl ?_
  refine cond_d (fun hpos => ?_) fun h0 => hJ1 _ _ ⟨n, outs, rest, sls, dO, r6, d6, sl, mid.stop (.inl (List.length_eq_zero_iff.1 (by omega))), o6, wo, rr, cc, w6⟩
  have hne : rest ≠ [] := by rintro rfl; rw [List.length_nil] at hlen; omega
  refine join_i (fun zz h' => J zz h') (fun _ _ h => h) fun J3 hJ3 => ?_
  refine load_ob (x := sl) o6 0 rfl rfl ?_
  refine rget6_ok o6 (g := d6) (by simp) w6.row hbr hcap (by omega) (fun hn h8 o8 => ?_) fun body k hk s4 d4 h4 o4 w4 => ?_
  · refine cond_f rfl ?_
    refine load_ob (x := sl) o8 0 rfl rfl ?_
    refine may_ok (o8.mem (by simp)) w6.row hbr (by omega) ?_
    refine cond_i (fun hm => hJ1 _ _ ⟨n, outs, rest, sls, dO, r6, d6, sl, mid.stop (.inr hm), o8, wo, rr, cc, w6⟩) fun hnm => ?_
    refine load_ob (x := sl) o8 0 rfl rfl ?_
    refine ⟨by omega, by omega, ?_⟩
    refine store_ob (cd := cSl) (i := 0) (x := (⟨(cutA sl.a 1 sl.cap 1), (sl.len - 1), (sl.cap - 1)⟩ : Sl)) (vs' := [.slice (cutA sl.a 1 sl.cap 1) (sl.len - 1) (sl.cap - 1), .int .i64 ((lost + n : Nat) : Int)]) o8 rfl rfl (Nat.le_succ 1) fun h9 o9 => ?_
    refine load_ob (x := ((lost + n : Nat) : Int)) o9 0 rfl rfl ?_
    have ew : IntKind.i64.wrap (((lost + n : Nat) : Int) + 1) = ((lost + (n + 1) : Nat) : Int) := w64n (by omega)
    rw [ew]
    refine store_ob (cd := cI .i64) (i := 1) (x := ((lost + (n + 1) : Nat) : Int)) (vs' := [.slice (cutA sl.a 1 sl.cap 1) (sl.len - 1) (sl.cap - 1), .int .i64 ((lost + (n + 1) : Nat) : Int)]) o9 rfl rfl (Nat.le_refl 2) fun ha oa => ?_
    have wf := w6.from rfl (by decide) (k := 1) (by omega) (z := 1) rfl
    exact hJ3 _ _ (again _ _ _ ⟨n + 1, outs, rest.drop 1, sls, dO, r6, d6, ⟨cutA sl.a 1 sl.cap 1, sl.len - 1, sl.cap - 1⟩, rfl, mid.none hne hnm hn, oa, wo, rr, cc, wf⟩ (by rw [List.length_drop]; omega))
  · have hk2 := frameG_pos hk
    have hnm : mayV rest = false := by
      cases hm : mayV rest with
      | false => rfl
      | true => rw [mayV_frame (b := []) (k := 0) hbr hm] at hk; cases hk
    refine cond_t rfl (more_ok o4 wo rr w4 (by omega) fun p n5 m5 d5 r5 h5 o5 w5 rr5 => ?_)
    refine load_ob (x := sl) o5 0 rfl rfl ?_
    refine ⟨by dsimp only; omega, by dsimp only; omega, ?_⟩
    dsimp only
    rw [Int.toNat_natCast]
    refine store_ob (cd := cSl) (i := 0) (x := (⟨(cutA sl.a k sl.cap 1), (sl.len - k), (sl.cap - k)⟩ : Sl)) (vs' := [.slice (cutA sl.a k sl.cap 1) (sl.len - k) (sl.cap - k), .int .i64 ((lost + n : Nat) : Int)]) o5 rfl rfl (Nat.le_succ 1) fun h9 o9 => ?_
    have wf := w6.from rfl (by decide) (k := k) (by omega) (z := 1) rfl
    exact hJ3 _ _ (again _ _ _ ⟨n, outs ++ [body], rest.drop k, sls ++ [s4], d5, r5, d6, ⟨cutA sl.a k sl.cap 1, sl.len - k, sl.cap - k⟩, rfl, mid.some hnm hk, o9, w5, rr5, All2.app (R := fun (s : Sl) (bs : List Int) => bs.length ≤ s.cap) cc (l' := [s4]) (m' := [body]) ⟨w4.le_cap (by decide), trivial⟩, wf⟩ (by rw [List.length_drop]; omega))

/-- Frames go out as long as there is room. -/
def allV (s : SS) : List (List Int) → List Frame → SS × List (List Int) × Bool
  | out, [] => (s, out, true)
  | out, f :: fs => if out.length < 256 then allV s (out ++ [frameV (bytesF f)]) fs else ((cutV s).1, out, false)
theorem goes_full : ∀ (fs : List Frame) (s : SS) (out : List (List Int)) (b : Bool), ¬ out.length < 256 → s.up = false → goesV (s, out, b) fs = (s, out, b)
  | [], _, _, _, _, _ => rfl
  | f :: fs, s, out, b, ho, hs => by
    have e : goes1 (s, out, b) f = (s, out, b) := by
      unfold goes1
      rw [if_neg ho]
      obtain ⟨_, up, _⟩ := s
      cases hs
      simp [cutV]
    show goesV (goes1 (s, out, b) f) fs = _
    rw [e]
    exact goes_full fs s out b ho hs
theorem goes_all : ∀ (fs : List Frame) (s : SS) (out : List (List Int)) (b : Bool), goesV (s, out, b) fs = ((allV s out fs).1, (allV s out fs).2.1, b || (!(allV s out fs).2.2 && s.up))
  | [], s, out, b => by simp [goesV, allV]
  | f :: fs, s, out, b => by
    show goesV (goes1 (s, out, b) f) fs = _
    unfold goes1 allV
    by_cases ho : out.length < 256
    · rw [if_pos ho, if_pos ho]
      exact goes_all fs s _ b
    · rw [if_neg ho, if_neg ho]
      rw [goes_full fs _ _ _ ho rfl]
      simp [cutV]
theorem take_up (s : SS) (x : Frame) (h : (takeV s x).2.1 ≠ []) : (takeV s x).1.up = true ∨ (takeV s x).2.2.2.2 = true := by
  unfold takeV at h ⊢
  split
  · rename_i h1
    rw [if_pos h1] at h
    left
    unfold logV at h ⊢
    dsimp only at h ⊢
    split
    · rename_i h2; rw [if_pos h2] at h; exact absurd rfl h
    · rfl
  · rename_i h1
    rw [if_neg h1] at h
    split
    · rename_i h2; rw [if_pos h2] at h; exact absurd rfl h
    · rename_i h2
      rw [if_neg h2] at h
      have hup : s.up = true := by cases hs : s.up with | true => rfl | false => exact absurd hs h2
      split
      · rename_i h3
        rw [if_pos h3] at h
        dsimp only at h ⊢
        unfold sesV at h ⊢
        split
        · exact .inl hup
        · split
          · split
            · exact .inr rfl
            · exact .inl hup
          · split
            · exact .inr rfl
            · exact .inl hup
      · left
        dsimp only
        unfold seqV
        split
        · exact hup
        · split
          · exact hup
          · split <;> exact hup
theorem all_some {s : SS} {out : List (List Int)} {fs : List Frame} (h : (allV s out fs).2.2 = false) : fs ≠ [] := by
  rintro rfl
  cases h
/-- What both sides say of a line's going down. -/
theorem down_same (s : SS) (out : List (List Int)) (x : Frame) : ((takeV s x).2.2.2.2 || (goesV ((takeV s x).1, out, false) (takeV s x).2.1).2.2) = (if (allV (takeV s x).1 out (takeV s x).2.1).2.2 = true then (takeV s x).2.2.2.2 else true) := by
  rw [goes_all]
  dsimp only
  cases ha : (allV (takeV s x).1 out (takeV s x).2.1).2.2 with
  | true => simp
  | false =>
    rcases take_up s x (all_some ha) with h | h <;> simp [h]
theorem tick_up (s : SS) (h : (tickV s).2.1 ≠ []) : (tickV s).1.up = true ∨ (tickV s).2.2 = true := by
  unfold tickV at h ⊢
  split
  · rename_i h1; rw [if_pos h1] at h; exact absurd rfl h
  · rename_i h1
    have hup : s.up = true := by cases hs : s.up with | true => rfl | false => exact absurd hs h1
    split
    · exact .inr rfl
    · split
      · exact .inl hup
      · split <;> exact .inl hup
/-- A tick goes by on a line. -/
def ltickV (s : SS) (out : List (List Int)) : SS × List (List Int) × Bool :=
  ((goesV ((tickV s).1, out, false) (tickV s).2.1).1, (goesV ((tickV s).1, out, false) (tickV s).2.1).2.1, (tickV s).2.2 || (goesV ((tickV s).1, out, false) (tickV s).2.1).2.2)
theorem ltick_same (s : SS) (out : List (List Int)) : (ltickV s out).2.2 = (if (allV (tickV s).1 out (tickV s).2.1).2.2 = true then (tickV s).2.2 else true) := by
  unfold ltickV
  rw [goes_all]
  dsimp only
  cases ha : (allV (tickV s).1 out (tickV s).2.1).2.2 with
  | true => simp
  | false =>
    rcases tick_up s (all_some ha) with h | h <;> simp [h]
theorem tick_wf (s : SS) : ∀ f ∈ (tickV s).2.1, wfF f := by
  have o2 : wfF (ownF 2 0) := ownF_wf (by unfold I64; omega) (by unfold I64; omega)
  have o3 : wfF (ownF 3 0) := ownF_wf (by unfold I64; omega) (by unfold I64; omega)
  have o5 : wfF (ownF 5 0) := ownF_wf (by unfold I64; omega) (by unfold I64; omega)
  intro f hf
  unfold tickV at hf
  split at hf
  · cases hf
  · split at hf
    · rw [List.mem_singleton] at hf; subst hf; exact o5
    · split at hf
      · rw [List.mem_singleton] at hf; subst hf; exact o3
      · split at hf
        · rw [List.mem_singleton] at hf; subst hf; exact o2
        · cases hf
/-! ### the program's tick -/
theorem tick24_ok {p : Option Addr} {held : List Int} {lost : Nat} {s : SS} {out : List (List Int)} {c h : Hp} {l : List Hp} (o : On h (c :: l)) (w : IsLine p held lost s out c) (hb : 1 ≤ s.beat ∧ s.beat ≤ 1000) (hs1 : s.sent ≤ 1000000) (hs2 : s.heard ≤ 1000000)
    {Q : Bool → Hp → Prop} (hq : ∀ c' h', On h' (c' :: l) → IsLine p held lost (ltickV s out).1 (ltickV s out).2.1 c' → Q (ltickV s out).2.2 h') : callP Tryz.prog 16 [Value.pointer p] cB h Q := by
  obtain ⟨b, pf, ps, pb, cf, cs, cb, rfl, oc, wf, ws, wb⟩ := w
  refine c16 ?_
  unfold F16
  dsimp only [nilP]
  have os : On h (ob b (cellsLn pf ps pb) 58 :: cf :: cs :: cb :: l) := o.split oc
  refine cond_f rfl ?_
  refine load_ob (x := ps) os 0 rfl rfl ?_
  refine tick10_ok (os.pick [2, 0, 1, 3] 4 (by decide) (by decide)) ws hb hs1 hs2 fun sl cs2 r2 h2 o2 w2 rr2 => ?_
  have o2' : On h2 (ob b (cellsLn pf ps pb) 58 :: cf :: cs2 :: cb :: r2 :: l) := o2.pick [2, 3, 0, 4, 1] 5 (by decide) (by decide)
  have hbd := tick_bd s
  refine goes24_ok o2' w2 wb (g := r2) (by simp) rr2 (tick_wf s) (by omega) fun cs4 cb4 h4 o4 ws4 wb4 => ?_
  obtain ⟨o6, o7⟩ := On.joined (cs := [ob b (cellsLn pf ps pb) 58, cf, cs4, cb4]) (l := l) (o4.pick [0, 1, 2, 3] 5 (by decide) (by decide))
  have hq := hq _ h4 o6 ⟨b, pf, ps, pb, cf, cs4, cb4, rfl, o7, wf, ws4, wb4⟩
  unfold ltickV at hq
  dsimp only at hq ⊢
  refine cond_i (fun e => ?_) fun e => ?_
  · have e : (tickV s).2.2 = true := e
    rw [e] at hq; exact hq
  · have e : (tickV s).2.2 = false := e
    rw [e] at hq; simpa using hq
/-! ### the document's line -/
def IsLineR (p : Option Addr) (held : List Int) (lost : Nat) (s : SS) (out : List (List Int)) (c : Hp) : Prop :=
  ∃ (b : Nat) (pf ps pb : Option Addr) (cf cs cb : Hp), p = some ⟨b, 0, none⟩ ∧ On c [ob b (cellsLn pf ps pb) 43, cf, cs, cb] ∧ IsFlow pf held lost cf 61 ∧ IsRef ps s cs ∧ IsRef8 pb (256, out, false) cb
theorem rnew24_ok {n : Int} {h : Hp} {l : List Hp} (o : On h l) {Q : Option Addr → Hp → Prop} (h0 : n < 1 ∨ 1000 < n → Q none h) (h1 : 1 ≤ n → n ≤ 1000 → ∀ p c h', On h' (c :: l) → IsLineR p [] 0 (newV n.toNat) [] c → Q p h') : callP Tryz.prog 5 [Value.int .i64 n] cP h Q := by
  refine c5 ?_
  unfold F5
  refine rnew10_ok o (fun hn => cond_t rfl (h0 hn)) fun a1 a2 ps cs h2 o2 w2 => ?_
  obtain ⟨ks, rfl⟩ := isS_some w2
  refine cond_f rfl ?_
  refine alloc_ob o2 fun k3 h3 o3 => ?_
  obtain ⟨cf, o3', w3⟩ := new7_of o3
  refine rnew8_ok o3' (fun h => by omega) fun pb cb h4 _ _ o4 w4 => ?_
  refine alloc_ob o4 fun k1 h5 o5 => ?_
  obtain ⟨o6, o7⟩ := On.joined (cs := [ob k1 (cellsLn (some ⟨k3, 0, none⟩) (some ⟨ks, 0, none⟩) pb) 43, cf, cs, cb]) (l := l) (On.pick (l := ob k1 (cellsLn (some ⟨k3, 0, none⟩) (some ⟨ks, 0, none⟩) pb) 43 :: cb :: cf :: cs :: l) o5 [0, 2, 3, 1] 4 (by decide) (by decide))
  exact h1 a1 a2 _ _ h5 o6 ⟨k1, _, _, pb, cf, cs, cb, rfl, o7, w3, w2, w4⟩
theorem rgoes24_ok {b : Nat} {pf ps pb : Option Addr} {cf cs cb h : Hp} {l : List Hp} {s : SS} {out : List (List Int)} {f : Frame} (o : On h (ob b (cellsLn pf ps pb) 43 :: cf :: cs :: cb :: l)) (ws : IsRef ps s cs) (wb : IsRef8 pb (256, out, false) cb) (hw : wfF f) (hn : out.length ≤ 1000000)
    {Q : Bool → Hp → Prop} (hq : ∀ cs' cb' h', On h' (ob b (cellsLn pf ps pb) 43 :: cf :: cs' :: cb' :: l) → IsRef ps (if out.length < 256 then s else (cutV s).1) cs' → IsRef8 pb (256, (if out.length < 256 then out ++ [frameV (bytesF f)] else out), false) cb' → Q (decide (out.length < 256)) h') :
    callP Tryz.prog 35 [Value.pointer (some ⟨b, 0, none⟩), cFrame.enc f] cB h Q := by
  refine c35 ?_
  unfold F35
  dsimp only [nilP]
  refine rbytes5_ok (x := f) o hw fun s2 d2 h2 o2 w2 => ?_
  have hbl := bytesF_len hw
  refine rput6_ok o2 (g := d2) (by simp) w2.row (bytesF_byte f) (by omega) (fun h => by omega) fun _ s3 d3 h3 o3 w3 => ?_
  refine load_ob (x := pb) o3 2 rfl rfl ?_
  have o3' : On h3 (cb :: d3 :: ob b (cellsLn pf ps pb) 43 :: cf :: cs :: l) := o3.pick [5, 0, 2, 3, 4] 6 (by decide) (by decide)
  refine rput8_ok (g := d3) o3' wb (by simp) w3.row (by rw [frameV_len]; omega) hn fun cb5 h5 o5 w5 => ?_
  have o5' : On h5 (ob b (cellsLn pf ps pb) 43 :: cf :: cs :: cb5 :: l) := o5.pick [2, 3, 4, 0] 5 (by decide) (by decide)
  by_cases h256 : out.length < 256
  · simp only [h256, decide_true, Bool.not_false, Bool.and_true, cond_true, if_true] at w5 hq
    exact cond_t (by simp [h256]) (hq cs cb5 h5 o5' ws w5)
  · simp only [h256, decide_false, Bool.and_false, cond_false, if_false] at w5 hq
    refine cond_f (by simp [h256]) ?_
    refine load_ob (x := ps) o5' 0 rfl rfl ?_
    refine rcut10_ok (o5'.pick [2, 0, 1, 3] 4 (by decide) (by decide)) ws fun cs6 h6 o6 w6 => ?_
    exact hq cs6 cb5 h6 (o6.pick [1, 2, 0, 3] 4 (by decide) (by decide)) w6 w5
theorem rall24_ok {b : Nat} {pf ps pb : Option Addr} {cf cs cb g h : Hp} {l : List Hp} {s : SS} {out : List (List Int)} {p1 : Sl} {fs : List Frame} (o : On h (ob b (cellsLn pf ps pb) 43 :: cf :: cs :: cb :: l)) (ws : IsRef ps s cs) (wb : IsRef8 pb (256, out, false) cb) (hg : g ∈ l) (r : Row cFrame g p1 fs) (hw : ∀ f ∈ fs, wfF f) (hn : out.length + fs.length ≤ 1000000)
    {Q : Bool → Hp → Prop} (hq : ∀ cs' cb' h', On h' (ob b (cellsLn pf ps pb) 43 :: cf :: cs' :: cb' :: l) → IsRef ps (allV s out fs).1 cs' → IsRef8 pb (256, (allV s out fs).2.1, false) cb' → Q (allV s out fs).2.2 h') :
    callP Tryz.prog 32 [Value.pointer (some ⟨b, 0, none⟩), Value.slice p1.a p1.len p1.cap] cB h Q := by
  refine c32 ?_
  unfold F32
  have hl := r.1
  refine loop_i (fun z h' => ∃ (i : Nat) (cs cb : Hp) (out' : List (List Int)), z = (i : Int) ∧ i ≤ fs.length ∧ On h' (ob b (cellsLn pf ps pb) 43 :: cf :: cs :: cb :: l) ∧ IsRef ps s cs ∧ IsRef8 pb (256, out', false) cb ∧ allV s out fs = allV s out' (fs.drop i) ∧ out'.length ≤ out.length + i) (fun z => fs.length - z.toNat)
    ⟨0, cs, cb, out, rfl, Nat.zero_le _, o, ws, wb, rfl, Nat.le_refl _⟩ ?_
  rintro J z h1 again ⟨i, cs, cb, out', rfl, hle, o1, ws, wb, he, hbd⟩
  refine cond_d (fun hlt => ?_) fun hge => ?_
  · have hi : i < fs.length := by omega
    have a0 : fs[i]? = some fs[i] := List.getElem?_eq_getElem hi
    have hwf := hw _ (List.mem_of_getElem? a0)
    have hd : fs.drop i = fs[i] :: fs.drop (i + 1) := List.drop_eq_getElem_cons hi
    generalize fs[i] = f at a0 hwf hd
    rw [hd] at he
    refine idx_row r (Int.natCast_nonneg i) (by omega) fun a ha => load_row r (o1.mem (by simp [hg])) rfl ha (i := i) a0 (by simp) ?_
    have ei : IntKind.i64.wrap ((i : Int) + 1) = ((i + 1 : Nat) : Int) := w64n (by omega)
    rw [ei]
    rw [show allV s out' (f :: fs.drop (i + 1)) = if out'.length < 256 then allV s (out' ++ [frameV (bytesF f)]) (fs.drop (i + 1)) else ((cutV s).1, out', false) from rfl] at he
    refine rgoes24_ok (f := f) o1 ws wb hwf (by omega) fun cs2 cb2 h2 o2 ws2 wb2 => ?_
    by_cases h256 : out'.length < 256
    · rw [if_pos h256] at ws2 wb2 he
      refine cond_f (by rw [decide_eq_true h256]; rfl) (again _ _ ⟨i + 1, cs2, cb2, _, rfl, by omega, o2, ws2, wb2, he, by rw [List.length_append, List.length_singleton]; omega⟩ (by omega))
    · rw [if_neg h256] at ws2 wb2 he
      refine cond_t (by rw [decide_eq_false h256]; rfl) ?_
      have hq := hq cs2 cb2 h2 o2 (by rw [he]; exact ws2) (by rw [he]; exact wb2)
      rw [he] at hq
      exact hq
  · have : i = fs.length := by omega
    subst this
    rw [List.drop_length] at he
    have hq := hq cs cb h1 o1 (by rw [he]; exact ws) (by rw [he]; exact wb)
    rw [he] at hq
    exact hq
theorem rsend24_ok {p : Option Addr} {held : List Int} {lost : Nat} {s : SS} {out : List (List Int)} {m : Msg} {c h : Hp} {l : List Hp} (o : On h (c :: l)) (w : IsLineR p held lost s out c) (hl : s.all.length ≤ 1000000) (ho : out.length ≤ 1000000) (hw : wfF (mkF (s.all.length + 1 : Nat) m))
    {Q : Bool → Hp → Prop} (hq : ∀ c' h', On h' (c' :: l) → IsLineR p held lost (lsendV s out m).1 (lsendV s out m).2.1 c' → Q (lsendV s out m).2.2 h') : callP Tryz.prog 10 [Value.pointer p, cMsg.enc m] cB h Q := by
  obtain ⟨b, pf, ps, pb, cf, cs, cb, rfl, oc, wf, ws, wb⟩ := w
  refine c10 ?_
  unfold F10
  dsimp only [nilP]
  have os : On h (ob b (cellsLn pf ps pb) 43 :: cf :: cs :: cb :: l) := o.split oc
  refine load_ob (x := ps) os 0 rfl rfl ?_
  unfold lsendV at hq
  refine rsend10_ok (m := m) (os.pick [2, 0, 1, 3] 4 (by decide) (by decide)) ws hl fun cs2 h2 o2 w2 => ?_
  have o2' : On h2 (ob b (cellsLn pf ps pb) 43 :: cf :: cs2 :: cb :: l) := o2.pick [1, 2, 0, 3] 4 (by decide) (by decide)
  refine cond_i (fun e => ?_) fun e => ?_
  · rw [if_pos e] at hq
    have hfr : wfF (sendV s m).2.1 ∧ (sendV s m).1.up = true := by
      unfold sendV at e ⊢
      split at e
      · cases e
      · rename_i hc
        rw [if_neg hc]; exact ⟨hw, e⟩
    refine rgoes24_ok (f := (sendV s m).2.1) o2' w2 wb hfr.1 ho fun cs4 cb4 h4 o4 ws4 wb4 => ?_
    obtain ⟨o6, o7⟩ := On.joined (cs := [ob b (cellsLn pf ps pb) 43, cf, cs4, cb4]) (l := l) o4
    have eg : goesV ((sendV s m).1, out, false) [(sendV s m).2.1] = (if out.length < 256 then (sendV s m).1 else (cutV (sendV s m).1).1, if out.length < 256 then out ++ [frameV (bytesF (sendV s m).2.1)] else out, !decide (out.length < 256)) := by
      show goes1 _ _ = _
      unfold goes1
      by_cases h256 : out.length < 256
      · simp [h256]
      · simp [h256, cutV, hfr.2]
    rw [eg] at hq
    have hq := hq _ h4 o6 ⟨b, pf, ps, pb, cf, cs4, cb4, rfl, o7, wf, ws4, wb4⟩
    rw [Bool.not_not] at hq
    exact hq
  · rw [if_neg (by rw [e]; simp)] at hq
    obtain ⟨o6, o7⟩ := On.joined (cs := [ob b (cellsLn pf ps pb) 43, cf, cs2, cb]) (l := l) o2'
    exact hq _ h2 o6 ⟨b, pf, ps, pb, cf, cs2, cb, rfl, o7, wf, w2, wb⟩
theorem rtick24_ok {p : Option Addr} {held : List Int} {lost : Nat} {s : SS} {out : List (List Int)} {c h : Hp} {l : List Hp} (o : On h (c :: l)) (w : IsLineR p held lost s out c) (ho : out.length ≤ 1000) (hb : 1 ≤ s.beat ∧ s.beat ≤ 1000) (hs1 : s.sent ≤ 1000000) (hs2 : s.heard ≤ 1000000)
    {Q : Bool → Hp → Prop} (hq : ∀ c' h', On h' (c' :: l) → IsLineR p held lost (ltickV s out).1 (ltickV s out).2.1 c' → Q (ltickV s out).2.2 h') : callP Tryz.prog 17 [Value.pointer p] cB h Q := by
  obtain ⟨b, pf, ps, pb, cf, cs, cb, rfl, oc, wf, ws, wb⟩ := w
  refine c17 ?_
  unfold F17
  dsimp only [nilP]
  have os : On h (ob b (cellsLn pf ps pb) 43 :: cf :: cs :: cb :: l) := o.split oc
  refine load_ob (x := ps) os 0 rfl rfl ?_
  refine rtick10_ok (os.pick [2, 0, 1, 3] 4 (by decide) (by decide)) ws hb hs1 hs2 fun sl cs2 r2 h2 o2 w2 rr2 => ?_
  have o2' : On h2 (ob b (cellsLn pf ps pb) 43 :: cf :: cs2 :: cb :: r2 :: l) := o2.pick [2, 3, 0, 4, 1] 5 (by decide) (by decide)
  have hbd := tick_bd s
  refine rall24_ok o2' w2 wb (g := r2) (by simp) rr2 (tick_wf s) (by omega) fun cs4 cb4 h4 o4 ws4 wb4 => ?_
  obtain ⟨o6, o7⟩ := On.joined (cs := [ob b (cellsLn pf ps pb) 43, cf, cs4, cb4]) (l := l) (o4.pick [0, 1, 2, 3] 5 (by decide) (by decide))
  rw [ltick_same] at hq
  unfold ltickV at hq
  rw [goes_all] at hq
  have hq := hq _ h4 o6 ⟨b, pf, ps, pb, cf, cs4, cb4, rfl, o7, wf, ws4, wb4⟩
  refine cond_i (fun e => ?_) fun e => ?_
  · rw [if_neg (by intro h; rw [h] at e; cases e)] at hq; exact hq
  · rw [if_pos (by cases ha : (allV (tickV s).1 out (tickV s).2.1).2.2 with | true => rfl | false => rw [ha] at e; cases e)] at hq; exact hq
theorem rout24_ok {p : Option Addr} {held : List Int} {lost : Nat} {s : SS} {out : List (List Int)} {c h : Hp} {l : List Hp} (o : On h (c :: l)) (w : IsLineR p held lost s out c) (hn : out.length ≤ 1000)
    {Q : Sl → Hp → Prop} (hq : ∀ sl ss c' r' h', On h' (c' :: r' :: l) → IsLineR p held lost s [] c' → Row cSl r' sl ss → Rows2 r' ss out → Q sl h') : callP Tryz.prog 15 [Value.pointer p] cSl h Q := by
  obtain ⟨b, pf, ps, pb, cf, cs, cb, rfl, oc, wf, ws, wb⟩ := w
  refine c15 ?_
  unfold F15
  dsimp only [nilP]
  have os : On h (ob b (cellsLn pf ps pb) 43 :: cf :: cs :: cb :: l) := o.split oc
  have oi : On h (ob b (cellsLn pf ps pb) 43 :: Hp.emp :: Hp.emp :: cf :: cs :: cb :: l) := os.emp.emp.pick [2, 0, 1] 3 (by decide) (by decide)
  refine loop_n (fun n z h' => ∃ (don rest : List (List Int)) (sls : List Sl) (dO rx cb : Hp), n = rest.length ∧ out = don ++ rest ∧ On h' (ob b (cellsLn pf ps pb) 43 :: dO :: rx :: cf :: cs :: cb :: l) ∧ Own cSl dO z sls ∧ Rows2 rx sls don ∧ IsRef8 pb (256, rest, false) cb) out.length
    ⟨[], out, [], Hp.emp, Hp.emp, cb, rfl, rfl, oi, Own.nil _, trivial, wb⟩ ?_
  rintro J n z h1 again ⟨don, rest, sls, dO, rx, cb, rfl, rfl, o1, wo, rr, wb⟩
  have hsl := rr.len
  rw [List.length_append] at hn
  refine load_ob (x := pb) o1 0 rfl rfl ?_
  have o1' : On h1 (cb :: ob b (cellsLn pf ps pb) 43 :: dO :: rx :: cf :: cs :: l) := o1.pick [5, 0, 1, 2, 3, 4] 6 (by decide) (by decide)
  refine rtake8_ok o1' wb (fun hnil => ?_) fun bs q' s2 d2 cb2 h2 hbs o2 wb2 w2 => ?_
  · subst hnil
    refine cond_t rfl ?_
    obtain ⟨o6, o7⟩ := On.joined (cs := [ob b (cellsLn pf ps pb) 43, cf, cs, cb]) (l := dO :: rx :: l) (o1.pick [0, 3, 4, 5, 1, 2] 6 (by decide) (by decide))
    obtain ⟨o8, o9⟩ := On.joined (cs := [dO, rx]) (o6.pick [1, 2, 0] 3 (by decide) (by decide))
    rw [List.append_nil] at hq
    exact hq z sls _ _ h1 o8.swap ⟨b, pf, ps, pb, cf, cs, cb, rfl, o7, wf, ws, wb⟩ (wo.row.sub (o9.mem (by simp))) (Rows2.sub (o9.mem (by simp)) rr)
  · subst hbs
    refine cond_f rfl ?_
    have o2' : On h2 (cb2 :: d2 :: ob b (cellsLn pf ps pb) 43 :: dO :: rx :: cf :: cs :: l) := o2
    have o2'' : On h2 (d2 :: ob b (cellsLn pf ps pb) 43 :: dO :: rx :: cf :: cs :: cb2 :: l) := o2'.pick [1, 2, 3, 4, 5, 6, 0] 7 (by decide) (by decide)
    refine more_ok o2'' wo rr w2 (by omega) fun p3 n3 m3 d3 r3 h3 o3 w3 rr3 => ?_
    exact again _ _ _ ⟨don ++ [bs], q', sls ++ [s2], d3, r3, cb2, rfl, by simp, o3, w3, rr3, wb2⟩ (by simp)
end Go.Proofs.YtmkgcdgpokidjaaGreat

/- Chapter 24: bytes into the document's line. -/
namespace Go.Proofs.YtmkgcdgpokidjaaGreat
open Go.Eng

theorem rbytes24_ok {p : Option Addr} {held : List Int} {lost : Nat} {s : SS} {out : List (List Int)} {c g h : Hp} {l : List Hp} {m : Sl} {bs : List Int} (o : On h (c :: l)) (w : IsLineR p held lost s out c) (hg : g ∈ l) (r : Row (cI .u8) g m bs) (hbh : Bytes held) (hb : Bytes bs) (hl : held.length + bs.length ≤ 100000) (hlost : lost ≤ 1000000)
    (hall : ∀ f ∈ s.all, wfF f) (hal : s.all.length ≤ 100000) (hw : s.want ≤ 100000) (ho : out.length ≤ 256)
    {Q : Sl × Bool → Hp → Prop} (hq : ∀ sl d c' h', On h' (c' :: d :: l) → IsLineR p (flowV (held ++ bs)).2.1 (lost + (flowV (held ++ bs)).2.2) ((flowV (held ++ bs)).1.foldl hearV (s, out, [], false)).1 ((flowV (held ++ bs)).1.foldl hearV (s, out, [], false)).2.1 c' →
      Own cFrame d sl ((flowV (held ++ bs)).1.foldl hearV (s, out, [], false)).2.2.1 → Q (sl, ((flowV (held ++ bs)).1.foldl hearV (s, out, [], false)).2.2.2) h') :
    callP Tryz.prog 7 [Value.pointer p, Value.slice m.a m.len m.cap] (tupC [cSl, cB]) h Q := by
  obtain ⟨b, pf, ps, pb, cf, cs, cb, rfl, oc, wf, ws, wb⟩ := w
  refine c7 ?_
  unfold F7
  dsimp only [nilP]
  have os := o.split oc
  refine load_ob (x := pf) os 0 rfl rfl ?_
  have os' : On h (cf :: ob b (cellsLn pf ps pb) 43 :: cs :: cb :: l) := On.pick (l := ob b (cellsLn pf ps pb) 43 :: cf :: cs :: cb :: l) os [1, 0, 2, 3] 4 (by decide) (by decide)
  refine rpush7c_ok os' wf (g := g) (by simp [hg]) r hbh hb (by omega) hlost fun s1 ss1 cf1 r1 h1 o1 wf1 rs1 rr1 hcaps => ?_
  have hball : Bytes (held ++ bs) := by
    intro x hx
    rcases List.mem_append.1 hx with hx | hx
    · exact hbh x hx
    · exact hb x hx
  have hfb := (flow_bytes hball).1
  have hfl := flow_len hball
  have hfc := (flowV_count _ _ (Nat.le_refl _) hball).1
  rw [List.length_append] at hfl hfc
  generalize flowV (held ++ bs) = fl at wf1 rr1 hfb hfl hfc hq hcaps
  obtain ⟨bodies, held', lost'⟩ := fl
  dsimp only at wf1 rr1 hfb hfl hfc hq hcaps
  have hbl : ∀ x ∈ bodies, x.length ≤ 100000 := by
    intro x hx
    have : x.length + 6 ≤ (bodies.map fun b => b.length + 6).sum := by
      clear hq wf1 rr1 hfb hfl hfc hcaps
      induction bodies with
      | nil => cases hx
      | cons y ys ih =>
        rw [List.map_cons, List.sum_cons]
        rcases List.mem_cons.1 hx with rfl | hx
        · omega
        · have := ih hx; omega
    omega
  have hl1 := rs1.1
  have hl2 := rr1.len
  have o1' : On h1 (ob b (cellsLn pf ps pb) 43 :: cf1 :: cs :: cb :: Hp.emp :: r1 :: l) := On.pick (l := Hp.emp :: cf1 :: r1 :: ob b (cellsLn pf ps pb) 43 :: cs :: cb :: l) o1.emp [3, 1, 4, 5, 0, 2] 6 (by decide) (by decide)
  refine loop_i (fun z h' => ∃ (i : Nat) (cs cb dF : Hp), z.2.2 = (i : Int) ∧ i ≤ bodies.length ∧ On h' (ob b (cellsLn pf ps pb) 43 :: cf1 :: cs :: cb :: dF :: r1 :: l) ∧ IsRef ps ((bodies.take i).foldl hearV (s, out, [], false)).1 cs ∧ IsRef8 pb (256, ((bodies.take i).foldl hearV (s, out, [], false)).2.1, false) cb ∧
    Own cFrame dF z.1 ((bodies.take i).foldl hearV (s, out, [], false)).2.2.1 ∧ z.2.1 = ((bodies.take i).foldl hearV (s, out, [], false)).2.2.2 ∧ ((bodies.take i).foldl hearV (s, out, [], false)).1.all = s.all ∧ ((bodies.take i).foldl hearV (s, out, [], false)).1.want ≤ s.want + i ∧ ((bodies.take i).foldl hearV (s, out, [], false)).2.2.1.length ≤ i) (fun z => bodies.length - z.2.2.toNat)
    ⟨0, cs, cb, Hp.emp, rfl, Nat.zero_le _, o1', ws, wb, Own.nil _, rfl, rfl, Nat.le_refl _, Nat.le_refl _⟩ ?_
  rintro J ⟨zf, zs, zi⟩ h2 again ⟨i, cs, cb, dF, hzi, hle, o2, ws, wb, wF, hzs, q1, q2, q3⟩
  dsimp only at hzi wF hzs
  subst hzi
  dsimp only
  refine cond_d (fun hlt => ?_) fun hge => ?_
  · have hi : i < bodies.length := by omega
    have a0 : ss1[i]? = some ss1[i] := List.getElem?_eq_getElem (by omega)
    obtain ⟨x, hx, rx⟩ := rr1.get i _ a0
    have hxb := hfb x (List.mem_of_getElem? hx)
    have hxl := hbl x (List.mem_of_getElem? hx)
    have estep : (bodies.take (i + 1)).foldl hearV (s, out, [], false) = hearV ((bodies.take i).foldl hearV (s, out, [], false)) x := take_foldl hearV (s, out, [], false) bodies hx
    have ei : IntKind.i64.wrap ((i : Int) + 1) = ((i + 1 : Nat) : Int) := w64n (by omega)
    rw [ei]
    have hbd := hear_bd ((bodies.take i).foldl hearV (s, out, [], false)) x
    rw [← estep] at hbd
    have ho2 := hear_out (bodies.take i) (s, out, [], false) ho
    subst hzs
    generalize (bodies.take i).foldl hearV (s, out, [], false) = st at ws wb wF q1 q2 q3 estep hbd ho2 ⊢
    obtain ⟨s2, out2, fr2, bad2⟩ := st
    dsimp only at ws wb wF q1 q2 q3 hbd ho2 ⊢
    refine join_i (fun z h' => ∃ (cs cb dF : Hp), On h' (ob b (cellsLn pf ps pb) 43 :: cf1 :: cs :: cb :: dF :: r1 :: l) ∧ IsRef ps (hearV (s2, out2, fr2, bad2) x).1 cs ∧ IsRef8 pb (256, (hearV (s2, out2, fr2, bad2) x).2.1, false) cb ∧ Own cFrame dF z.1 (hearV (s2, out2, fr2, bad2) x).2.2.1 ∧ z.2 = (hearV (s2, out2, fr2, bad2) x).2.2.2) ?_ fun J2 hJ2 => ?_
    · rintro ⟨z1, z2⟩ h3 ⟨cs, cb, dF, o3, ws, wb, wF, hz⟩
      dsimp only at wF hz ⊢
      refine again _ _ ⟨i + 1, cs, cb, dF, rfl, by omega, o3, by rw [estep]; exact ws, by rw [estep]; exact wb, by rw [estep]; exact wF, by rw [estep]; exact hz, by rw [hbd.1]; exact q1, by omega, by omega⟩ (by dsimp only; omega)
    · refine idx_row rs1 (Int.natCast_nonneg i) (by omega) fun a ha => load_row rs1 (o2.mem (by simp)) rfl ha (i := i) a0 (by simp) ?_
      obtain ⟨x', hx', hcapx⟩ := hcaps.get i _ a0
      rw [hx] at hx'
      cases hx'
      generalize ss1[i] = sx at a0 rx hcapx
      refine rread5_ok o2 (g := r1) (by simp) rx hxb hcapx (by omega) fun h3 o3 => ?_
      cases hrd : readV x with
      | none =>
        rw [readR_none hrd]
        have eh : hearV (s2, out2, fr2, bad2) x = (s2, out2, fr2, bad2) := by unfold hearV; rw [hrd]
        exact cond_t rfl (hJ2 _ _ ⟨cs, cb, dF, o3, by rw [eh]; exact ws, by rw [eh]; exact wb, by rw [eh]; exact wF, by rw [eh]⟩)
      | some f =>
        rw [readR_some hrd]
        have hfw := readV_wf hxb hrd
        have hga := goes_all (takeV s2 f).2.1 (takeV s2 f).1 out2 false
        have eh : hearV (s2, out2, fr2, bad2) x = ((allV (takeV s2 f).1 out2 (takeV s2 f).2.1).1, (allV (takeV s2 f).1 out2 (takeV s2 f).2.1).2.1,
            if (takeV s2 f).2.2.2.1 = true then fr2 ++ [mkF f.Seq (takeV s2 f).2.2.1] else fr2,
            bad2 || (if (allV (takeV s2 f).1 out2 (takeV s2 f).2.1).2.2 = true then (takeV s2 f).2.2.2.2 else true)) := by
          rw [← down_same]
          unfold hearV
          rw [hrd]
          dsimp only
          rw [hga]
        rw [eh] at hJ2
        dsimp only at hJ2
        refine cond_f rfl ?_
        refine load_ob (x := ps) o3 0 rfl rfl ?_
        have o3' : On h3 (cs :: ob b (cellsLn pf ps pb) 43 :: cf1 :: cb :: dF :: r1 :: l) := o3.pick [2, 0, 1, 3] 4 (by decide) (by decide)
        refine rtake10_ok (x := f) o3' ws (by rw [q1]; omega) (by omega) (hfw _ (by simp [fs, fmsg])) fun sl4 cs4 r4 h4 o4 ws4 rr4 => ?_
        have hbt := take_bd s2 f
        rw [q1] at hbt
        have o4' : On h4 (ob b (cellsLn pf ps pb) 43 :: cf1 :: cs4 :: cb :: r4 :: dF :: r1 :: l) := o4.pick [2, 3, 0, 4, 1] 5 (by decide) (by decide)
        generalize hds : (if (allV (takeV s2 f).1 out2 (takeV s2 f).2.1).2.2 = true then (takeV s2 f).2.2.2.2 else true) = gone at hJ2
        refine join_i (fun t h' => ∃ cs5 cb5, On h' (ob b (cellsLn pf ps pb) 43 :: cf1 :: cs5 :: cb5 :: r4 :: dF :: r1 :: l) ∧ IsRef ps (allV (takeV s2 f).1 out2 (takeV s2 f).2.1).1 cs5 ∧ IsRef8 pb (256, (allV (takeV s2 f).1 out2 (takeV s2 f).2.1).2.1, false) cb5 ∧ t = gone) ?_ fun J4 hJ4 => ?_
        · rintro t h5 ⟨cs5, cb5, o5, ws5, wb5, rfl⟩
          refine join_i (fun t' h' => h' = h5 ∧ t' = (bad2 || t)) ?_ fun J3 hJ3 => ?_
          · rintro t' h6 ⟨rfl, rfl⟩
            have o5' : On h6 (ob b (cellsLn pf ps pb) 43 :: cf1 :: cs5 :: cb5 :: dF :: r1 :: l) := o5.pick [0, 1, 2, 3, 5] 6 (by decide) (by decide)
            refine cond_i (fun e => ?_) fun e => ?_
            · have e : (takeV s2 f).2.2.2.1 = true := e
              rw [if_pos e] at hJ2
              refine one_ok (x := mkF f.Seq (takeV s2 f).2.2.1) o5' fun k7 d7 h7 o7 r7 w7 => ?_
              have o7' : On h7 (dF :: d7 :: ob b (cellsLn pf ps pb) 43 :: cf1 :: cs5 :: cb5 :: r1 :: l) := o7.pick [5, 0, 1, 2, 3, 4] 6 (by decide) (by decide)
              refine append_own (g := d7) (s := zf) (t := ⟨some ⟨k7, 0, none⟩, 1, 1⟩) o7' rfl wF (by decide) r7 (o7'.mem (by simp)) (by unfold roomP; simp; omega) fun d8 p8 n8 m8 h8 o8 w8 => ?_
              exact hJ2 (⟨p8, n8, m8⟩, _) h8 ⟨cs5, cb5, d8, o8.pick [2, 3, 4, 5, 0] 6 (by decide) (by decide), ws5, wb5, w8, rfl⟩
            · have e : (takeV s2 f).2.2.2.1 = false := e
              rw [if_neg (show ¬ ((takeV s2 f).2.2.2.1 = true) by rw [e]; simp)] at hJ2
              exact hJ2 (zf, _) h6 ⟨cs5, cb5, dF, o5', ws5, wb5, wF, rfl⟩
          · refine cond_i (fun e => hJ3 _ _ ⟨rfl, ?_⟩) fun e => hJ3 _ _ ⟨rfl, ?_⟩
            · have e : bad2 = true := e
              rw [e]; rfl
            · have e : bad2 = false := e
              rw [e]; rfl
        · refine rall24_ok o4' ws4 wb (g := r4) (by simp) rr4 (take_wf (by rw [q1]; exact hall) (by omega)) (by omega) fun cs5 cb5 h5 o5 ws5 wb5 => ?_
          refine cond_i (fun e => hJ4 _ _ ⟨cs5, cb5, o5, ws5, wb5, ?_⟩) fun e => hJ4 _ _ ⟨cs5, cb5, o5, ws5, wb5, ?_⟩
          · rw [← hds, if_neg (by intro h; rw [h] at e; cases e)]
          · rw [← hds, if_pos (by cases ha : (allV (takeV s2 f).1 out2 (takeV s2 f).2.1).2.2 with | true => rfl | false => rw [ha] at e; cases e)]
  · have : i = bodies.length := by omega
    subst this
    rw [List.take_length] at ws wb wF hzs
    obtain ⟨o6, o7⟩ := On.joined (cs := [ob b (cellsLn pf ps pb) 43, cf1, cs, cb]) (l := dF :: r1 :: l) o2
    subst hzs
    exact hq zf dF _ h2 (o6.pick [0, 1] 3 (by decide) (by decide)) ⟨b, pf, ps, pb, cf1, cs, cb, rfl, o7, wf1, ws, wb⟩ wF
end Go.Proofs.YtmkgcdgpokidjaaGreat

/- Chapter 24: the law of every script. -/
namespace Go.Proofs.YtmkgcdgpokidjaaGreat
open Go.Eng

theorem goes_inv : ∀ (fs : List Frame) (s : SS) (out : List (List Int)) (b : Bool), (∀ f ∈ fs, wfF f) → (∀ x ∈ out, Bytes x) → out.length ≤ 256 →
    (∀ x ∈ (goesV (s, out, b) fs).2.1, Bytes x) ∧ (goesV (s, out, b) fs).2.1.length ≤ 256 ∧ (goesV (s, out, b) fs).1.beat = s.beat ∧ (goesV (s, out, b) fs).1.all = s.all ∧ (goesV (s, out, b) fs).1.want = s.want ∧ (goesV (s, out, b) fs).1.sent = s.sent ∧ (goesV (s, out, b) fs).1.heard = s.heard
  | [], s, out, b, _, h1, h2 => ⟨h1, h2, rfl, rfl, rfl, rfl, rfl⟩
  | f :: fs, s, out, b, hw, h1, h2 => by
    have hf := hw f (by simp)
    have e : goesV (s, out, b) (f :: fs) = goesV (goes1 (s, out, b) f) fs := rfl
    rw [e]
    unfold goes1
    split
    · rename_i hlt
      refine goes_inv fs s _ _ (fun x hx => hw x (by simp [hx])) ?_ (by simp at hlt ⊢; omega)
      intro b hb
      rcases List.mem_append.1 hb with hb | hb
      · exact h1 b hb
      · rw [List.mem_singleton] at hb; subst hb
        exact frameV_byte (bytesF_byte f) (bytesF_len hf)
    · exact goes_inv fs (cutV s).1 _ _ (fun x hx => hw x (by simp [hx])) h1 h2
theorem hear_bd2 (st : SS × List (List Int) × List Frame × Bool) (b : List Int) : (hearV st b).1.beat = st.1.beat ∧ (hearV st b).1.sent ≤ st.1.sent ∧ (hearV st b).1.heard ≤ st.1.heard := by
  have g : ∀ (fs : List Frame) (st : SS × List (List Int) × Bool), (goesV st fs).1.beat = st.1.beat ∧ (goesV st fs).1.sent = st.1.sent ∧ (goesV st fs).1.heard = st.1.heard := by
    intro fs
    induction fs with
    | nil => exact fun _ => ⟨rfl, rfl, rfl⟩
    | cons f fs ih =>
      intro st
      have h := ih (goes1 st f)
      have h1 : (goes1 st f).1.beat = st.1.beat ∧ (goes1 st f).1.sent = st.1.sent ∧ (goes1 st f).1.heard = st.1.heard := by
        unfold goes1
        split <;> exact ⟨rfl, rfl, rfl⟩
      show (goesV (goes1 st f) fs).1.beat = _ ∧ (goesV (goes1 st f) fs).1.sent = _ ∧ (goesV (goes1 st f) fs).1.heard = _
      rw [h.1, h.2.1, h.2.2]
      exact h1
  unfold hearV
  split
  · exact ⟨rfl, Nat.le_refl _, Nat.le_refl _⟩
  · rename_i x _
    have h1 := take_bd st.1 x
    have h2 := g (takeV st.1 x).2.1 ((takeV st.1 x).1, st.2.1, false)
    dsimp only at h2 ⊢
    rw [h2.1, h2.2.1, h2.2.2]
    exact ⟨h1.1, h1.2.2.2.1, h1.2.2.2.2.1⟩
theorem hear_fold_bd2 : ∀ (bs : List (List Int)) (st : SS × List (List Int) × List Frame × Bool), (bs.foldl hearV st).1.beat = st.1.beat ∧ (bs.foldl hearV st).1.sent ≤ st.1.sent ∧ (bs.foldl hearV st).1.heard ≤ st.1.heard
  | [], st => ⟨rfl, Nat.le_refl _, Nat.le_refl _⟩
  | b :: bs, st => by
    have h1 := hear_bd2 st b
    have h2 := hear_fold_bd2 bs (hearV st b)
    rw [List.foldl_cons]
    exact ⟨by rw [h2.1]; exact h1.1, by omega, by omega⟩
/-- What holds of a line within these bounds. -/
structure LineIn (held : List Int) (lost : Nat) (s : SS) (out : List (List Int)) (i j : Nat) : Prop where
  hb : Bytes held
  hl : held.length + lost ≤ 400 * i
  b1 : 1 ≤ s.beat
  b2 : s.beat ≤ 1000
  al : s.all.length ≤ i
  aw : ∀ f ∈ s.all, wfF f
  wa : s.want + held.length + lost ≤ 1 + 400 * i
  se : s.sent ≤ j
  he : s.heard ≤ j
  ol : out.length ≤ 256
  ob : ∀ b ∈ out, Bytes b
theorem LineIn.more {held : List Int} {lost : Nat} {s : SS} {out : List (List Int)} {i j i' j' : Nat} (k : LineIn held lost s out i j) (hi : i ≤ i') (hj : j ≤ j') : LineIn held lost s out i' j' :=
  ⟨k.hb, by have := k.hl; omega, k.b1, k.b2, by have := k.al; omega, k.aw, by have := k.wa; omega, by have := k.se; omega, by have := k.he; omega, k.ol, k.ob⟩
theorem LineIn.bytes {held : List Int} {lost : Nat} {s : SS} {out : List (List Int)} {i j : Nat} (k : LineIn held lost s out i j) {bs : List Int} (hb : Bytes bs) (hl : bs.length ≤ 400) (hi : i ≤ 100) :
    LineIn (flowV (held ++ bs)).2.1 (lost + (flowV (held ++ bs)).2.2) ((flowV (held ++ bs)).1.foldl hearV (s, out, [], false)).1 ((flowV (held ++ bs)).1.foldl hearV (s, out, [], false)).2.1 (i + 1) j ∧ ((flowV (held ++ bs)).1.foldl hearV (s, out, [], false)).2.2.1.length ≤ 1000000 := by
  obtain ⟨k1, k2, k3, k4, k5, k6, k7, k8, k9, k10, k11⟩ := k
  have hball : Bytes (held ++ bs) := by
    intro x hx
    rcases List.mem_append.1 hx with hx | hx
    · exact k1 x hx
    · exact hb x hx
  have hfl := flow_len hball
  rw [List.length_append] at hfl
  have h1 := hear_fold_bd (flowV (held ++ bs)).1 (s, out, [], false)
  have h2 := hear_fold_bd2 (flowV (held ++ bs)).1 (s, out, [], false)
  have hq := h1.2.2
  rw [List.length_nil] at hq
  refine ⟨⟨(flow_bytes hball).2, by omega, by rw [h2.1]; exact k3, by rw [h2.1]; exact k4, by rw [h1.1]; dsimp only; omega, by rw [h1.1]; exact k6, ?_, Nat.le_trans h2.2.1 k8, Nat.le_trans h2.2.2 k9, hear_out _ _ k10, hear_bytes _ _ k11 k6 ?_⟩, by omega⟩
  · have := h1.2.1
    dsimp only at this
    omega
  · dsimp only; omega
theorem LineIn.send {held : List Int} {lost : Nat} {s : SS} {out : List (List Int)} {i j : Nat} (k : LineIn held lost s out i j) {m : Msg} (hw : wfF (mkF (s.all.length + 1 : Nat) m)) : LineIn held lost (lsendV s out m).1 (lsendV s out m).2.1 (i + 1) j := by
  obtain ⟨k1, k2, k3, k4, k5, k6, k7, k8, k9, k10, k11⟩ := k
  have h1 := send_bd s m
  have h2 : ∀ f ∈ (sendV s m).1.all, wfF f := by
    unfold sendV
    split
    · exact k6
    · intro f hf
      rcases List.mem_append.1 hf with hf | hf
      · exact k6 f hf
      · rw [List.mem_singleton] at hf; subst hf; exact hw
  unfold lsendV
  split
  · rename_i hup
    have hfr : wfF (sendV s m).2.1 := by
      unfold sendV at hup ⊢
      split at hup
      · cases hup
      · rename_i hc
        rw [if_neg hc]; exact hw
    have g := goes_inv [(sendV s m).2.1] (sendV s m).1 out false (by intro f hf; rw [List.mem_singleton] at hf; subst hf; exact hfr) k11 k10
    dsimp only
    refine ⟨k1, by omega, by rw [g.2.2.1, h1.1]; exact k3, by rw [g.2.2.1, h1.1]; exact k4, by rw [g.2.2.2.1]; omega, by rw [g.2.2.2.1]; exact h2, by rw [g.2.2.2.2.1, h1.2.2.1]; omega, by rw [g.2.2.2.2.2.1]; omega, by rw [g.2.2.2.2.2.2]; omega, g.2.1, g.1⟩
  · dsimp only
    exact ⟨k1, by omega, by rw [h1.1]; exact k3, by rw [h1.1]; exact k4, by omega, h2, by rw [h1.2.2.1]; omega, by omega, by omega, k10, k11⟩
theorem LineIn.tick {held : List Int} {lost : Nat} {s : SS} {out : List (List Int)} {i j : Nat} (k : LineIn held lost s out i j) : LineIn held lost (ltickV s out).1 (ltickV s out).2.1 i (j + 1) := by
  obtain ⟨k1, k2, k3, k4, k5, k6, k7, k8, k9, k10, k11⟩ := k
  have h1 := tick_bd s
  unfold ltickV
  have g := goes_inv (tickV s).2.1 (tickV s).1 out false (tick_wf s) k11 k10
  dsimp only
  refine ⟨k1, by omega, by rw [g.2.2.1, h1.1]; exact k3, by rw [g.2.2.1, h1.1]; exact k4, by rw [g.2.2.2.1, h1.2.1]; omega, by rw [g.2.2.2.1, h1.2.1]; exact k6, by rw [g.2.2.2.2.1, h1.2.2.1]; omega, by rw [g.2.2.2.2.2.1]; omega, by rw [g.2.2.2.2.2.2]; omega, g.2.1, g.1⟩
/-- Both sides hold the same line. -/
def Both24 (p q : Option Addr) (g : Hp) (i j : Nat) (h : Hp) : Prop :=
  ∃ (held : List Int) (lost : Nat) (s : SS) (out : List (List Int)) (c cR : Hp), On h (cR :: c :: g :: []) ∧ IsLine p held lost s out c ∧ IsLineR q held lost s out cR ∧ LineIn held lost s out i j
def msgA (x : L24Act) : Msg := ⟨x.Msg_Kind, x.Msg_F_0, x.Msg_F_1, x.Msg_F_2, x.Msg_F_3, x.Msg_F_4, x.Msg_F_5⟩
theorem line_at {k : Nat} {held : List Int} {lost : Nat} {s : SS} {out : List (List Int)} {c : Hp} (w : IsLineR (some ⟨k, 0, none⟩) held lost s out c) :
    ∃ ks, c.rds ⟨k, 1, none⟩ [Value.pointer (some ⟨ks, 0, none⟩)] ∧ c.rds ⟨ks, 1, none⟩ [Value.bool s.up] := by
  obtain ⟨b, pf, ps, pb, cf, cs, cb, e, oc, wf, ws, wb⟩ := w
  cases e
  obtain ⟨ks, rfl⟩ := isS_some ws
  exact ⟨ks, Hp.sub_rds (oc.get (i := 0) rfl) (ob_rds rfl), Hp.sub_rds (oc.get (i := 2) rfl) (ref_at ws).1⟩
theorem isLineR_some {p : Option Addr} {held : List Int} {lost : Nat} {s : SS} {out : List (List Int)} {c : Hp} (w : IsLineR p held lost s out c) : ∃ b, p = some ⟨b, 0, none⟩ := by
  obtain ⟨b, _, _, _, _, _, _, e, _⟩ := w
  exact ⟨b, e⟩
theorem isLine_some {p : Option Addr} {held : List Int} {lost : Nat} {s : SS} {out : List (List Int)} {c : Hp} (w : IsLine p held lost s out c) : ∃ b, p = some ⟨b, 0, none⟩ := by
  obtain ⟨b, _, _, _, _, _, _, e, _⟩ := w
  exact ⟨b, e⟩
/-- The document's session of a line is cut. -/
theorem rcut24_ok {k ks : Nat} {held : List Int} {lost : Nat} {s : SS} {out : List (List Int)} {c h : Hp} {l : List Hp} (o : On h (c :: l)) (w : IsLineR (some ⟨k, 0, none⟩) held lost s out c) (hk : c.rds ⟨k, 1, none⟩ [Value.pointer (some ⟨ks, 0, none⟩)])
    {Q : Bool → Hp → Prop} (hq : ∀ c' h', On h' (c' :: l) → IsLineR (some ⟨k, 0, none⟩) held lost (cutV s).1 out c' → Q (cutV s).2 h') : callP Tryz.prog 12 [Value.pointer (some ⟨ks, 0, none⟩)] cB h Q := by
  obtain ⟨b, pf, ps, pb, cf, cs, cb, e, oc, wf, ws, wb⟩ := w
  cases e
  have e1 := hk 0 _ rfl
  have e2 : c.cell? ((⟨k, 1, none⟩ : Addr).add 0) = some (Value.pointer ps) := Hp.sub_cell (oc.get (i := 0) rfl) (by rw [addr_add0, ob_cell]; rfl)
  rw [e1] at e2
  cases e2
  have os := o.split oc
  refine rcut10_ok (On.pick (l := ob k (cellsLn pf (some ⟨ks, 0, none⟩) pb) 43 :: cf :: cs :: cb :: l) os [2, 0, 1, 3] 4 (by decide) (by decide)) ws fun cs6 h6 o6 w6 => ?_
  obtain ⟨o8, o9⟩ := On.joined (cs := [ob k (cellsLn pf (some ⟨ks, 0, none⟩) pb) 43, cf, cs6, cb]) (l := l) (o6.pick [1, 2, 0, 3] 4 (by decide) (by decide))
  exact hq _ h6 o8 ⟨k, pf, _, pb, cf, cs6, cb, rfl, o9, wf, w6, wb⟩
theorem plays24 {g : Hp} {p0 : Int} {p1 : Sl} {xs : List L24Act} (r : Row cL24Act g p1 xs) (hx : ∀ x ∈ xs, (∃ bs, Row (cI .u8) g x.B bs ∧ Bytes bs) ∧ ∀ n ∈ [x.Msg_Kind, x.Msg_F_0, x.Msg_F_1, x.Msg_F_2, x.Msg_F_3, x.Msg_F_4, x.Msg_F_5], I64 n) : F3 p0 p1 g (Lawful g) := by
  unfold F3
  have hl := r.1
  refine cond_d (fun _ => ⟨rfl, Hp.sub_refl _⟩) fun h100 => ?_
  by_cases hp : 1 ≤ p0 ∧ p0 ≤ 1000
  · refine new24_ok (On.self g) (fun h => by omega) fun _ _ p c h1 o1 w1 => ?_
    refine rnew24_ok o1 (fun h => by omega) fun _ _ q cR h2 o2 w2 => ?_
    obtain ⟨kp, rfl⟩ := isLine_some w1
    obtain ⟨kq, rfl⟩ := isLineR_some w2
    refine cond_f rfl ?_
    refine loop_i (fun z h' => ∃ i : Nat, z = i ∧ i ≤ xs.length ∧ Both24 (some ⟨kp, 0, none⟩) (some ⟨kq, 0, none⟩) g i (30 * i) h') (fun z => xs.length - z.toNat)
      ⟨0, rfl, Nat.zero_le _, [], 0, newV p0.toNat, [], c, cR, o2, w1, w2, ⟨(fun x hx => by cases hx), Nat.le_refl _, by show 1 ≤ p0.toNat; omega, by show p0.toNat ≤ 1000; omega, Nat.le_refl _, (fun x hx => by cases hx), Nat.le_refl _, Nat.le_refl _, Nat.le_refl _, Nat.zero_le _, (fun x hx => by cases hx)⟩⟩ ?_
    rintro J z h3 again ⟨i, rfl, hle, both⟩
    refine join_i (fun t h' => h' = h3 ∧ t = decide (i < xs.length)) ?_ fun J7 hJ7 => cond_t rfl (hJ7 _ _ ⟨rfl, decide_eq_decide.2 (by omega)⟩)
    rintro t h4 ⟨rfl, rfl⟩
    refine cond_d (fun hi => ?_) fun hi => ?_
    · have a0 : xs[i]? = some xs[i] := List.getElem?_eq_getElem hi
      obtain ⟨⟨bs, rb, hbb⟩, hm⟩ := hx _ (List.mem_of_getElem? a0)
      generalize xs[i] = x at a0 rb hm
      obtain ⟨held, lost, s, out, c, cR, o4, w, wR, k⟩ := both
      refine idx_row r (Int.natCast_nonneg i) (by omega) fun a ha => load_row r (o4.mem (by simp)) rfl ha (i := i) a0 (by simp) ?_
      have hbl := rb.1
      refine cond_d (fun _ => ⟨rfl, o4.mem (by simp)⟩) fun h400 => ?_
      have ei : IntKind.i64.wrap ((i : Int) + 1) = ((i + 1 : Nat) : Int) := w64n (by omega)
      rw [ei]
      dsimp only [nilP]
      have k1 := k.hl
      have k2 := k.al
      have k3 := k.wa
      have k4 := k.ol
      have k5 := k.se
      have k6 := k.he
      refine join_i (fun t h' => t = true ∧ Both24 (some ⟨kp, 0, none⟩) (some ⟨kq, 0, none⟩) g (i + 1) (30 * (i + 1)) h') ?_ fun J3 hJ3 => ?_
      · rintro t h5 ⟨rfl, both⟩
        refine join_i (fun t h' => t = false ∧ Both24 (some ⟨kp, 0, none⟩) (some ⟨kq, 0, none⟩) g (i + 1) (30 * (i + 1)) h') ?_ fun J2 hJ2 => ?_
        · rintro t h6 ⟨rfl, both⟩
          exact cond_f rfl (again _ _ ⟨i + 1, rfl, by omega, both⟩ (by omega))
        · refine cond_f rfl ?_
          have both' := both
          obtain ⟨held, lost, s, out, c, cR, o5, w, wR, _⟩ := both
          obtain ⟨ks, q1, q2⟩ := line_at wR
          refine ⟨some ⟨ks, 0, none⟩, Hp.sub_rds (o5.get (i := 0) rfl) q1, ?_⟩
          dsimp only
          refine ⟨s.up, Hp.sub_rds (o5.get (i := 0) rfl) q2, ?_⟩
          refine up24_ok (o5.mem (by simp)) w ?_
          exact ⟨⟨Hp.sub_rds (o5.get (i := 0) rfl) q1, Hp.sub_rds (o5.get (i := 0) rfl) q2, trivial⟩, hJ2 _ _ ⟨by simp, both'⟩⟩
      · refine cond_i (fun k1' => ?_) fun _ => cond_i (fun k2' => ?_) fun _ => cond_i (fun k3' => ?_) fun _ => cond_i (fun k4' => ?_) fun _ => ?_
        · have hin := k.bytes hbb (by omega) (by omega)
          refine bytes24_ok (m := x.B) o4.swap w (g := g) (by simp) rb k.hb hbb (by omega) (by omega) k.aw (by omega) (by omega) fun sl5 d5 c5 h5 o5 w5 wf5 => ?_
          have o5' : On h5 (cR :: c5 :: d5 :: g :: []) := o5.pick [2, 0, 1] 3 (by decide) (by decide)
          refine rbytes24_ok (m := x.B) o5' wR (g := g) (by simp) rb k.hb hbb (by omega) (by omega) k.aw (by omega) (by omega) k.ol fun sl6 d6 c6 h6 o6 w6 wf6 => ?_
          refine same_ok (o6.mem (by simp)) (o6.mem (by simp)) wf5.row wf6.row hin.2 ?_
          exact cond_t rfl (hJ3 _ _ ⟨by simp, _, _, _, _, c5, c6, o6.pick [0, 2, 4] 5 (by decide) (by decide), w5, w6, hin.1.more (Nat.le_refl _) (by omega)⟩)
        · have hw : wfF (mkF (s.all.length + 1 : Nat) (msgA x)) := by
            intro n hn
            have hn : n ∈ ((s.all.length + 1 : Nat) : Int) :: [x.Msg_Kind, x.Msg_F_0, x.Msg_F_1, x.Msg_F_2, x.Msg_F_3, x.Msg_F_4, x.Msg_F_5] := hn
            rcases List.mem_cons.1 hn with rfl | hn
            · unfold I64; omega
            · exact hm n hn
          refine send24_ok (m := msgA x) o4.swap w (by omega) hw fun c5 h5 o5 w5 => ?_
          refine rsend24_ok (m := msgA x) o5.swap wR (by omega) (by omega) hw fun c6 h6 o6 w6 => ?_
          exact hJ3 _ _ ⟨by simp, _, _, _, _, c5, c6, o6, w5, w6, (k.send hw).more (Nat.le_refl _) (by omega)⟩
        · obtain ⟨ks, q1, q2⟩ := line_at wR
          refine ⟨some ⟨ks, 0, none⟩, Hp.sub_rds (o4.get (i := 0) rfl) q1, ?_⟩
          refine cut24_ok o4.swap w fun c5 h5 o5 w5 => ?_
          refine ⟨⟨Hp.sub_rds (o5.get (i := 1) rfl) q1, trivial⟩, ?_⟩
          refine rcut24_ok o5.swap wR q1 fun c6 h6 o6 w6 => ?_
          exact hJ3 _ _ ⟨by simp, _, _, _, _, c5, c6, o6, w5, w6, ⟨k.hb, by omega, k.b1, k.b2, by show s.all.length ≤ i + 1; omega, k.aw, by show s.want + held.length + lost ≤ 1 + 400 * (i + 1); omega, by show s.sent ≤ 30 * (i + 1); omega, by show s.heard ≤ 30 * (i + 1); omega, k.ol, k.ob⟩⟩
        · refine out24_ok o4.swap w (by omega) fun sl5 ss5 c5 r5 h5 o5 w5 rs5 rr5 => ?_
          refine rout24_ok (o5.pick [2, 0, 1, 3] 4 (by decide) (by decide)) wR (by omega) fun sl6 ss6 c6 r6 h6 o6 w6 rs6 rr6 => ?_
          refine same7_ok (o6.mem (by simp)) (o6.mem (by simp)) rs5 rs6 rr5 rr6 k.ob k.ob (by omega) ?_
          exact hJ3 _ _ ⟨by simp, _, _, _, _, c5, c6, o6.pick [0, 2, 4] 5 (by decide) (by decide), w5, w6, ⟨k.hb, by omega, k.b1, k.b2, by omega, k.aw, by omega, by omega, by omega, by simp, (fun b hb => by cases hb)⟩⟩
        · refine loop_i (fun z h' => ∃ j : Nat, z = (true, (j : Int)) ∧ j ≤ 30 ∧ Both24 (some ⟨kp, 0, none⟩) (some ⟨kq, 0, none⟩) g i (30 * i + j) h') (fun z => 30 - z.2.toNat) ⟨0, rfl, by omega, held, lost, s, out, c, cR, o4, w, wR, k⟩ ?_
          rintro J4 z h5 again2 ⟨j, rfl, hj, both⟩
          dsimp only
          obtain ⟨held, lost, s, out, c, cR, o5, w, wR, k⟩ := both
          have k1 := k.hl
          have k2 := k.al
          have k4 := k.ol
          have k5 := k.se
          have k6 := k.he
          refine join_i (fun t h' => h' = h5 ∧ (t = true → j < 30)) ?_ fun J6 hJ6 => ?_
          · rintro t h6 ⟨rfl, ht⟩
            refine cond_i (fun e => ?_) fun e => hJ3 _ _ ⟨rfl, held, lost, s, out, c, cR, o5, w, wR, k.more (by omega) (by omega)⟩
            have hj30 := ht e
            have ej : IntKind.i64.wrap ((j : Int) + 1) = ((j + 1 : Nat) : Int) := w64n (by omega)
            rw [ej]
            refine tick24_ok o5.swap w ⟨k.b1, k.b2⟩ (by omega) (by omega) fun c7 h7 o7 w7 => ?_
            refine rtick24_ok o7.swap wR (by omega) ⟨k.b1, k.b2⟩ (by omega) (by omega) fun c8 h8 o8 w8 => ?_
            exact again2 _ _ ⟨j + 1, by simp, by omega, _, _, _, _, c7, c8, o8, w7, w8, k.tick⟩ (by dsimp only; omega)
          · exact cond_t rfl (cond_d (fun _ => hJ6 _ _ ⟨rfl, fun h => by have := of_decide_eq_true h; omega⟩) fun _ => hJ6 _ _ ⟨rfl, fun h => by cases h⟩)
    · obtain ⟨held, lost, s, out, c, cR, o4, w, wR, k⟩ := both
      have k4 := k.ol
      refine cond_f rfl ?_
      refine out24_ok o4.swap w (by omega) fun sl5 ss5 c5 r5 h5 o5 w5 rs5 rr5 => ?_
      refine rout24_ok (o5.pick [2, 0, 1, 3] 4 (by decide) (by decide)) wR (by omega) fun sl6 ss6 c6 r6 h6 o6 w6 rs6 rr6 => ?_
      refine same7_ok (o6.mem (by simp)) (o6.mem (by simp)) rs5 rs6 rr5 rr6 k.ob k.ob (by omega) (cond_t (by simp) ?_)
      exact known24_ok o6 fun h' o' => ⟨rfl, o'.mem (by simp)⟩
  · refine new24_ok (On.self g) (fun _ => ?_) (fun a b => absurd ⟨a, b⟩ hp)
    refine rnew24_ok (On.self g) (fun _ => ?_) (fun a b => absurd ⟨a, b⟩ hp)
    refine cond_f rfl ?_
    refine loop_i (fun z h' => h' = g) (fun z => 0) rfl ?_
    rintro J z h3 again rfl
    refine join_i (fun t h' => h' = h3 ∧ t = false) ?_ fun J7 hJ7 => cond_f rfl (hJ7 _ _ ⟨rfl, rfl⟩)
    rintro t h4 ⟨rfl, rfl⟩
    exact cond_f rfl (cond_t rfl (known24_ok (On.self _) fun h' o' => ⟨rfl, o'.mem (by simp)⟩))
theorem acts24_of {W : World} {s : Sl} (h : Opn Tryz.prog W 22 [.slice s.a s.len s.cap]) : ∃ xs : List L24Act, Row cL24Act (hpOf W) s xs ∧ ∀ x ∈ xs, (∃ bs, Row (cI .u8) (hpOf W) x.B bs ∧ Bytes bs) ∧ ∀ n ∈ [x.Msg_Kind, x.Msg_F_0, x.Msg_F_1, x.Msg_F_2, x.Msg_F_3, x.Msg_F_4, x.Msg_F_5], I64 n := by
  obtain ⟨_, _, _, xs, hr, hx⟩ := open_row (d := 5) (e := 32) (ls := [(.i .i64, 3), (.sl, 27), (.i .i64, 3), (.i .i64, 2), (.i .i64, 2), (.i .i64, 2), (.i .i64, 2), (.i .i64, 2), (.i .i64, 2), (.i .i64, 3)]) (cd := cL24Act)
    (fun x => ⟨x.1, x.2.1, x.2.2.1, x.2.2.2.1, x.2.2.2.2.1, x.2.2.2.2.2.1, x.2.2.2.2.2.2.1, x.2.2.2.2.2.2.2.1, x.2.2.2.2.2.2.2.2.1, x.2.2.2.2.2.2.2.2.2⟩) (fun _ => rfl) h (by kernel_rfl) (by kernel_rfl) (by kernel_rfl)
  refine ⟨xs, hr, fun x hm => ?_⟩
  obtain ⟨y, hy0, _, k0, k1, k2, k3, k4, k5, k6, k7, _⟩ := hx x hm
  subst hy0
  obtain ⟨bs, b1, b2, _⟩ := bytes_of (s := y.2.1) k0
  refine ⟨⟨bs, b1, b2⟩, ?_⟩
  intro n hn
  simp only [List.mem_cons, List.not_mem_nil, or_false] at hn
  rcases hn with rfl | rfl | rfl | rfl | rfl | rfl | rfl
  · exact wfI64 k1
  · exact wfI64 k2
  · exact wfI64 k3
  · exact wfI64 k4
  · exact wfI64 k5
  · exact wfI64 k6
  · exact wfI64 k7
theorem linePlays_law (W : World) (p0 : Int) (p1 : Sl) (_o0 : Opn Tryz.prog W 2 [.int .i64 p0]) (o1 : Opn Tryz.prog W 22 [.slice p1.a p1.len p1.cap]) : F3 p0 p1 (hpOf W) (Lawful (hpOf W)) := by
  obtain ⟨xs, h1, h2⟩ := acts24_of o1
  exact plays24 h1 h2
end Go.Proofs.YtmkgcdgpokidjaaGreat
