import Derived.Test.YtmkgcdgpokidjaaXSess
import Derived.Test.YtmkgcdgpokidjaaXFlow
import Derived.Test.YtmkgcdgpokidjaaMailA
import Derived.Test.YtmkgcdgpokidjaaFC
set_option linter.unusedVariables false
/- Chapter 24: a line: bytes in, frames out. -/
namespace Go.Proofs.Ytmkgcdgpokidjaa
open Go.Eng

/-- A frame goes into the box, or the session is cut. -/
def goes1 (st : SS × List (List Int) × Bool) (f : Frame) : SS × List (List Int) × Bool :=
  if st.2.1.length < 256 then (st.1, st.2.1 ++ [frameV (bytesF f)], st.2.2) else ((cutV st.1).1, st.2.1, st.2.2 || (cutV st.1).2)
def goesV (st : SS × List (List Int) × Bool) (fs : List Frame) : SS × List (List Int) × Bool := fs.foldl goes1 st
/-- A body that a line hears. -/
def hearV (st : SS × List (List Int) × List Frame × Bool) (b : List Int) : SS × List (List Int) × List Frame × Bool :=
  match readV b with
  | none => st
  | some x =>
    ((goesV ((takeV st.1 x).1, st.2.1, false) (takeV st.1 x).2.1).1, (goesV ((takeV st.1 x).1, st.2.1, false) (takeV st.1 x).2.1).2.1,
      if (takeV st.1 x).2.2.2.1 = true then st.2.2.1 ++ [mkF x.Seq (takeV st.1 x).2.2.1] else st.2.2.1,
      st.2.2.2 || ((takeV st.1 x).2.2.2.2 || (goesV ((takeV st.1 x).1, st.2.1, false) (takeV st.1 x).2.1).2.2))
def cellsLn (pf ps pb : Option Addr) : List Value := [.pointer pf, .pointer ps, .pointer pb]
/-- A line in memory. -/
def IsLine (p : Option Addr) (held : List Int) (lost : Nat) (s : SS) (out : List (List Int)) (c : Hp) : Prop :=
  ∃ (b : Nat) (pf ps pb : Option Addr) (cf cs cb : Hp), p = some ⟨b, 0, none⟩ ∧ On c [ob b (cellsLn pf ps pb) 169, cf, cs, cb] ∧ IsFlow pf held lost cf 158 ∧ IsSess ps s cs ∧ IsBox pb 256 out false cb
theorem new24_ok {n : Int} {h : Hp} {l : List Hp} (o : On h l) {Q : Option Addr → Hp → Prop} (h0 : n < 1 ∨ 1000 < n → Q none h) (h1 : 1 ≤ n → n ≤ 1000 → ∀ p c h', On h' (c :: l) → IsLine p [] 0 (newV n.toNat) [] c → Q p h') : callP Try.prog 110 [Value.int .i64 n] cP h Q := by
  refine c110 ?_
  unfold F110
  refine new10_ok o (fun hn => cond_t rfl (h0 hn)) fun a1 a2 ps cs h2 o2 w2 => ?_
  obtain ⟨ks, rfl⟩ := isS_some w2
  refine cond_f rfl (new7_ok o2 fun pf cf h3 o3 w3 => ?_)
  refine new_ok o3 (fun h => by omega) fun pb cb h4 _ _ o4 w4 => ?_
  refine alloc_ob o4 fun k1 h5 o5 => ?_
  obtain ⟨o6, o7⟩ := On.joined (cs := [ob k1 (cellsLn pf (some ⟨ks, 0, none⟩) pb) 169, cf, cs, cb]) (l := l) (On.pick (l := ob k1 (cellsLn pf (some ⟨ks, 0, none⟩) pb) 169 :: cb :: cf :: cs :: l) o5 [0, 2, 3, 1] 4 (by decide) (by decide))
  exact h1 a1 a2 _ _ h5 o6 ⟨k1, pf, _, pb, cf, cs, cb, rfl, o7, w3, w2, w4⟩
theorem up24_ok {p : Option Addr} {held : List Int} {lost : Nat} {s : SS} {out : List (List Int)} {c h : Hp} (hc : c.sub h) (w : IsLine p held lost s out c) {Q : Bool → Hp → Prop} (hq : Q s.up h) : callP Try.prog 113 [Value.pointer p] cB h Q := by
  obtain ⟨b, pf, ps, pb, cf, cs, cb, rfl, oc, wf, ws, wb⟩ := w
  refine c113 ?_
  unfold F113
  dsimp only [nilP]
  exact cond_t rfl ⟨ps, Hp.sub_rds (Hp.sub_trans (oc.get (i := 0) rfl) hc) (ob_rds rfl), up10_ok (Hp.sub_trans (oc.get (i := 2) rfl) hc) ws hq⟩
theorem cut24_ok {p : Option Addr} {held : List Int} {lost : Nat} {s : SS} {out : List (List Int)} {c h : Hp} {l : List Hp} (o : On h (c :: l)) (w : IsLine p held lost s out c) {Q : Bool → Hp → Prop} (hq : ∀ c' h', On h' (c' :: l) → IsLine p held lost (cutV s).1 out c' → Q (cutV s).2 h') : callP Try.prog 116 [Value.pointer p] cB h Q := by
  obtain ⟨b, pf, ps, pb, cf, cs, cb, rfl, oc, wf, ws, wb⟩ := w
  refine c116 ?_
  unfold F116
  dsimp only [nilP]
  have os := o.split oc
  refine cond_t rfl ?_
  refine load_ob (x := ps) os 0 rfl rfl ?_
  have os' : On h (cs :: ob b (cellsLn pf ps pb) 169 :: cf :: cb :: l) := On.pick (l := ob b (cellsLn pf ps pb) 169 :: cf :: cs :: cb :: l) os [2, 0, 1, 3] 4 (by decide) (by decide)
  refine cut10_ok os' ws fun cs' h2 o2 w2 => ?_
  obtain ⟨o6, o7⟩ := On.joined (cs := [ob b (cellsLn pf ps pb) 169, cf, cs', cb]) (l := l) (o2.pick [1, 2, 0, 3] 4 (by decide) (by decide))
  exact hq _ h2 o6 ⟨b, pf, _, pb, cf, cs', cb, rfl, o7, wf, w2, wb⟩
theorem goes24_ok {b : Nat} {pf ps pb : Option Addr} {cf cs cb g h : Hp} {l : List Hp} {s : SS} {out : List (List Int)} {p1 : Sl} {fs : List Frame} (o : On h (ob b (cellsLn pf ps pb) 169 :: cf :: cs :: cb :: l)) (ws : IsSess ps s cs) (wb : IsBox pb 256 out false cb) (hg : g ∈ l) (r : Row cFrame g p1 fs) (hw : ∀ f ∈ fs, wfF f) (hn : fs.length ≤ 1000000)
    {Q : Bool → Hp → Prop} (hq : ∀ cs' cb' h', On h' (ob b (cellsLn pf ps pb) 169 :: cf :: cs' :: cb' :: l) → IsSess ps (goesV (s, out, false) fs).1 cs' → IsBox pb 256 (goesV (s, out, false) fs).2.1 false cb' → Q (!(goesV (s, out, false) fs).2.2) h') :
    callP Try.prog 141 [Value.pointer (some ⟨b, 0, none⟩), Value.slice p1.a p1.len p1.cap] cB h Q := by
  refine c141 ?_
  unfold F141
  dsimp only [nilP]
  have hl := r.1
  refine loop_i (fun z h' => ∃ (i : Nat) (cs cb : Hp), z = ((goesV (s, out, false) (fs.take i)).2.2, (i : Int)) ∧ i ≤ fs.length ∧ On h' (ob b (cellsLn pf ps pb) 169 :: cf :: cs :: cb :: l) ∧ IsSess ps (goesV (s, out, false) (fs.take i)).1 cs ∧ IsBox pb 256 (goesV (s, out, false) (fs.take i)).2.1 false cb) (fun z => fs.length - z.2.toNat)
    ⟨0, cs, cb, rfl, Nat.zero_le _, o, ws, wb⟩ ?_
  rintro J z h1 again ⟨i, cs, cb, rfl, hle, o1, ws, wb⟩
  dsimp only
  refine cond_d (fun hlt => ?_) fun hge => ?_
  · have hi : i < fs.length := by omega
    have a0 : fs[i]? = some fs[i] := List.getElem?_eq_getElem hi
    have hwf := hw _ (List.mem_of_getElem? a0)
    generalize fs[i] = f at a0 hwf
    have estep : goesV (s, out, false) (fs.take (i + 1)) = goes1 (goesV (s, out, false) (fs.take i)) f := take_foldl goes1 (s, out, false) fs a0
    have ei : IntKind.i64.wrap ((i : Int) + 1) = ((i + 1 : Nat) : Int) := w64n (by omega)
    rw [ei]
    generalize goesV (s, out, false) (fs.take i) = st at ws wb estep
    obtain ⟨s1, out1, bad1⟩ := st
    dsimp only at ws wb ⊢
    refine join_i (fun t h' => ∃ (cs cb : Hp), On h' (ob b (cellsLn pf ps pb) 169 :: cf :: cs :: cb :: l) ∧ IsSess ps (goes1 (s1, out1, bad1) f).1 cs ∧ IsBox pb 256 (goes1 (s1, out1, bad1) f).2.1 false cb ∧ t = (goes1 (s1, out1, bad1) f).2.2) ?_ fun J2 hJ2 => ?_
    · rintro t h2 ⟨cs, cb, o2, ws, wb, rfl⟩
      exact again _ _ ⟨i + 1, cs, cb, by rw [estep], by omega, o2, by rw [estep]; exact ws, by rw [estep]; exact wb⟩ (by dsimp only; omega)
    · refine idx_row r (Int.natCast_nonneg i) (by omega) fun a ha => load_row r (o1.mem (by simp [hg])) rfl ha (i := i) a0 (by simp) ?_
      refine bytes5_ok (x := f) o1 hwf fun s3 d3 h3 o3 w3 => ?_
      have hbl := bytesF_len hwf
      refine put6_ok o3 (g := d3) (by simp) w3.row (bytesF_byte f) (by omega) (fun h => by omega) fun _ s4 d4 h4 o4 w4 => ?_
      refine join_i (fun t h' => ∃ cb, On h' (ob b (cellsLn pf ps pb) 169 :: cf :: cs :: cb :: l) ∧ IsBox pb 256 (if out1.length < 256 then out1 ++ [frameV (bytesF f)] else out1) false cb ∧ t = !decide (out1.length < 256)) ?_ fun J3 hJ3 => ?_
      · rintro t h5 ⟨cb, o5, wb5, rfl⟩
        by_cases h256 : out1.length < 256
        · rw [if_pos h256] at wb5
          have eg : goes1 (s1, out1, bad1) f = (s1, out1 ++ [frameV (bytesF f)], bad1) := if_pos h256
          refine cond_f (by rw [decide_eq_true h256]; rfl) (hJ2 _ _ ⟨cs, cb, o5, by rw [eg]; exact ws, by rw [eg]; exact wb5, by rw [eg]⟩)
        · rw [if_neg h256] at wb5
          have eg : goes1 (s1, out1, bad1) f = ((cutV s1).1, out1, bad1 || (cutV s1).2) := if_neg h256
          refine cond_t (by rw [decide_eq_false h256]; rfl) ?_
          refine load_ob (x := ps) o5 0 rfl rfl ?_
          refine cut10_ok (o5.pick [2, 0, 1, 3] 4 (by decide) (by decide)) ws fun cs6 h6 o6 w6 => ?_
          have o6' : On h6 (ob b (cellsLn pf ps pb) 169 :: cf :: cs6 :: cb :: l) := o6.pick [1, 2, 0, 3] 4 (by decide) (by decide)
          refine cond_i (fun e => hJ2 _ _ ⟨cs6, cb, o6', by rw [eg]; exact w6, by rw [eg]; exact wb5, by rw [eg, e, Bool.or_true]⟩) fun e => hJ2 _ _ ⟨cs6, cb, o6', by rw [eg]; exact w6, by rw [eg]; exact wb5, by rw [eg, e, Bool.or_false]⟩
      · refine cond_f rfl ?_
        refine load_ob (x := pb) o4 2 rfl rfl ?_
        have o4' : On h4 (cb :: d4 :: ob b (cellsLn pf ps pb) 169 :: cf :: cs :: l) := o4.pick [5, 0, 2, 3, 4] 6 (by decide) (by decide)
        refine put_ok (g := d4) o4' wb (i := 1) rfl w4.row (by rw [frameV_len]; omega) fun cb5 h5 o5 w5 => ?_
        refine hJ3 _ _ ⟨cb5, o5.pick [2, 3, 4, 0] 5 (by decide) (by decide), ?_, by simp⟩
        by_cases h256 : out1.length < 256
        · rw [if_pos h256]
          simpa [h256] using w5
        · rw [if_neg h256]
          simpa [h256] using w5
  · have : i = fs.length := by omega
    subst this
    rw [List.take_length] at ws wb ⊢
    exact hq cs cb h1 o1 ws wb
end Go.Proofs.Ytmkgcdgpokidjaa

/- Chapter 24: bytes into a line; a wire. -/
namespace Go.Proofs.Ytmkgcdgpokidjaa
open Go.Eng

theorem getD_wf {ns : List Int} (h : ∀ x ∈ ns, I64 x) (i : Nat) : I64 (ns.getD i 0) := by
  rw [List.getD_eq_getElem?_getD]
  cases hx : ns[i]? with
  | none => show I64 0; unfold I64; omega
  | some x => exact h x (List.mem_of_getElem? hx)
theorem readV_wf {bs : List Int} {x : Frame} (hb : Bytes bs) (h : readV bs = some x) : wfF x := by
  cases hf : firstV bs with
  | none => rw [readV_0 hf] at h; cases h
  | some p =>
    obtain ⟨s, k⟩ := p
    have i1 := (firstV_inv hb hf).1
    cases hf2 : firstV (bs.drop k) with
    | none => rw [readV_1 hf hf2] at h; cases h
    | some q =>
      obtain ⟨t, k2⟩ := q
      have i2 := (firstV_inv (hb.drop k) hf2).1
      rw [readV_2 hf hf2] at h
      by_cases hc : s < 0 ∨ manyV t < 0
      · rw [if_pos hc] at h; cases h
      · rw [if_neg hc, Option.map_eq_some_iff] at h
        obtain ⟨ns, hns, rfl⟩ := h
        unfold getV at hns
        rw [if_neg (by omega)] at hns
        have hall := (getN_inv _ _ _ ((hb.drop k).drop k2) hns).2.2
        intro n hn
        have hn : n ∈ s :: t :: [ns.getD 0 0, ns.getD 1 0, ns.getD 2 0, ns.getD 3 0, ns.getD 4 0, ns.getD 5 0] := hn
        simp only [List.mem_cons, List.not_mem_nil, or_false] at hn
        rcases hn with rfl | rfl | rfl | rfl | rfl | rfl | rfl | rfl
        · exact i1
        · exact i2
        all_goals exact getD_wf hall _
theorem ownF_wf {k v : Int} (h1 : I64 k) (h2 : I64 v) : wfF (ownF k v) := by
  intro n hn
  have hn : n ∈ [0, k, v, 0, 0, 0, 0, 0] := hn
  simp only [List.mem_cons, List.not_mem_nil, or_false] at hn
  rcases hn with rfl | rfl | rfl | rfl | rfl | rfl | rfl | rfl
  · unfold I64; omega
  · exact h1
  · exact h2
  all_goals (unfold I64; omega)
theorem take_wf {s : SS} {x : Frame} (hall : ∀ f ∈ s.all, wfF f) (hw : s.want ≤ 1000000) : ∀ f ∈ (takeV s x).2.1, wfF f := by
  have o1 : wfF (ownF 1 s.want) := ownF_wf (by unfold I64; omega) (by unfold I64; omega)
  have o2 : wfF (ownF 2 0) := ownF_wf (by unfold I64; omega) (by unfold I64; omega)
  have o4 : wfF (ownF 4 s.want) := ownF_wf (by unfold I64; omega) (by unfold I64; omega)
  have o5 : wfF (ownF 5 0) := ownF_wf (by unfold I64; omega) (by unfold I64; omega)
  have od : ∀ k, ∀ f ∈ s.all.drop k, wfF f := fun k f hf => hall f (List.mem_of_mem_drop hf)
  intro f hf
  unfold takeV at hf
  split at hf
  · unfold logV at hf
    split at hf
    · cases hf
    · rcases List.mem_cons.1 hf with rfl | hf
      · exact o1
      · exact od _ f hf
  · split at hf
    · cases hf
    · split at hf
      · unfold sesV at hf
        split at hf
        · rw [List.mem_singleton] at hf; subst hf; exact o2
        · split at hf
          · split at hf
            · rw [List.mem_singleton] at hf; subst hf; exact o5
            · exact od _ f hf
          · split at hf
            · cases hf
            · cases hf
      · unfold seqV at hf
        split at hf
        · cases hf
        · split at hf
          · cases hf
          · split at hf
            · rw [List.mem_singleton] at hf; subst hf; exact o4
            · cases hf
theorem goes_bd (fs : List Frame) : ∀ st : SS × List (List Int) × Bool, (goesV st fs).1.all = st.1.all ∧ (goesV st fs).1.want = st.1.want ∧ (goesV st fs).1.beat = st.1.beat := by
  induction fs with
  | nil => exact fun st => ⟨rfl, rfl, rfl⟩
  | cons f fs ih =>
    intro st
    have h := ih (goes1 st f)
    have h1 : (goes1 st f).1.all = st.1.all ∧ (goes1 st f).1.want = st.1.want ∧ (goes1 st f).1.beat = st.1.beat := by
      unfold goes1
      split <;> exact ⟨rfl, rfl, rfl⟩
    show (goesV (goes1 st f) fs).1.all = _ ∧ (goesV (goes1 st f) fs).1.want = _ ∧ (goesV (goes1 st f) fs).1.beat = _
    rw [h.1, h.2.1, h.2.2]
    exact h1
theorem hear_bd (st : SS × List (List Int) × List Frame × Bool) (b : List Int) : (hearV st b).1.all = st.1.all ∧ (hearV st b).1.want ≤ st.1.want + 1 ∧ (hearV st b).2.2.1.length ≤ st.2.2.1.length + 1 := by
  unfold hearV
  split
  · exact ⟨rfl, Nat.le_succ _, Nat.le_succ _⟩
  · rename_i x _
    have h1 := take_bd st.1 x
    have h2 := goes_bd (takeV st.1 x).2.1 ((takeV st.1 x).1, st.2.1, false)
    refine ⟨by rw [h2.1]; exact h1.2.1, by rw [h2.2.1]; exact h1.2.2.1, ?_⟩
    dsimp only
    split
    · simp
    · exact Nat.le_succ _
theorem bytes24_ok {p : Option Addr} {held : List Int} {lost : Nat} {s : SS} {out : List (List Int)} {c g h : Hp} {l : List Hp} {m : Sl} {bs : List Int} (o : On h (c :: l)) (w : IsLine p held lost s out c) (hg : g ∈ l) (r : Row (cI .u8) g m bs) (hbh : Bytes held) (hb : Bytes bs) (hl : held.length + bs.length ≤ 100000) (hlost : lost ≤ 1000000)
    (hall : ∀ f ∈ s.all, wfF f) (hal : s.all.length ≤ 100000) (hw : s.want ≤ 100000)
    {Q : Sl × Bool → Hp → Prop} (hq : ∀ sl d c' h', On h' (c' :: d :: l) → IsLine p (flowV (held ++ bs)).2.1 (lost + (flowV (held ++ bs)).2.2) ((flowV (held ++ bs)).1.foldl hearV (s, out, [], false)).1 ((flowV (held ++ bs)).1.foldl hearV (s, out, [], false)).2.1 c' →
      Own cFrame d sl ((flowV (held ++ bs)).1.foldl hearV (s, out, [], false)).2.2.1 → Q (sl, ((flowV (held ++ bs)).1.foldl hearV (s, out, [], false)).2.2.2) h') :
    callP Try.prog 111 [Value.pointer p, Value.slice m.a m.len m.cap] (tupC [cSl, cB]) h Q := by
  obtain ⟨b, pf, ps, pb, cf, cs, cb, rfl, oc, wf, ws, wb⟩ := w
  refine c111 ?_
  unfold F111
  dsimp only [nilP]
  have os := o.split oc
  refine cond_f rfl ?_
  refine load_ob (x := pf) os 0 rfl rfl ?_
  have os' : On h (cf :: ob b (cellsLn pf ps pb) 169 :: cs :: cb :: l) := On.pick (l := ob b (cellsLn pf ps pb) 169 :: cf :: cs :: cb :: l) os [1, 0, 2, 3] 4 (by decide) (by decide)
  refine push7c_ok os' wf (g := g) (by simp [hg]) r hbh hb (by omega) hlost fun s1 ss1 cf1 r1 h1 o1 wf1 rs1 rr1 hcaps => ?_
  have hball : Bytes (held ++ bs) := by
    intro x hx
    rcases List.mem_append.1 hx with hx | hx
    · exact hbh x hx
    · exact hb x hx
  have hfb := (flow_bytes hball).1
  have hfl := flow_len hball
  have hfc := (flowV_count _ _ (Nat.le_refl _) hball).1
  rw [List.length_append] at hfl hfc
  generalize flowV (held ++ bs) = fl at wf1 rr1 hfb hfl hfc hq hcaps
  obtain ⟨bodies, held', lost'⟩ := fl
  dsimp only at wf1 rr1 hfb hfl hfc hq hcaps
  have hbl : ∀ x ∈ bodies, x.length ≤ 100000 := by
    intro x hx
    have : x.length + 6 ≤ (bodies.map fun b => b.length + 6).sum := by
      clear hq wf1 rr1 hfb hfl hfc hcaps
      induction bodies with
      | nil => cases hx
      | cons y ys ih =>
        rw [List.map_cons, List.sum_cons]
        rcases List.mem_cons.1 hx with rfl | hx
        · omega
        · have := ih hx; omega
    omega
  have hl1 := rs1.1
  have hl2 := rr1.len
  have o1' : On h1 (ob b (cellsLn pf ps pb) 169 :: cf1 :: cs :: cb :: Hp.emp :: r1 :: l) := On.pick (l := Hp.emp :: cf1 :: r1 :: ob b (cellsLn pf ps pb) 169 :: cs :: cb :: l) o1.emp [3, 1, 4, 5, 0, 2] 6 (by decide) (by decide)
  refine loop_i (fun z h' => ∃ (i : Nat) (cs cb dF : Hp), z.2.2 = (i : Int) ∧ i ≤ bodies.length ∧ On h' (ob b (cellsLn pf ps pb) 169 :: cf1 :: cs :: cb :: dF :: r1 :: l) ∧ IsSess ps ((bodies.take i).foldl hearV (s, out, [], false)).1 cs ∧ IsBox pb 256 ((bodies.take i).foldl hearV (s, out, [], false)).2.1 false cb ∧
    Own cFrame dF z.1 ((bodies.take i).foldl hearV (s, out, [], false)).2.2.1 ∧ z.2.1 = ((bodies.take i).foldl hearV (s, out, [], false)).2.2.2 ∧ ((bodies.take i).foldl hearV (s, out, [], false)).1.all = s.all ∧ ((bodies.take i).foldl hearV (s, out, [], false)).1.want ≤ s.want + i ∧ ((bodies.take i).foldl hearV (s, out, [], false)).2.2.1.length ≤ i) (fun z => bodies.length - z.2.2.toNat)
    ⟨0, cs, cb, Hp.emp, rfl, Nat.zero_le _, o1', ws, wb, Own.nil _, rfl, rfl, Nat.le_refl _, Nat.le_refl _⟩ ?_
  rintro J ⟨zf, zs, zi⟩ h2 again ⟨i, cs, cb, dF, hzi, hle, o2, ws, wb, wF, hzs, q1, q2, q3⟩
  dsimp only at hzi wF hzs
  subst hzi
  dsimp only
  refine cond_d (fun hlt => ?_) fun hge => ?_
  · have hi : i < bodies.length := by omega
    have a0 : ss1[i]? = some ss1[i] := List.getElem?_eq_getElem (by omega)
    obtain ⟨x, hx, rx⟩ := rr1.get i _ a0
    have hxb := hfb x (List.mem_of_getElem? hx)
    have hxl := hbl x (List.mem_of_getElem? hx)
    have estep : (bodies.take (i + 1)).foldl hearV (s, out, [], false) = hearV ((bodies.take i).foldl hearV (s, out, [], false)) x := take_foldl hearV (s, out, [], false) bodies hx
    have ei : IntKind.i64.wrap ((i : Int) + 1) = ((i + 1 : Nat) : Int) := w64n (by omega)
    rw [ei]
    have hbd := hear_bd ((bodies.take i).foldl hearV (s, out, [], false)) x
    rw [← estep] at hbd
    subst hzs
    generalize (bodies.take i).foldl hearV (s, out, [], false) = st at ws wb wF q1 q2 q3 estep hbd ⊢
    obtain ⟨s2, out2, fr2, bad2⟩ := st
    dsimp only at ws wb wF q1 q2 q3 hbd ⊢
    refine join_i (fun z h' => ∃ (cs cb dF : Hp), On h' (ob b (cellsLn pf ps pb) 169 :: cf1 :: cs :: cb :: dF :: r1 :: l) ∧ IsSess ps (hearV (s2, out2, fr2, bad2) x).1 cs ∧ IsBox pb 256 (hearV (s2, out2, fr2, bad2) x).2.1 false cb ∧ Own cFrame dF z.1 (hearV (s2, out2, fr2, bad2) x).2.2.1 ∧ z.2 = (hearV (s2, out2, fr2, bad2) x).2.2.2) ?_ fun J2 hJ2 => ?_
    · rintro ⟨z1, z2⟩ h3 ⟨cs, cb, dF, o3, ws, wb, wF, hz⟩
      dsimp only at wF hz ⊢
      refine again _ _ ⟨i + 1, cs, cb, dF, rfl, by omega, o3, by rw [estep]; exact ws, by rw [estep]; exact wb, by rw [estep]; exact wF, by rw [estep]; exact hz, by rw [hbd.1]; exact q1, by omega, by omega⟩ (by dsimp only; omega)
    · refine idx_row rs1 (Int.natCast_nonneg i) (by omega) fun a ha => load_row rs1 (o2.mem (by simp)) rfl ha (i := i) a0 (by simp) ?_
      obtain ⟨x', hx', hcapx⟩ := hcaps.get i _ a0
      rw [hx] at hx'
      cases hx'
      generalize ss1[i] = sx at a0 rx hcapx
      refine read5_ok o2 (g := r1) (by simp) rx hxb hcapx (by omega) fun h3 o3 => ?_
      cases hrd : readV x with
      | none =>
        rw [readR_none hrd]
        have eh : hearV (s2, out2, fr2, bad2) x = (s2, out2, fr2, bad2) := by unfold hearV; rw [hrd]
        exact cond_t rfl (hJ2 _ _ ⟨cs, cb, dF, o3, by rw [eh]; exact ws, by rw [eh]; exact wb, by rw [eh]; exact wF, by rw [eh]⟩)
      | some f =>
        rw [readR_some hrd]
        have hfw := readV_wf hxb hrd
        have eh : hearV (s2, out2, fr2, bad2) x = ((goesV ((takeV s2 f).1, out2, false) (takeV s2 f).2.1).1, (goesV ((takeV s2 f).1, out2, false) (takeV s2 f).2.1).2.1,
            if (takeV s2 f).2.2.2.1 = true then fr2 ++ [mkF f.Seq (takeV s2 f).2.2.1] else fr2,
            bad2 || ((takeV s2 f).2.2.2.2 || (goesV ((takeV s2 f).1, out2, false) (takeV s2 f).2.1).2.2)) := by unfold hearV; rw [hrd]
        rw [eh] at hJ2
        dsimp only at hJ2
        refine cond_f rfl ?_
        refine load_ob (x := ps) o3 0 rfl rfl ?_
        have o3' : On h3 (cs :: ob b (cellsLn pf ps pb) 169 :: cf1 :: cb :: dF :: r1 :: l) := o3.pick [2, 0, 1, 3] 4 (by decide) (by decide)
        refine take10_ok (x := f) o3' ws (by rw [q1]; omega) (by omega) (hfw _ (by simp [fs, fmsg])) fun sl4 cs4 r4 h4 o4 ws4 rr4 => ?_
        have hbt := take_bd s2 f
        rw [q1] at hbt
        have o4' : On h4 (ob b (cellsLn pf ps pb) 169 :: cf1 :: cs4 :: cb :: r4 :: dF :: r1 :: l) := o4.pick [2, 3, 0, 4, 1] 5 (by decide) (by decide)
        refine goes24_ok o4' ws4 wb (g := r4) (by simp) rr4 (take_wf (by rw [q1]; exact hall) (by omega)) (by omega) fun cs5 cb5 h5 o5 ws5 wb5 => ?_
        refine join_i (fun t h' => h' = h5 ∧ t = (bad2 || ((takeV s2 f).2.2.2.2 || (goesV ((takeV s2 f).1, out2, false) (takeV s2 f).2.1).2.2))) ?_ fun J3 hJ3 => ?_
        · rintro t h6 ⟨rfl, rfl⟩
          have o5' : On h6 (ob b (cellsLn pf ps pb) 169 :: cf1 :: cs5 :: cb5 :: dF :: r1 :: l) := o5.pick [0, 1, 2, 3, 5] 6 (by decide) (by decide)
          refine cond_i (fun e => ?_) fun e => ?_
          · have e : (takeV s2 f).2.2.2.1 = true := e
            rw [if_pos e] at hJ2
            refine one_ok (x := mkF f.Seq (takeV s2 f).2.2.1) o5' fun k7 d7 h7 o7 r7 w7 => ?_
            have o7' : On h7 (dF :: d7 :: ob b (cellsLn pf ps pb) 169 :: cf1 :: cs5 :: cb5 :: r1 :: l) := o7.pick [5, 0, 1, 2, 3, 4] 6 (by decide) (by decide)
            refine append_own (g := d7) (s := zf) (t := ⟨some ⟨k7, 0, none⟩, 1, 1⟩) o7' rfl wF (by decide) r7 (o7'.mem (by simp)) (by unfold roomP; simp; omega) fun d8 p8 n8 m8 h8 o8 w8 => ?_
            exact hJ2 (⟨p8, n8, m8⟩, _) h8 ⟨cs5, cb5, d8, o8.pick [2, 3, 4, 5, 0] 6 (by decide) (by decide), ws5, wb5, w8, rfl⟩
          · have e : (takeV s2 f).2.2.2.1 = false := e
            rw [if_neg (show ¬ ((takeV s2 f).2.2.2.1 = true) by rw [e]; simp)] at hJ2
            exact hJ2 (zf, _) h6 ⟨cs5, cb5, dF, o5', ws5, wb5, wF, rfl⟩
        · refine cond_i (fun e => hJ3 _ _ ⟨rfl, ?_⟩) fun e => cond_i (fun e2 => hJ3 _ _ ⟨rfl, ?_⟩) fun e2 => hJ3 _ _ ⟨rfl, ?_⟩
          · have e : bad2 = true := e
            rw [e]; rfl
          · have e : bad2 = false := e
            have e2 : (takeV s2 f).2.2.2.2 = true := e2
            rw [e, e2]; rfl
          · have e : bad2 = false := e
            have e2 : (takeV s2 f).2.2.2.2 = false := e2
            rw [e, e2, Bool.not_not]; rfl
  · have : i = bodies.length := by omega
    subst this
    rw [List.take_length] at ws wb wF hzs
    obtain ⟨o6, o7⟩ := On.joined (cs := [ob b (cellsLn pf ps pb) 169, cf1, cs, cb]) (l := dF :: r1 :: l) o2
    subst hzs
    exact hq zf dF _ h2 (o6.pick [0, 1] 3 (by decide) (by decide)) ⟨b, pf, ps, pb, cf1, cs, cb, rfl, o7, wf1, ws, wb⟩ wF
end Go.Proofs.Ytmkgcdgpokidjaa

/- Chapter 24: a wire, what goes out, a message sent. -/
namespace Go.Proofs.Ytmkgcdgpokidjaa
open Go.Eng

def wireV (fs : List Frame) : List Int := (fs.map fun f => frameV (bytesF f)).flatten
theorem wireV_len : ∀ {fs : List Frame}, (∀ f ∈ fs, wfF f) → (wireV fs).length ≤ 86 * fs.length
  | [], _ => by simp [wireV]
  | f :: fs, h => by
    have h1 := wireV_len (fs := fs) fun x hx => h x (by simp [hx])
    have h2 := bytesF_len (h f (by simp))
    have e : wireV (f :: fs) = frameV (bytesF f) ++ wireV fs := rfl
    rw [e, List.length_append, frameV_len, List.length_cons]
    omega
theorem wireV_byte {fs : List Frame} (h : ∀ f ∈ fs, wfF f) : Bytes (wireV fs) := by
  intro b hb
  obtain ⟨y, hy, hby⟩ := List.mem_flatten.1 hb
  obtain ⟨f, hf, rfl⟩ := List.mem_map.1 hy
  exact frameV_byte (bytesF_byte f) (bytesF_len (h f hf)) b hby
theorem wire24_ok {g h : Hp} {l : List Hp} {p0 : Sl} {fs : List Frame} (o : On h l) (hg : g ∈ l) (r : Row cFrame g p0 fs) (hw : ∀ f ∈ fs, wfF f) (hn : fs.length ≤ 1000)
    {Q : Sl → Hp → Prop} (hq : ∀ s d h', On h' (d :: l) → Own (cI .u8) d s (wireV fs) → Q s h') : callP Try.prog 109 [Value.slice p0.a p0.len p0.cap] cSl h Q := by
  refine c109 ?_
  unfold F109
  have hl := r.1
  refine loop_i (fun z h' => ∃ (i : Nat) (d : Hp), z.2 = (i : Int) ∧ i ≤ fs.length ∧ On h' (d :: l) ∧ Own (cI .u8) d z.1 (wireV (fs.take i))) (fun z => fs.length - z.2.toNat) ⟨0, Hp.emp, rfl, Nat.zero_le _, o.emp, Own.nil _⟩ ?_
  rintro J ⟨z, zi⟩ h1 again ⟨i, d, hzi, hle, o1, w1⟩
  dsimp only at hzi w1
  subst hzi
  dsimp only
  refine cond_d (fun hlt => ?_) fun hge => ?_
  · have hi : i < fs.length := by omega
    have a0 : fs[i]? = some fs[i] := List.getElem?_eq_getElem hi
    have hwf := hw _ (List.mem_of_getElem? a0)
    generalize fs[i] = f at a0 hwf
    refine idx_row r (Int.natCast_nonneg i) (by omega) fun a ha => load_row r (o1.mem (by simp [hg])) rfl ha (i := i) a0 (by simp) ?_
    refine rbytes5_ok (x := f) o1 hwf fun s2 d2 h2 o2 w2 => ?_
    have hbl := bytesF_len hwf
    refine rput6_ok o2 (g := d2) (by simp) w2.row (bytesF_byte f) (by omega) (fun h => by omega) fun _ s3 d3 h3 o3 w3 => ?_
    have hwl := wireV_len (fs := fs.take i) fun x hx => hw x (List.mem_of_mem_take hx)
    rw [List.length_take] at hwl
    have o3' : On h3 (d :: d3 :: l) := o3.pick [2, 0] 3 (by decide) (by decide)
    refine append_own (g := d3) (s := z) (t := s3) o3' rfl w1 (by decide) w3.row (o3'.mem (by simp)) (by unfold roomP; rw [frameV_len]; omega) fun d4 p4 n4 m4 h4 o4 w4 => ?_
    refine again _ _ ⟨i + 1, d4, w64n (by omega), by omega, o4.pick [0] 2 (by decide) (by decide), ?_⟩ (by dsimp only; rw [w64n (by omega)]; omega)
    have e : wireV (fs.take (i + 1)) = wireV (fs.take i) ++ frameV (bytesF f) := by
      rw [List.take_add_one, a0]
      simp [wireV]
    rw [e]
    exact w4
  · have : i = fs.length := by omega
    subst this
    rw [List.take_length] at w1
    exact hq z d h1 o1 w1
theorem out24_ok {p : Option Addr} {held : List Int} {lost : Nat} {s : SS} {out : List (List Int)} {c h : Hp} {l : List Hp} (o : On h (c :: l)) (w : IsLine p held lost s out c) (hn : out.length ≤ 1000)
    {Q : Sl → Hp → Prop} (hq : ∀ sl ss c' r' h', On h' (c' :: r' :: l) → IsLine p held lost s [] c' → Row cSl r' sl ss → Rows2 r' ss out → Q sl h') : callP Try.prog 112 [Value.pointer p] cSl h Q := by
  obtain ⟨b, pf, ps, pb, cf, cs, cb, rfl, oc, wf, ws, wb⟩ := w
  refine c112 ?_
  unfold F112
  dsimp only [nilP]
  have os : On h (ob b (cellsLn pf ps pb) 169 :: cf :: cs :: cb :: l) := o.split oc
  refine cond_f rfl ?_
  have oi : On h (ob b (cellsLn pf ps pb) 169 :: Hp.emp :: Hp.emp :: cf :: cs :: cb :: l) := os.emp.emp.pick [2, 0, 1] 3 (by decide) (by decide)
  refine loop_n (fun n z h' => ∃ (don rest : List (List Int)) (sls : List Sl) (dO rx cb : Hp), n = rest.length ∧ out = don ++ rest ∧ On h' (ob b (cellsLn pf ps pb) 169 :: dO :: rx :: cf :: cs :: cb :: l) ∧ Own cSl dO z sls ∧ Rows2 rx sls don ∧ IsBox pb 256 rest false cb) out.length
    ⟨[], out, [], Hp.emp, Hp.emp, cb, rfl, rfl, oi, Own.nil _, trivial, wb⟩ ?_
  rintro J n z h1 again ⟨don, rest, sls, dO, rx, cb, rfl, rfl, o1, wo, rr, wb⟩
  have hsl := rr.len
  rw [List.length_append] at hn
  refine load_ob (x := pb) o1 0 rfl rfl ?_
  have o1' : On h1 (cb :: ob b (cellsLn pf ps pb) 169 :: dO :: rx :: cf :: cs :: l) := o1.pick [5, 0, 1, 2, 3, 4] 6 (by decide) (by decide)
  refine take_ok o1' wb (fun hnil => ?_) fun bs q' s2 d2 cb2 h2 hbs o2 wb2 w2 => ?_
  · subst hnil
    refine cond_t rfl ?_
    obtain ⟨o6, o7⟩ := On.joined (cs := [ob b (cellsLn pf ps pb) 169, cf, cs, cb]) (l := dO :: rx :: l) (o1.pick [0, 3, 4, 5, 1, 2] 6 (by decide) (by decide))
    obtain ⟨o8, o9⟩ := On.joined (cs := [dO, rx]) (o6.pick [1, 2, 0] 3 (by decide) (by decide))
    rw [List.append_nil] at hq
    exact hq z sls _ _ h1 o8.swap ⟨b, pf, ps, pb, cf, cs, cb, rfl, o7, wf, ws, wb⟩ (wo.row.sub (o9.mem (by simp))) (Rows2.sub (o9.mem (by simp)) rr)
  · subst hbs
    refine cond_f rfl ?_
    have o2' : On h2 (d2 :: ob b (cellsLn pf ps pb) 169 :: dO :: rx :: cf :: cs :: cb2 :: l) := o2.pick [1, 2, 3, 4, 5, 6, 0] 7 (by decide) (by decide)
    refine more_ok o2' wo rr w2 (by omega) fun p3 n3 m3 d3 r3 h3 o3 w3 rr3 => ?_
    exact again _ _ _ ⟨don ++ [bs], q', sls ++ [s2], d3, r3, cb2, rfl, by simp, o3, w3, rr3, wb2⟩ (by simp)
/-- A message is sent on a line. -/
def lsendV (s : SS) (out : List (List Int)) (m : Msg) : SS × List (List Int) × Bool :=
  if (sendV s m).2.2 = true then ((goesV ((sendV s m).1, out, false) [(sendV s m).2.1]).1, (goesV ((sendV s m).1, out, false) [(sendV s m).2.1]).2.1, !(goesV ((sendV s m).1, out, false) [(sendV s m).2.1]).2.2)
  else ((sendV s m).1, out, false)
theorem send24_ok {p : Option Addr} {held : List Int} {lost : Nat} {s : SS} {out : List (List Int)} {m : Msg} {c h : Hp} {l : List Hp} (o : On h (c :: l)) (w : IsLine p held lost s out c) (hl : s.all.length ≤ 1000000) (hw : wfF (mkF (s.all.length + 1 : Nat) m))
    {Q : Bool → Hp → Prop} (hq : ∀ c' h', On h' (c' :: l) → IsLine p held lost (lsendV s out m).1 (lsendV s out m).2.1 c' → Q (lsendV s out m).2.2 h') : callP Try.prog 115 [Value.pointer p, cMsg.enc m] cB h Q := by
  obtain ⟨b, pf, ps, pb, cf, cs, cb, rfl, oc, wf, ws, wb⟩ := w
  refine c115 ?_
  unfold F115
  dsimp only [nilP]
  have os : On h (ob b (cellsLn pf ps pb) 169 :: cf :: cs :: cb :: l) := o.split oc
  refine cond_f rfl ?_
  refine load_ob (x := ps) os 0 rfl rfl ?_
  unfold lsendV at hq
  refine send10_ok (m := m) (os.pick [2, 0, 1, 3] 4 (by decide) (by decide)) ws hl fun cs2 h2 o2 w2 => ?_
  have o2' : On h2 (ob b (cellsLn pf ps pb) 169 :: cf :: cs2 :: cb :: l) := o2.pick [1, 2, 0, 3] 4 (by decide) (by decide)
  refine cond_i (fun e => ?_) fun e => ?_
  · rw [if_pos e] at hq
    have hfr : wfF (sendV s m).2.1 := by
      unfold sendV at e ⊢
      split at e
      · cases e
      · rename_i hc
        rw [if_neg hc]; exact hw
    refine one_ok (x := (sendV s m).2.1) o2' fun k3 d3 h3 o3 r3 w3 => ?_
    have o3' : On h3 (ob b (cellsLn pf ps pb) 169 :: cf :: cs2 :: cb :: d3 :: l) := o3.pick [1, 2, 3, 4, 0] 5 (by decide) (by decide)
    refine goes24_ok (p1 := ⟨some ⟨k3, 0, none⟩, 1, 1⟩) o3' w2 wb (g := d3) (by simp) r3 (by intro f hf; rw [List.mem_singleton] at hf; subst hf; exact hfr) (by simp) fun cs4 cb4 h4 o4 ws4 wb4 => ?_
    obtain ⟨o6, o7⟩ := On.joined (cs := [ob b (cellsLn pf ps pb) 169, cf, cs4, cb4]) (l := l) (o4.pick [0, 1, 2, 3] 5 (by decide) (by decide))
    exact hq _ h4 o6 ⟨b, pf, ps, pb, cf, cs4, cb4, rfl, o7, wf, ws4, wb4⟩
  · rw [if_neg (by rw [e]; simp)] at hq
    obtain ⟨o6, o7⟩ := On.joined (cs := [ob b (cellsLn pf ps pb) 169, cf, cs2, cb]) (l := l) o2'
    exact hq _ h2 o6 ⟨b, pf, ps, pb, cf, cs2, cb, rfl, o7, wf, w2, wb⟩
end Go.Proofs.Ytmkgcdgpokidjaa

/- Chapter 24: what is known. -/
namespace Go.Proofs.Ytmkgcdgpokidjaa
open Go.Eng

theorem logF_wf {v : Int} (h : I64 v) : wfF (logF v) := ownF_wf (by unfold I64; omega) h
theorem logF_ok (v : Int) : okF (logF v) = true := by
  have : isV ⟨1, v, 0, 0, 0, 0, 0⟩ = true := isV_mk (k := 1) (l := [v]) (by decide) (by simp [manyV, manyL])
  show (isV ⟨1, v, 0, 0, 0, 0, 0⟩ && decide ((0 : Int) ≤ 0)) = true
  rw [this]; rfl
theorem wireV_frames {fs : List Frame} (h : ∀ f ∈ fs, wfF f) : flowV (wireV fs) = (fs.map bytesF, [], 0) := by
  have e : wireV fs = ((fs.map bytesF).map frameV).flatten := by rw [List.map_map]; rfl
  rw [e]
  refine flowV_frames _ fun b hb => ?_
  obtain ⟨f, hf, rfl⟩ := List.mem_map.1 hb
  exact bytesF_len (h f hf)
theorem hear_frame {f : Frame} (hk : okF f = true) (hw : wfF f) (st : SS × List (List Int) × List Frame × Bool) : hearV st (bytesF f) =
    ((goesV ((takeV st.1 f).1, st.2.1, false) (takeV st.1 f).2.1).1, (goesV ((takeV st.1 f).1, st.2.1, false) (takeV st.1 f).2.1).2.1,
      if (takeV st.1 f).2.2.2.1 = true then st.2.2.1 ++ [mkF f.Seq (takeV st.1 f).2.2.1] else st.2.2.1,
      st.2.2.2 || ((takeV st.1 f).2.2.2.2 || (goesV ((takeV st.1 f).1, st.2.1, false) (takeV st.1 f).2.1).2.2)) := by
  unfold hearV
  rw [readV_bytes hw hk]
theorem hear_log {s : SS} {out : List (List Int)} {fr : List Frame} {bad : Bool} {v : Int} (hg : ¬ Gone s.all.length v) (hd : s.all.drop (v - 1).toNat = []) (ho : out.length < 256) (hI : I64 v) :
    hearV (s, out, fr, bad) (bytesF (logF v)) = ({ s with up := true, asked := 0, sent := 0, heard := 0 }, out ++ [frameV (bytesF (ownF 1 s.want))], fr, bad) := by
  rw [hear_frame (logF_ok v) (logF_wf hI)]
  dsimp only
  rw [take_logv, log_on hg, hd]
  have e : ∀ s' : SS, goesV (s', out, false) [ownF 1 s.want] = (s', out ++ [frameV (bytesF (ownF 1 s.want))], false) := fun s' => by
    show goes1 (s', out, false) (ownF 1 s.want) = _
    unfold goes1
    rw [if_pos ho]
  dsimp only
  rw [e]
  simp
theorem known24_ok {h : Hp} {l : List Hp} (o : On h l) {Q : Bool → Hp → Prop} (hq : ∀ h', On h' l → Q true h') : callP Try.prog 114 [] cB h Q := by
  refine c114 ?_
  unfold F114
  have h1w : ∀ f ∈ [logF 1], wfF f := by intro f hf; rw [List.mem_singleton] at hf; subst hf; exact logF_wf (by unfold I64; omega)
  refine new24_ok o (fun h => by omega) fun _ _ p c h1 o1 w1 => ?_
  refine of1_one o1 fun h2 o2 => ?_
  refine one_ok (x := logF 1) o2 fun k3 d3 h3 o3 r3 w3 => ?_
  refine wire24_ok (p0 := ⟨some ⟨k3, 0, none⟩, 1, 1⟩) o3 (g := d3) (by simp) r3 h1w (by simp) fun s4 d4 h4 o4 w4 => ?_
  have hwl := wireV_len h1w
  rw [List.length_singleton] at hwl
  have o4' : On h4 (c :: d4 :: d3 :: l) := o4.pick [2, 0, 1] 3 (by decide) (by decide)
  refine bytes24_ok o4' w1 (g := d4) (by simp) w4.row (by intro x hx; cases hx) (wireV_byte h1w) (by rw [List.length_nil]; omega) (by omega) (by intro f hf; cases hf) (Nat.zero_le _) (by show 1 ≤ 100000; omega) fun sl5 d5 c5 h5 o5 w5 wf5 => ?_
  have ef : (flowV ([] ++ wireV [logF 1])).1.foldl hearV (newV (Int.toNat 3), [], [], false) = (⟨3, true, 1, [], 0, 0, 0⟩, [frameV (bytesF (logF 1))], [], false) := by
    rw [List.nil_append, wireV_frames h1w]
    show hearV (newV 3, [], [], false) (bytesF (logF 1)) = _
    rw [hear_log gone_0 rfl (by simp) (by unfold I64; omega)]
    rfl
  rw [ef] at w5 ⊢
  dsimp only at w5 ⊢
  refine out24_ok o5 w5 (by simp) fun sl6 ss6 c6 r6 h6 o6 w6 rs6 rr6 => ?_
  have hl6 := rs6.1
  have hl6' := rr6.len
  rw [hl6', List.length_singleton] at hl6
  obtain ⟨s8, rfl⟩ : ∃ x, ss6 = [x] := by
    match ss6, hl6' with
    | [x], _ => exact ⟨x, rfl⟩
  refine cond_t rfl (up24_ok (o6.mem (by simp)) w6 (cond_t rfl (cond_t (by rw [hl6]; rfl) ?_)))
  refine idx_row rs6 (by omega) (by simp) fun a ha => load_row rs6 (o6.mem (by simp)) rfl ha (i := 0) (m := 0) rfl rfl ?_
  refine str_row rr6.1 (o6.mem (by simp)) (str_row w4.row (o6.mem (by simp)) (cond_t ?_ ?_))
  · have e : wireV [logF 1] = frameV (bytesF (logF 1)) := by simp [wireV]
    rw [e, strEq_self]
  · refine new24_ok o6 (fun _ => ?_) (fun h => by omega)
    exact hq _ o6.tail.tail.tail.tail.tail
theorem hear_acc : ∀ (bs : List (List Int)) (s : SS) (out : List (List Int)) (fr : List Frame) (bad : Bool),
    bs.foldl hearV (s, out, fr, bad) = ((bs.foldl hearV (s, out, [], false)).1, (bs.foldl hearV (s, out, [], false)).2.1, fr ++ (bs.foldl hearV (s, out, [], false)).2.2.1, bad || (bs.foldl hearV (s, out, [], false)).2.2.2)
  | [], s, out, fr, bad => by simp
  | b :: bs, s, out, fr, bad => by
    rw [List.foldl_cons, List.foldl_cons]
    cases hr : readV b with
    | none =>
      have e : ∀ st, hearV st b = st := fun st => by unfold hearV; rw [hr]
      rw [e, e]
      exact hear_acc bs s out fr bad
    | some x =>
      have e : ∀ fr bad, hearV (s, out, fr, bad) b = ((goesV ((takeV s x).1, out, false) (takeV s x).2.1).1, (goesV ((takeV s x).1, out, false) (takeV s x).2.1).2.1,
        if (takeV s x).2.2.2.1 = true then fr ++ [mkF x.Seq (takeV s x).2.2.1] else fr, bad || ((takeV s x).2.2.2.2 || (goesV ((takeV s x).1, out, false) (takeV s x).2.1).2.2)) := fun fr bad => by unfold hearV; rw [hr]
      rw [e, e]
      rw [hear_acc bs _ _ (if (takeV s x).2.2.2.1 = true then fr ++ [mkF x.Seq (takeV s x).2.2.1] else fr), hear_acc bs _ _ (if (takeV s x).2.2.2.1 = true then [] ++ [mkF x.Seq (takeV s x).2.2.1] else [])]
      split <;> simp [Bool.or_assoc]
end Go.Proofs.Ytmkgcdgpokidjaa

/- Chapter 24: the law of noise. -/
namespace Go.Proofs.Ytmkgcdgpokidjaa
open Go.Eng

theorem resF_wf {q v : Int} (hq : I64 q) (hv : I64 v) : wfF (resF q v) := by
  intro n hn
  have hn : n ∈ [q, 12, v, 0, 0, 0, 0, 0] := hn
  simp only [List.mem_cons, List.not_mem_nil, or_false] at hn
  rcases hn with rfl | rfl | rfl | rfl | rfl | rfl | rfl | rfl
  · exact hq
  · unfold I64; omega
  · exact hv
  all_goals (unfold I64; omega)
theorem resF_ok {q v : Int} (hq : 0 ≤ q) : okF (resF q v) = true := by
  have : isV ⟨12, v, 0, 0, 0, 0, 0⟩ = true := isV_mk (k := 12) (l := [v]) (by decide) (by simp [manyV, manyL])
  show (isV ⟨12, v, 0, 0, 0, 0, 0⟩ && decide (0 ≤ q)) = true
  rw [this, decide_eq_true hq]; rfl
/-- Noise, then one frame. -/
theorem noisy_flow {noise : List Int} {f : Frame} (hn : ∀ b ∈ noise, b ≠ 197) (hw : wfF f) : flowV (noise ++ wireV [f]) = ([bytesF f], [], noise.length) := by
  rw [flowV_noise noise _ hn, wireV_frames (by intro x hx; rw [List.mem_singleton] at hx; subst hx; exact hw)]
  rfl
/-- What a line that is up, and wants the first one, hears of a result's frame. -/
theorem hear_res {a s b : Nat} {out : List (List Int)} {q : Int} (h1 : 1 ≤ q) (h9 : q ≤ 9) (ho : out.length < 256) :
    ∃ (s' : SS) (out' : List (List Int)), s'.up = true ∧ hearV (⟨5, true, 1, [], a, s, b⟩, out, [], false) (bytesF (resF q 4)) = (s', out', if q = 1 then [mkF 1 ⟨12, 4, 0, 0, 0, 0, 0⟩] else [], false) := by
  rw [hear_frame (resF_ok (by omega)) (resF_wf (by unfold I64; omega) (by unfold I64; omega))]
  dsimp only
  rw [take_res rfl (Nat.le_refl _)]
  by_cases hq : q = 1
  · subst hq
    refine ⟨_, _, ?_, rfl⟩
    rfl
  · rw [if_neg (show ¬ q = ((1 : Nat) : Int) by omega), if_neg hq]
    by_cases hc : ((1 : Nat) : Int) < q ∧ a ≠ 1
    · rw [if_pos hc]
      dsimp only
      have e : ∀ s' : SS, goesV (s', out, false) [ownF 4 1] = (s', out ++ [frameV (bytesF (ownF 4 1))], false) := fun s' => by
        show goes1 (s', out, false) (ownF 4 1) = _
        unfold goes1
        rw [if_pos ho]
      exact ⟨⟨5, true, 1, [], 1, 0, 0⟩, out ++ [frameV (bytesF (ownF 4 1))], rfl, by rw [show ownF 4 ((1 : Nat) : Int) = ownF 4 1 from rfl, e]; rfl⟩
    · rw [if_neg hc]
      exact ⟨_, _, rfl, rfl⟩
theorem noise24 {g : Hp} {p0 : Sl} {p1 : Int} {ns : List Int} (r : Row (cI .u8) g p0 ns) (hb : Bytes ns) : F40 p0 p1 g (Lawful g) := by
  unfold F40
  have hl := r.1
  refine join_i (fun t h1 => h1 = g ∧ (t = false → ns.length ≤ 100 ∧ 1 ≤ p1 ∧ p1 ≤ 9)) ?_ fun J hJ => ?_
  · rintro t h1 ⟨rfl, hf⟩
    refine cond_i (fun _ => ⟨rfl, Hp.sub_refl _⟩) fun e => ?_
    obtain ⟨h100, ha, hb9⟩ := hf e
    clear hf
    refine loop_i (fun z h' => ∃ i : Nat, z = i ∧ i ≤ ns.length ∧ h' = h1 ∧ ∀ b ∈ ns.take i, b ≠ 197) (fun z => ns.length - z.toNat) ⟨0, rfl, Nat.zero_le _, rfl, by intro b hb; cases hb⟩ ?_
    rintro J1 z h2 again ⟨i, rfl, hle, rfl, hno⟩
    refine cond_d (fun hi => ?_) fun hi => ?_
    · have hi : i < ns.length := by omega
      have a0 : ns[i]? = some ns[i] := List.getElem?_eq_getElem hi
      generalize ns[i] = x at a0
      refine idx_row r (Int.natCast_nonneg i) (by omega) fun a ha => load_row r (Hp.sub_refl _) rfl ha (i := i) a0 (by simp) ?_
      refine cond_i (fun _ => ⟨rfl, Hp.sub_refl _⟩) fun hx => ?_
      have hx : x ≠ 197 := by simpa using hx
      refine again _ _ ⟨i + 1, w64n (by omega), by omega, rfl, ?_⟩ (by rw [w64n (by omega)]; omega)
      intro b hb
      rw [List.take_add_one, a0] at hb
      rcases List.mem_append.1 hb with hb | hb
      · exact hno b hb
      · simp at hb; subst hb; exact hx
    · obtain rfl : i = ns.length := by omega
      rw [List.take_length] at hno
      refine new24_ok (On.self h2) (fun h => by omega) fun _ _ p c h3 o3 w3 => ?_
      refine alloc_ob o3 fun k4 h4 o4 => ?_
      have w4 : Own (cI .u8) (ob k4 [] 5) ⟨some ⟨k4, 0, none⟩, 0, 0⟩ [] := own_ob (cd := cI .u8) (xs := []) (rest := []) rfl rfl rfl
      refine append_own (g := h2) (s := ⟨some ⟨k4, 0, none⟩, 0, 0⟩) (t := p0) o4 rfl w4 (by decide) r (o4.mem (by simp)) (by unfold roomP; simp; omega) fun d5 p5 n5 m5 h5 o5 w5 => ?_
      rw [List.nil_append] at w5
      refine of1_one o5 fun h6 o6 => ?_
      have h1w : ∀ f ∈ [logF 1], wfF f := by intro f hf; rw [List.mem_singleton] at hf; subst hf; exact logF_wf (by unfold I64; omega)
      refine one_ok (x := logF 1) o6 fun k7 d7 h7 o7 r7 w7 => ?_
      refine wire24_ok (p0 := ⟨some ⟨k7, 0, none⟩, 1, 1⟩) o7 (g := d7) (by simp) r7 h1w (by simp) fun s8 d8 h8 o8 w8 => ?_
      have hwl := wireV_len h1w
      rw [List.length_singleton] at hwl
      have o8' : On h8 (d5 :: d8 :: d7 :: c :: h2 :: []) := o8.pick [2, 0, 1, 3, 4] 5 (by decide) (by decide)
      refine append_own (g := d8) (s := ⟨p5, n5, m5⟩) (t := s8) o8' rfl w5 (by decide) w8.row (o8'.mem (by simp)) (by unfold roomP; omega) fun d9 p9 n9 m9 h9 o9 w9 => ?_
      have o9' : On h9 (c :: d9 :: h2 :: []) := o9.pick [3, 0, 4] 5 (by decide) (by decide)
      have hb1 : Bytes (ns ++ wireV [logF 1]) := by
        intro x hx
        rcases List.mem_append.1 hx with hx | hx
        · exact hb x hx
        · exact wireV_byte h1w x hx
      refine bytes24_ok o9' w3 (m := ⟨p9, n9, m9⟩) (g := d9) (by simp) w9.row (by intro x hx; cases hx) hb1 (by rw [List.length_nil, List.length_append]; omega) (by omega) (by intro f hf; cases hf) (Nat.zero_le _) (by show 1 ≤ 100000; omega) fun sl10 d10 c10 h10 o10 w10 wf10 => ?_
      have ef : (flowV ([] ++ (ns ++ wireV [logF 1]))).1.foldl hearV (newV (Int.toNat 5), [], [], false) = (⟨5, true, 1, [], 0, 0, 0⟩, [frameV (bytesF (logF 1))], [], false) := by
        rw [List.nil_append, noisy_flow hno (logF_wf (by unfold I64; omega))]
        show hearV (newV 5, [], [], false) (bytesF (logF 1)) = _
        rw [hear_log gone_0 rfl (by simp) (by unfold I64; omega)]
        rfl
      rw [ef, List.nil_append, noisy_flow hno (logF_wf (by unfold I64; omega))] at w10
      dsimp only at w10
      refine alloc_ob o10 fun k11 h11 o11 => ?_
      have w11 : Own (cI .u8) (ob k11 [] 5) ⟨some ⟨k11, 0, none⟩, 0, 0⟩ [] := own_ob (cd := cI .u8) (xs := []) (rest := []) rfl rfl rfl
      refine append_own (g := h2) (s := ⟨some ⟨k11, 0, none⟩, 0, 0⟩) (t := p0) o11 rfl w11 (by decide) r (o11.mem (by simp)) (by unfold roomP; simp; omega) fun d12 p12 n12 m12 h12 o12 w12 => ?_
      rw [List.nil_append] at w12
      refine of1_one o12 fun h13 o13 => ?_
      have hI : I64 p1 := by unfold I64; omega
      have h2w : ∀ f ∈ [resF p1 4], wfF f := by intro f hf; rw [List.mem_singleton] at hf; subst hf; exact resF_wf hI (by unfold I64; omega)
      refine one_ok (x := resF p1 4) o13 fun k14 d14 h14 o14 r14 w14 => ?_
      refine wire24_ok (p0 := ⟨some ⟨k14, 0, none⟩, 1, 1⟩) o14 (g := d14) (by simp) r14 h2w (by simp) fun s15 d15 h15 o15 w15 => ?_
      have hwl2 := wireV_len h2w
      rw [List.length_singleton] at hwl2
      have o15' : On h15 (d12 :: d15 :: d14 :: c10 :: d10 :: d9 :: h2 :: []) := o15.pick [2, 0, 1, 3, 4, 5, 6] 7 (by decide) (by decide)
      refine append_own (g := d15) (s := ⟨p12, n12, m12⟩) (t := s15) o15' rfl w12 (by decide) w15.row (o15'.mem (by simp)) (by unfold roomP; omega) fun d16 p16 n16 m16 h16 o16 w16 => ?_
      have o16' : On h16 (c10 :: d16 :: h2 :: []) := o16.pick [3, 0, 6] 7 (by decide) (by decide)
      have hb2 : Bytes (ns ++ wireV [resF p1 4]) := by
        intro x hx
        rcases List.mem_append.1 hx with hx | hx
        · exact hb x hx
        · exact wireV_byte h2w x hx
      refine bytes24_ok o16' w10 (m := ⟨p16, n16, m16⟩) (g := d16) (by simp) w16.row (by intro x hx; cases hx) hb2 (by rw [List.length_nil, List.length_append]; omega) (by omega) (by intro f hf; cases hf) (Nat.zero_le _) (by show 1 ≤ 100000; omega) fun sl17 d17 c17 h17 o17 w17 wf17 => ?_
      obtain ⟨s', out', hup, eh⟩ := hear_res (a := 0) (s := 0) (b := 0) (out := [frameV (bytesF (logF 1))]) ha hb9 (by simp)
      have ef2 : (flowV ([] ++ (ns ++ wireV [resF p1 4]))).1.foldl hearV (⟨5, true, 1, [], 0, 0, 0⟩, [frameV (bytesF (logF 1))], [], false) = (s', out', if p1 = 1 then [mkF 1 ⟨12, 4, 0, 0, 0, 0, 0⟩] else [], false) := by
        rw [List.nil_append, noisy_flow hno (resF_wf hI (by unfold I64; omega))]
        exact eh
      rw [ef2] at w17 wf17 ⊢
      dsimp only at w17 wf17 ⊢
      refine up24_ok (o17.mem (by simp)) w17 (cond_t hup (cond_t rfl ?_))
      have hl17 := wf17.1
      by_cases hq : p1 = 1
      · subst hq
        rw [if_pos rfl] at wf17 hl17
        refine cond_t (by rw [hl17]; rfl) (cond_f rfl ?_)
        refine idx_row wf17.row (by omega) (by rw [List.length_singleton]; omega) fun a ha => load_row wf17.row (o17.mem (by simp)) rfl ha (i := 0) (m := 0) (x := mkF 1 ⟨12, 4, 0, 0, 0, 0, 0⟩) rfl rfl ?_
        refine of1_one o17 fun h18 o18 => ?_
        refine ⟨⟨rds_row (i := 0) (m := 0) (x := mkF 1 ⟨12, 4, 0, 0, 0, 0, 0⟩) wf17.row (o18.mem (by simp)) rfl ha rfl rfl, trivial⟩, cond_t rfl ?_⟩
        exact known24_ok o18 fun h' o' => ⟨rfl, o'.mem (by simp)⟩
      · rw [if_neg hq] at wf17 hl17
        have e1 : (p1 == 1) = false := by simpa using hq
        have e2 : (p1 != 1) = true := by simp [hq]
        refine cond_t (by rw [hl17, e1]; rfl) (cond_t e2 ⟨⟨trivial, trivial⟩, ?_⟩)
        exact known24_ok o17 fun h' o' => ⟨rfl, o'.mem (by simp)⟩
  · refine cond_d (fun _ => hJ _ _ ⟨rfl, fun h => by cases h⟩) fun e1 => ?_
    refine cond_d (fun _ => hJ _ _ ⟨rfl, fun h => by cases h⟩) fun e2 => ?_
    refine hJ _ _ ⟨rfl, fun h => ⟨by omega, by omega, ?_⟩⟩
    have h := of_decide_eq_false h
    omega
theorem lineNoise_law (W : World) (p0 : Sl) (p1 : Int) (o0 : Opn Try.prog W 25 [.slice p0.a p0.len p0.cap]) (_o1 : Opn Try.prog W 2 [.int .i64 p1]) : F40 p0 p1 (hpOf W) (Lawful (hpOf W)) := by
  obtain ⟨ns, h1, h2, _⟩ := bytes_of o0
  exact noise24 h1 h2
end Go.Proofs.Ytmkgcdgpokidjaa
