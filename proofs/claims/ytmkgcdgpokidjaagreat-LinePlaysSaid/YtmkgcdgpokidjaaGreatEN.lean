/- Two operations change places. -/
import Derived.Test.YtmkgcdgpokidjaaGreatEM
set_option linter.unusedVariables false
namespace Go.Eng
section
variable {A : Ann} {P : Program} {N : Nat} {ops : Array Oper} {env env2 : Env} {h : Hp} {K K' : Env → Hp → Prop}

/-- What an operation looks at is the same. -/
def AgreeO (A : Ann) (ops : Array Oper) (o : Oper) (env env2 : Env) : Prop :=
  (∀ x ∈ o.op.operands, look A env x = look A env2 x) ∧ ∀ s want, guardSlot ops o = some (s, want) → env s = env2 s

def heapRel (cl : Cls) (h h' : Hp) : Prop :=
  match cl with
  | .w => True
  | .a => h' = h ∨ ∃ b o, h b = none ∧ h' = h.upd b o
  | _ => h' = h

theorem heapRel_refl (cl : Cls) (h : Hp) : heapRel cl h h := by cases cl <;> first | rfl | trivial | exact .inl rfl

theorem Gate.agree {o : Oper} {g : Bool} (hg : Gate ops o env g) (ag : AgreeO A ops o env env2) : Gate ops o env2 g := by
  cases hg with
  | free hg => exact .free hg
  | at_ s want b g hg hs he => exact .at_ s want b g hg hs (by rw [← ag.2 s want hs]; exact he)
  | not_ s want g hg hs he => exact .not_ s want g hg hs (by rw [← ag.2 s want hs]; exact he)

theorem runD_trans {o : Oper} (hk : runD A P o env h K) (ag : AgreeO A ops o env env2)
    (hKK : ∀ d, d = o.dst ∨ d = effDst A o → ∀ e h', heapRel (cls A P o) h h' → K (put A env d e) h' → K' (put A env2 d e) h') : runD A P o env2 h K' := by
  unfold runD at hk ⊢
  cases hc : cls A P o with
  | p =>
    rw [hc] at hk hKK
    dsimp only at hk ⊢
    rw [opP_congr ag.1] at hk
    obtain ⟨e, h1, h2⟩ := opP_lin o _ _ hk
    exact h2 _ (hKK _ (.inr rfl) e h rfl h1)
  | c =>
    rw [hc] at hk hKK
    dsimp only at hk ⊢
    rw [opC_congr ag.1] at hk
    obtain ⟨e, h1, h2⟩ := opC_lin o _ _ hk
    exact h2 _ (hKK _ (.inl rfl) e h rfl h1)
  | r =>
    rw [hc] at hk hKK
    dsimp only at hk ⊢
    rw [opR_congr ag.1] at hk
    obtain ⟨e, h1, h2⟩ := opR_lin o _ _ _ hk
    exact h2 _ _ (Hp.sub_refl h) (hKK _ (.inl rfl) e h rfl h1)
  | a =>
    rw [hc] at hk hKK
    dsimp only at hk ⊢
    rw [opA_congr ag.1] at hk
    obtain ⟨ob, f, h1, h2⟩ := opA_lin o _ _ hk
    exact h2 _ fun b hb => hKK _ (.inl rfl) _ _ (.inr ⟨b, ob, hb, rfl⟩) (h1 b hb)
  | w =>
    rw [hc] at hk hKK
    dsimp only at hk ⊢
    rw [opW_congr ag.1] at hk
    exact opW_mono o _ h _ _ (fun e h' hk => hKK _ (.inl rfl) e h' trivial hk) hk

theorem stepD_trans {o : Oper} (hk : stepD A P N ops o env h K) (ag : AgreeO A ops o env env2)
    (hKK : ∀ d, d = o.dst ∨ d = effDst A o → ∀ e h', heapRel (cls A P o) h h' → K (put A env d e) h' → K' (put A env2 d e) h') : stepD A P N ops o env2 h K' := by
  obtain ⟨hd, g, hg, h1, h2⟩ := stepD_gate hk
  exact stepD_of_gate hd (hg.agree ag) (fun e => runD_trans (h1 e) ag hKK) (fun e => hKK _ (.inl rfl) (.val undef) h (heapRel_refl _ h) (h2 e))

theorem AgreeO.refl (o : Oper) (env : Env) : AgreeO A ops o env env := ⟨fun _ _ => rfl, fun _ _ _ => rfl⟩
theorem stepD_mono {o : Oper} (hk : stepD A P N ops o env h K) (hKK : ∀ e h', K e h' → K' e h') : stepD A P N ops o env h K' :=
  stepD_trans hk (AgreeO.refl o env) fun _ _ _ _ _ hk => hKK _ _ hk

def isLin (cl : Cls) : Bool :=
  match cl with
  | .p | .c | .r => true
  | _ => false

theorem stepD_lin {o : Oper} (hl : isLin (cls A P o) = true) (hk : stepD A P N ops o env h K) :
    ∃ d e, (d = o.dst ∨ d = effDst A o) ∧ K (put A env d e) h ∧
      ∀ env2 h2 K', AgreeO A ops o env env2 → (cls A P o = .r → h.sub h2) → K' (put A env2 d e) h2 → stepD A P N ops o env2 h2 K' := by
  obtain ⟨hd, g, hg, h1, h2⟩ := stepD_gate hk
  cases g with
  | false => exact ⟨o.dst, .val undef, .inl rfl, h2 rfl, fun env2 h2 K' ag _ hk' => stepD_of_gate hd (hg.agree ag) (fun e => by cases e) (fun _ => hk')⟩
  | true =>
    have hr := h1 rfl
    unfold runD at hr
    cases hc : cls A P o with
    | p =>
      rw [hc] at hr
      obtain ⟨e, k1, k2⟩ := opP_lin o _ _ hr
      refine ⟨effDst A o, e, .inr rfl, k1, fun env2 h2 K' ag _ hk' => stepD_of_gate hd (hg.agree ag) (fun _ => ?_) (fun e => by cases e)⟩
      unfold runD
      rw [hc]
      dsimp only
      rw [← opP_congr ag.1]
      exact k2 _ hk'
    | c =>
      rw [hc] at hr
      obtain ⟨e, k1, k2⟩ := opC_lin o _ _ hr
      refine ⟨o.dst, e, .inl rfl, k1, fun env2 h2 K' ag _ hk' => stepD_of_gate hd (hg.agree ag) (fun _ => ?_) (fun e => by cases e)⟩
      unfold runD
      rw [hc]
      dsimp only
      rw [← opC_congr ag.1]
      exact k2 _ hk'
    | r =>
      rw [hc] at hr
      obtain ⟨e, k1, k2⟩ := opR_lin o _ _ _ hr
      refine ⟨o.dst, e, .inl rfl, k1, fun env2 h2 K' ag hs hk' => stepD_of_gate hd (hg.agree ag) (fun _ => ?_) (fun e => by cases e)⟩
      unfold runD
      rw [hc]
      dsimp only
      rw [← opR_congr ag.1]
      exact k2 _ _ (hs rfl) hk'
    | a => rw [hc] at hl; cases hl
    | w => rw [hc] at hl; cases hl

/-! ### apart -/
def apartB (A : Ann) (ops : Array Oper) (x y : Oper) : Bool :=
  (writesO A x).all (fun d => !(readsO A ops y).contains d && (writesO A y).all fun e => slotsApart A d e) &&
  (writesO A y).all fun e => !(readsO A ops x).contains e

theorem mem_writes {o : Oper} {d : Nat} (hd : some d = o.dst ∨ some d = effDst A o) : d ∈ writesO A o := by
  unfold writesO
  rcases hd with h | h <;> rw [← h] <;> simp

theorem agree_put (hA : A.good) {o : Oper} {d : Nat} (hd : d ∉ readsO A ops o) (ev : EV) : AgreeO A ops o (put A env (some d) ev) env := by
  unfold readsO at hd
  simp only [List.mem_append, List.mem_flatMap, not_or, not_exists, not_and] at hd
  refine ⟨fun x hx => look_put hA (hd.1 x (by simpa using hx)), fun s want hs => ?_⟩
  have h2 := hd.2
  rw [hs] at h2
  simp only [List.mem_cons, Option.mem_toList, not_or] at h2
  rcases put_ne (A := A) (env := env) ev (Ne.symm h2.1) with h | ⟨_, _, h3⟩
  · exact h
  · exact absurd h3 h2.2
theorem AgreeO.symm {o : Oper} (ag : AgreeO A ops o env env2) : AgreeO A ops o env2 env := ⟨fun x hx => (ag.1 x hx).symm, fun s w hs => (ag.2 s w hs).symm⟩

theorem slotsApart_iff {d e : Nat} : slotsApart A d e = true ↔ d ≠ e ∧ A.refOf d ≠ some e ∧ A.refOf e ≠ some d := by
  unfold slotsApart
  simp only [Bool.and_eq_true, Bool.not_eq_true']
  rw [beqF]
  constructor
  · rintro ⟨h1, h2, h3⟩
    exact ⟨h1, fun h => (by rw [isSomeEq_iff.2 h] at h2; cases h2), fun h => (by rw [isSomeEq_iff.2 h] at h3; cases h3)⟩
  · rintro ⟨h1, h2, h3⟩
    refine ⟨h1, ?_, ?_⟩
    · cases hh : isSomeEq (A.refOf d) e with
      | false => rfl
      | true => exact absurd (isSomeEq_iff.1 hh) h2
    · cases hh : isSomeEq (A.refOf e) d with
      | false => rfl
      | true => exact absurd (isSomeEq_iff.1 hh) h3

theorem put_comm {d e : Nat} (h : slotsApart A d e = true) (u v : EV) : put A (put A env (some d) u) (some e) v = put A (put A env (some e) v) (some d) u := by
  obtain ⟨h1, h2, h3⟩ := slotsApart_iff.1 h
  funext s
  by_cases hd : s = d
  · subst hd
    rw [put_same]
    rcases put_ne (A := A) (env := put A env (some s) u) v h1 with h | ⟨_, _, h4⟩
    · rw [h, put_same]
    · exact absurd h4 h2
  · by_cases he : s = e
    · subst he
      rw [put_same]
      rcases put_ne (A := A) (env := put A env (some s) v) u hd with h | ⟨_, _, h4⟩
      · rw [h, put_same]
      · exact absurd h4 h3
    · simp only [put, beqF.2 hd, beqF.2 he, cond_false]
      cases (A.isProm e && isSomeEq (A.refOf s) e) <;> cases (A.isProm d && isSomeEq (A.refOf s) d) <;> rfl

theorem apartB_iff {x y : Oper} : apartB A ops x y = true ↔ (∀ d ∈ writesO A x, d ∉ readsO A ops y ∧ ∀ e ∈ writesO A y, slotsApart A d e = true) ∧ ∀ e ∈ writesO A y, e ∉ readsO A ops x := by
  unfold apartB
  simp only [Bool.and_eq_true, List.all_eq_true, Bool.not_eq_true', List.contains_eq_mem, decide_eq_false_iff_not]

/-- Slot turns as options. -/
theorem put_comm' {x y : Oper} (hap : apartB A ops x y = true) {d e : Option Tmp} (hd : d = x.dst ∨ d = effDst A x) (he : e = y.dst ∨ e = effDst A y) (u v : EV) :
    put A (put A env d u) e v = put A (put A env e v) d u := by
  cases d with
  | none => rfl
  | some d =>
    cases e with
    | none => rfl
    | some e => exact put_comm ((apartB_iff.1 hap).1 d (mem_writes hd) |>.2 e (mem_writes he)) u v
theorem agree_put_y (hA : A.good) {x y : Oper} (hap : apartB A ops x y = true) {d : Option Tmp} (hd : d = x.dst ∨ d = effDst A x) (u : EV) : AgreeO A ops y (put A env d u) env := by
  cases d with
  | none => exact AgreeO.refl y env
  | some d => exact agree_put hA ((apartB_iff.1 hap).1 d (mem_writes hd)).1 u
theorem agree_put_x (hA : A.good) {x y : Oper} (hap : apartB A ops x y = true) {e : Option Tmp} (he : e = y.dst ∨ e = effDst A y) (u : EV) : AgreeO A ops x (put A env e u) env := by
  cases e with
  | none => exact AgreeO.refl x env
  | some e => exact agree_put hA ((apartB_iff.1 hap).2 e (mem_writes he)) u

def swapCls (ca cb : Cls) : Bool :=
  match ca, cb with
  | .p, _ => true
  | .c, _ => true
  | .r, .w => false
  | .r, _ => true
  | _, _ => false

theorem swap (hA : A.good) {x y : Oper} (hc : swapCls (cls A P x) (cls A P y) = true) (hap : apartB A ops x y = true)
    (hk : stepD A P N ops x env h fun e1 h1 => stepD A P N ops y e1 h1 K) : stepD A P N ops y env h fun e1 h1 => stepD A P N ops x e1 h1 K := by
  have hl : isLin (cls A P x) = true := by
    cases hx : cls A P x <;> rw [hx] at hc <;> first | rfl | cases hc
  obtain ⟨d, e, hd, HY, RX⟩ := stepD_lin hl hk
  refine stepD_trans HY (agree_put_y hA hap hd e) ?_
  intro d2 hd2 e2 h' hrel hK
  refine RX _ _ _ (agree_put_x hA hap hd2 e2).symm ?_ ?_
  · intro hr
    rw [hr] at hc
    cases hy : cls A P y with
    | p => rw [hy] at hrel; simp only [heapRel] at hrel; rw [hrel]; exact Hp.sub_refl h
    | c => rw [hy] at hrel; simp only [heapRel] at hrel; rw [hrel]; exact Hp.sub_refl h
    | r => rw [hy] at hrel; simp only [heapRel] at hrel; rw [hrel]; exact Hp.sub_refl h
    | a =>
      rw [hy] at hrel
      rcases hrel with rfl | ⟨b, o, hb, rfl⟩
      · exact Hp.sub_refl _
      · exact Hp.sub_upd hb o
    | w => rw [hy] at hc; cases hc
  · rw [← put_comm' hap hd hd2]; exact hK

/-- A load may come behind a write if it reads there as it did. -/
theorem swapKept (hA : A.good) {x y : Oper} (hc : cls A P x = .r) (hap : apartB A ops x y = true) (hself : (writesO A x).all (fun d => !(readsO A ops x).contains d) = true)
    (hk : stepD A P N ops x env h fun e1 h1 => stepD A P N ops y e1 h1 fun e2 h2 => keptD A x e2 h2 ∧ K e2 h2) : stepD A P N ops y env h fun e1 h1 => stepD A P N ops x e1 h1 K := by
  obtain ⟨hdo, g, hg, h1, h2⟩ := stepD_gate hk
  have hsl : ∀ d, some d = x.dst ∨ some d = effDst A x → d ∉ readsO A ops x := by
    intro d hd
    have := List.all_eq_true.1 hself d (mem_writes hd)
    simpa using this
  -- kept says: it is a load, and was carried out
  have fin : ∀ (u : EV), stepD A P N ops y (put A env x.dst u) h (fun e2 h2 => keptD A x e2 h2 ∧ K e2 h2) → (g = true → ∀ t ox, x.op = .load t ox → u ≠ .val undef ∧ ∀ c, A.cdc t = some c → fitsT P c t = true) →
      (g = true → ∀ s d ox, x.op = .convert s d ox → u ≠ .val undef ∧ ∃ e, P.underlying s = some (.slice e) ∧ P.underlying d = some .string ∧ P.underlying e = some (.int .u8)) →
      (g = false → u = .val undef) → stepD A P N ops y env h fun e1 h1 => stepD A P N ops x e1 h1 K := by
    intro u HY hfit hcv hgu
    refine stepD_trans HY (agree_put_y hA hap (.inl rfl) u) ?_
    intro d2 hd2 e2 h' _ ⟨hkept, hK⟩
    have agx := (agree_put_x (env := env) hA hap hd2 e2)
    have envF : put A (put A env x.dst u) d2 e2 = put A (put A env d2 e2) x.dst u := put_comm' hap (.inl rfl) hd2 u e2
    rw [envF] at hkept hK
    unfold keptD at hkept
    split at hkept
    · rename_i t ox hop
      split at hkept
      · rename_i d hds
        split at hkept
        · rename_i v hv
          have hu : u = .val v := by
            rw [hds, put_same] at hv; exact hv
          split at hkept
          · -- it was not carried out
            have hgt : g = false := by
              cases g with
              | false => rfl
              | true => exact absurd hu (hfit rfl t ox hop).1
            refine stepD_of_gate hdo (hg.agree agx.symm) (fun e => by rw [hgt] at e; cases e) (fun _ => ?_)
            rw [hu] at hK
            exact hK
          · rename_i hnt
            split at hkept
            · rename_i c ad hcd hlook
              split at hkept
              · rename_i z hz
                have hgt : g = true := by
                  cases g with
                  | true => rfl
                  | false => rw [hgu rfl] at hu; cases hu; exact absurd rfl (hnt ·)
                have hlaw := c.law _ _ hz
                refine stepD_of_gate hdo (hg.agree agx.symm) (fun _ => ?_) (fun e => by rw [hgt] at e; cases e)
                unfold runD
                rw [hc]
                dsimp only
                have hlook' : look A (put A env d2 e2) ox = .v (.pointer (some ad)) := by
                  have hm : ox ∈ x.op.operands := by rw [hop]; simp [Op.operands]
                  have := (agree_put (env := put A env d2 e2) hA (hsl d (.inl hds.symm)) u).1 ox hm
                  rw [← this, ← hds]; exact hlook
                simp only [opR, hop, hcd, hlook', (hfit hgt t ox hop).2 c hcd, cond_true]
                exact ⟨z, hkept, by show K (put A (put A env d2 e2) x.dst (EV.val (c.enc z))) h'; rw [hlaw, ← hu]; exact hK⟩
              · exact hkept.elim
            · exact hkept.elim
        · exact hkept.elim
      · exact hkept.elim
    · rename_i t1 t2 ox hop
      split at hkept
      · rename_i d hds
        split at hkept
        · rename_i v hv
          have hu : u = .val v := by
            rw [hds, put_same] at hv; exact hv
          split at hkept
          · have hgt : g = false := by
              cases g with
              | false => rfl
              | true => exact absurd hu (hcv rfl t1 t2 ox hop).1
            refine stepD_of_gate hdo (hg.agree agx.symm) (fun e => by rw [hgt] at e; cases e) (fun _ => ?_)
            rw [hu] at hK
            exact hK
          · rename_i s
            split at hkept
            · rename_i ad len cap hlook
              have hgt : g = true := by
                cases g with
                | true => rfl
                | false => rw [hgu rfl] at hu; cases hu
              refine stepD_of_gate hdo (hg.agree agx.symm) (fun _ => ?_) (fun e => by rw [hgt] at e; cases e)
              unfold runD
              rw [hc]
              dsimp only
              have hlook' : look A (put A env d2 e2) ox = .v (.slice ad len cap) := by
                have hm : ox ∈ x.op.operands := by rw [hop]; simp [Op.operands]
                have := (agree_put (env := put A env d2 e2) hA (hsl d (.inl hds.symm)) u).1 ox hm
                rw [← this, ← hds]; exact hlook
              obtain ⟨_, e', hu1, hu2, hu3⟩ := hcv hgt t1 t2 ox hop
              simp only [opR, hop, hu1, hu2, hu3, hlook']
              rw [hu] at hK
              cases ad with
              | none => have : ByteArray.empty = s := hkept; subst this; exact hK
              | some ad =>
                obtain ⟨xs, h1, h2, h3⟩ := hkept
                exact ⟨xs, h1, h2, by rw [h3]; exact hK⟩
            · exact hkept.elim
          · exact hkept.elim
        · exact hkept.elim
      · exact hkept.elim
    · exact hkept.elim
  cases g with
  | false => exact fin (.val undef) (h2 rfl) (fun e => by cases e) (fun e => by cases e) (fun _ => rfl)
  | true =>
    have hr := h1 rfl
    unfold runD at hr
    rw [hc] at hr
    dsimp only at hr
    by_cases hload : ∃ t ox, x.op = .load t ox
    · obtain ⟨t, ox, hop⟩ := hload
      simp only [opR, hop] at hr
      split at hr
      · rename_i c ad hcd hx
        cases hq : fitsT P c t with
        | false => rw [hq] at hr; exact hr.elim
        | true =>
          rw [hq] at hr
          obtain ⟨y, _, hk⟩ := hr
          refine fin _ hk ?_ (fun _ s d ox' hop' => by rw [hop] at hop'; cases hop') (fun e => by cases e)
          intro _ t' ox' hop'
          rw [hop] at hop'
          cases hop'
          refine ⟨?_, fun c' hc' => by rw [hcd] at hc'; cases hc'; exact hq⟩
          intro hu
          have hm : c.mem = true := by
            simp only [fitsT, Bool.and_eq_true] at hq
            exact hq.1.1
          have hf := c.form hm y
          have hu : c.enc y = undef := by injection hu
          rw [hu] at hf
          split at hf
          · obtain ⟨cs, h, _⟩ := hf; cases h
          · cases hf.1
      · exact hr.elim
    · by_cases hconv : ∃ s d ox, x.op = .convert s d ox
      · obtain ⟨s, d, ox, hop⟩ := hconv
        simp only [opR, hop] at hr
        split at hr
        · rename_i e ad len cap hs hd hx
          split at hr
          · rename_i he
            have key : ∀ st, (stepD A P N ops y (put A env x.dst (.val (.string st))) h fun e2 h2 => keptD A x e2 h2 ∧ K e2 h2) → stepD A P N ops y env h fun e1 h1 => stepD A P N ops x e1 h1 K := by
              intro st hk
              refine fin _ hk (fun _ t ox hop' => by rw [hop] at hop'; cases hop') ?_ (fun e => by cases e)
              intro _ s' d' ox' hop'
              rw [hop] at hop'; cases hop'
              exact ⟨by simp [undef], e, hs, hd, he⟩
            cases ad with
            | none => exact key _ hr
            | some ad => obtain ⟨xs, _, _, hk⟩ := hr; exact key _ hk
          · exact hr.elim
        · exact hr.elim
      · obtain ⟨e, k1, _⟩ := opR_lin x _ _ _ hr
        exact fin e k1 (fun _ t ox hop => absurd ⟨t, ox, hop⟩ hload) (fun _ s d ox hop => absurd ⟨s, d, ox, hop⟩ hconv) (fun e => by cases e)
end
end Go.Eng
