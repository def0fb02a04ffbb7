/- The closed facts of a row, reckoned from what the function reaches alone. -/
import Derived.JoinedOf
set_option linter.unusedVariables false
namespace Go.Eng

/-- What a function reaches, with so many steps; none: they did not do. -/
def closeO (P : Program) : Nat → List FuncId → List FuncId → Option (List FuncId)
  | _, [], seen => some seen.reverse
  | 0, _ :: _, _ => none
  | n + 1, f :: todo, seen =>
    if seen.contains f then closeO P n todo seen
    else closeO P n ((P.funcs[f]?).elim [] P.leadsTo ++ todo) (f :: seen)
theorem closeO_via {P : Program} : ∀ (n : Nat) (todo seen : List FuncId) (L : List FuncId), closeO P n todo seen = some L → ∀ m, n ≤ m → P.closureVia m todo seen = L
  | 0, [], seen, L, h, m, _ => by
    have h : some seen.reverse = some L := h
    cases h
    cases m <;> rfl
  | 0, _ :: _, _, _, h, _, _ => by cases h
  | n + 1, [], seen, L, h, m, _ => by
    have h : some seen.reverse = some L := h
    cases h
    cases m <;> rfl
  | n + 1, f :: todo, seen, L, h, m, hm => by
    obtain ⟨m, rfl⟩ : ∃ k, m = k + 1 := ⟨m - 1, by omega⟩
    unfold closeO at h
    unfold Program.closureVia
    by_cases hc : seen.contains f = true
    · rw [if_pos hc] at h ⊢
      exact closeO_via n _ _ L h m (by omega)
    · rw [if_neg hc] at h ⊢
      exact closeO_via n _ _ L h m (by omega)
theorem closure_eq {P : Program} {n : Nat} {f : FuncId} {L : List FuncId} (h : closeO P n [f] [] = some L) (hn : n ≤ 1 + (P.funcs.toList.map fun g => (P.leadsTo g).length + 1).sum) : P.closure f = L := by
  unfold Program.closure
  exact closeO_via n _ _ L h _ hn

/-- The facts that look at what is reached. -/
def reachB (P : Program) (n : Nat) (f : FuncId) (L : List FuncId) (c : OpenClaim) : Bool :=
  Nat.ble n (1 + (P.funcs.toList.map fun g => (P.leadsTo g).length + 1).sum) && (closeO P n [f] [] == some L) &&
  (L.all fun g => ((P.funcs[g]?).elim [] P.leadsTo).all fun h => (closeO P n [h] []).isSome) &&
  (c.inPlace == L.filterMap fun g => (P.funcs[g]?).bind fun fn => if fn.ours || fn.body.isNone || fn.name == "runtime.NumGoroutine" then some fn.name else none) &&
  (c.unfollowed == L.any fun g => (P.funcs[g]?).any fun fn => match fn.body with | some c => c.unfollowed | none => entryCalls fn) &&
  (c.recurses == ((L.any fun g => (P.funcs[g]?).any fun fn => match fn.body with | some c => c.unfollowed | none => entryCalls fn) || L.any fun g => ((P.funcs[g]?).elim [] P.leadsTo).any fun h => ((closeO P n [h] []).getD []).contains g)) &&
  (c.named == (((L.flatMap fun g => ((P.funcs[g]?).bind (·.body)).elim [] Code.globalsNamed).eraseDups).filterMap (fun g => (P.globals[g]?).map (·.name)) ++
    L.filterMap fun g => (P.funcs[g]?).bind fun fn => if fn.body.isNone then entryReads.lookup fn.name else none).eraseDups)
/-- The words of the head, by their signs' numbers. -/
def wordsOf (ws : List (List Nat)) : List (List Char) := behindMainWord (ws.map fun w => w.map Char.ofNat)
theorem words_of {P : Program} {cs : List Nat} {ws : List (List Nat)} (h : P.initOrder = String.ofList (cs.map Char.ofNat)) (hw : wordsSigns (cs.map Char.ofNat) = ws.map fun w => w.map Char.ofNat) : behindMainWord (wordsSigns P.initOrder.toList) = wordsOf ws := by
  rw [h, String.toList_ofList, hw]; rfl
def mayEnterB (P : Program) (W : List (List Char)) : Bool :=
  match W with
  | c :: rest =>
    ((c == "gc".toList || c == "spec".toList) && (rest.isEmpty || rest.head? == some "stop".toList)) ||
    (c == "carried".toList && rest.take 2 == ["gc".toList, "cut".toList] && !P.laysLater && !P.bearsReflect) ||
    ((stripLifts liftWords (c :: rest)).2.head? == some "cut".toList &&
      ((stripLifts liftWords (c :: rest)).1.contains "finals" || !P.laysLater) && ((stripLifts liftWords (c :: rest)).1.contains "reflectrows" || !P.bearsReflect) &&
      ((stripLifts liftWords (c :: rest)).1.contains "reflectrows" || !(stripLifts liftWords (c :: rest)).1.contains "leanrows") &&
      P.doorFits (stripLifts liftWords (c :: rest)).1)
  | [] => false
def headLiftsB (W : List (List Char)) : List String :=
  let r := stripLifts liftWords W
  if r.2.head? == some "cut".toList then r.1 else []
def liftsFinalB (W : List (List Char)) : Bool :=
  (W.head? == some "carried".toList && W.take 3 != ["carried".toList, "gc".toList, "cut".toList]) || (headLiftsB W).contains "finals"
def makeB (W : List (List Char)) : Option Make :=
  match W with
  | c :: rest => if c == "gc".toList || c == "spec".toList then some .whole else if c == "cut".toList || (c == "finals".toList && rest.head? == some "cut".toList) then some .cut else if c == "carried".toList then some .carried else if (headLiftsB W).isEmpty then none else some (.lifted (headLiftsB W))
  | [] => none
theorem mayEnter_of {P : Program} {W : List (List Char)} (h : behindMainWord (wordsSigns P.initOrder.toList) = W) (m : mayEnterB P W = true) : P.mayEnter = true := by
  unfold Program.mayEnter; rw [h]; exact m
theorem liftsFinal_of {P : Program} {W : List (List Char)} (h : behindMainWord (wordsSigns P.initOrder.toList) = W) : P.liftsFinal = liftsFinalB W := by
  unfold Program.liftsFinal Program.headLifts; rw [h]; rfl
theorem make_of {P : Program} {W : List (List Char)} (h : behindMainWord (wordsSigns P.initOrder.toList) = W) : P.make = makeB W := by
  unfold Program.make Program.headLifts; rw [h]; rfl
/-- The others, one by one. -/
def otherB1 (P : Program) (fn : Func) (s : ChangeSpec) (c : OpenClaim) : Bool :=
  c.wf (OpenSpec.ofChange s)
def otherB2 (P : Program) (fn : Func) (s : ChangeSpec) (c : OpenClaim) : Bool :=
  laidOutB P
def otherB3 (P : Program) (fn : Func) (s : ChangeSpec) (c : OpenClaim) : Bool :=
  mapsRowed P
def otherB4 (P : Program) (fn : Func) (s : ChangeSpec) (c : OpenClaim) : Bool :=
  fn.params.all (P.readableRec ·) && namedTie P c.named s.vars && (c.stops == []) && (P.stops == []) && (c.knobs == []) && (P.stopKnobs == [])
def otherB5 (P : Program) (fn : Func) (s : ChangeSpec) (c : OpenClaim) : Bool :=
  (c.maps == (fn.params.toList ++ s.plain.varTypes P).any (P.mapsRec ·)) && (c.ifaces == (fn.params.toList ++ s.plain.varTypes P).any (P.ifacesRec ·)) && (c.mapsOut == P.mapsAmong fn.resultTypes.toList)
def otherB6 (P : Program) (fn : Func) (s : ChangeSpec) (c : OpenClaim) : Bool :=
  (c.loops == (fn.params.toList ++ s.plain.varTypes P).any (P.loopsFrom ·))
def otherB7 (P : Program) (fn : Func) (s : ChangeSpec) (c : OpenClaim) : Bool :=
  (c.wideKeys == (fn.params.toList ++ s.plain.varTypes P ++ fn.resultTypes.toList).any (P.wideKeysFrom ·)) && s.vars.all (P.varReadable ·) && fn.resultTypes.all (fun t => P.readableRec t && decide (t < P.types.size)) && (c.ifacesOut == fn.resultTypes.toList.any (P.ifacesRec ·))
def otherB8 (P : Program) (fn : Func) (s : ChangeSpec) (c : OpenClaim) : Bool :=
  (c.loopsOut == fn.resultTypes.toList.any (P.loopsFrom ·))
def otherB9 (P : Program) (fn : Func) (s : ChangeSpec) (c : OpenClaim) : Bool :=
  (c.plainKeys == P.plainKeys)
def otherB10 (P : Program) (fn : Func) (s : ChangeSpec) (c : OpenClaim) : Bool :=
  c.shortTexts.isNone && P.stopsHeard
def otherB11 (P : Program) (W : List (List Char)) : Bool :=
  mayEnterB P W
def otherB12 (c : OpenClaim) (W : List (List Char)) : Bool :=
  (c.lifted == liftsFinalB W)
def otherB13 (fn : Func) (P : Program) (c : OpenClaim) (W : List (List Char)) : Bool :=
  (makeB W == some c.make) && (c.kinds == (if c.domain.isEmpty then [] else fn.params.toList.map fun t => match P.underlying t with | some (.int k) => some k | _ => none)) && (c.pinned == c.pinnedBy)
def otherB14 (P : Program) (fn : Func) (s : ChangeSpec) (c : OpenClaim) : Bool :=
  (c.veiled == (fn.params.toList ++ s.plain.varTypes P ++ fn.resultTypes.toList).any (P.veiledRec ·))
def otherB15 (P : Program) (fn : Func) (s : ChangeSpec) (c : OpenClaim) : Bool :=
  c.veiledFits P fn.params.toList (fn.params.toList ++ s.plain.varTypes P ++ fn.resultTypes.toList)
theorem joined_of {P : Program} {f : FuncId} {fn : Func} {s : ChangeSpec} {c : OpenClaim} {cs : List Nat} {ws : List (List Nat)} (n : Nat) (L : List FuncId) (hi : P.initOrder = String.ofList (cs.map Char.ofNat)) (hw : wordsSigns (cs.map Char.ofNat) = ws.map fun w => w.map Char.ofNat) (h1 : reachB P n f L c = true) (o1 : otherB1 P fn s c = true) (o2 : otherB2 P fn s c = true) (o3 : otherB3 P fn s c = true) (o4 : otherB4 P fn s c = true) (o5 : otherB5 P fn s c = true) (o6 : otherB6 P fn s c = true) (o7 : otherB7 P fn s c = true) (o8 : otherB8 P fn s c = true) (o9 : otherB9 P fn s c = true) (o10 : otherB10 P fn s c = true) (o11 : otherB11 P (wordsOf ws) = true) (o12 : otherB12 c (wordsOf ws) = true) (o13 : otherB13 fn P c (wordsOf ws) = true) (o14 : otherB14 P fn s c = true) (o15 : otherB15 P fn s c = true) : joinedFacts P f fn s c = true := by
  unfold reachB at h1
  simp only [Bool.and_eq_true] at h1
  obtain ⟨⟨⟨⟨⟨⟨a1, a2⟩, a3⟩, a4⟩, a5⟩, a6⟩, a7⟩ := h1
  have hn := Nat.le_of_ble_eq_true a1
  have hL : P.closure f = L := closure_eq (by simpa using a2) hn
  have hh : ∀ g ∈ L, ∀ h ∈ (P.funcs[g]?).elim [] P.leadsTo, P.closure h = (closeO P n [h] []).getD [] := by
    intro g hg h hh
    have := List.all_eq_true.1 (List.all_eq_true.1 a3 g hg) h hh
    obtain ⟨M, hM⟩ := Option.isSome_iff_exists.1 this
    rw [hM]; exact closure_eq hM hn
  have b4 : (c.inPlace == P.inPlace f) = true := by unfold Program.inPlace; rw [hL]; exact a4
  have b5 : (c.unfollowed == P.unfollowed f) = true := by unfold Program.unfollowed; rw [hL]; exact a5
  have b6 : (c.recurses == P.recurses f) = true := by
    unfold Program.recurses Program.unfollowed
    rw [hL]
    have e : (L.any fun g => ((P.funcs[g]?).elim [] P.leadsTo).any fun h => (P.closure h).contains g) = L.any fun g => ((P.funcs[g]?).elim [] P.leadsTo).any fun h => ((closeO P n [h] []).getD []).contains g := by
      rw [Bool.eq_iff_iff, List.any_eq_true, List.any_eq_true]
      constructor
      · rintro ⟨g, hg, h⟩
        rw [List.any_eq_true] at h
        obtain ⟨x, hx, hxc⟩ := h
        exact ⟨g, hg, List.any_eq_true.2 ⟨x, hx, by rw [← hh g hg x hx]; exact hxc⟩⟩
      · rintro ⟨g, hg, h⟩
        rw [List.any_eq_true] at h
        obtain ⟨x, hx, hxc⟩ := h
        exact ⟨g, hg, List.any_eq_true.2 ⟨x, hx, by rw [hh g hg x hx]; exact hxc⟩⟩
    rw [e]; exact a6
  have b7 : (c.named == P.varsNamed f) = true := by unfold Program.varsNamed; rw [hL]; exact a7
  unfold otherB1 at o1
  have k1 := o1
  unfold otherB2 at o2
  have k2 := o2
  unfold otherB3 at o3
  have k3 := o3
  unfold otherB4 at o4
  simp only [Bool.and_eq_true] at o4
  obtain ⟨⟨⟨⟨⟨k4, k5⟩, k6⟩, k7⟩, k8⟩, k9⟩ := o4
  unfold otherB5 at o5
  simp only [Bool.and_eq_true] at o5
  obtain ⟨⟨k14, k15⟩, k16⟩ := o5
  unfold otherB6 at o6
  have k17 := o6
  unfold otherB7 at o7
  simp only [Bool.and_eq_true] at o7
  obtain ⟨⟨⟨k17b, k18⟩, k19⟩, k20⟩ := o7
  unfold otherB8 at o8
  have k21 := o8
  unfold otherB9 at o9
  have k22 := o9
  unfold otherB10 at o10
  simp only [Bool.and_eq_true] at o10
  obtain ⟨k23, k23b⟩ := o10
  have hW := words_of hi hw
  have k24 := mayEnter_of hW o11
  unfold otherB12 at o12
  rw [← liftsFinal_of hW] at o12
  have k24b := o12
  unfold otherB13 at o13
  rw [← make_of hW] at o13
  simp only [Bool.and_eq_true] at o13
  obtain ⟨⟨k24c, k25⟩, k26⟩ := o13
  unfold otherB14 at o14
  have k27 := o14
  unfold otherB15 at o15
  have k28 := o15
  unfold joinedFacts
  simp only [Bool.and_eq_true]
  exact ⟨⟨⟨⟨⟨⟨⟨⟨⟨⟨⟨⟨⟨⟨⟨⟨⟨⟨⟨⟨⟨⟨⟨⟨⟨⟨⟨⟨⟨⟨⟨k1, k2⟩, k3⟩, k4⟩, k5⟩, k6⟩, k7⟩, k8⟩, k9⟩, b4⟩, b5⟩, b6⟩, b7⟩, k14⟩, k15⟩, k16⟩, k17⟩, k17b⟩, k18⟩, k19⟩, k20⟩, k21⟩, k22⟩, k23⟩, k23b⟩, k24⟩, k24b⟩, k24c⟩, k25⟩, k26⟩, k27⟩, k28⟩
end Go.Eng
