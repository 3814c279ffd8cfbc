/- A run of the code: code and calls. -/
import Derived.Test.YtkhgbpokoaklpaaGreatDoorAmDraw2
namespace Go.AM
section
variable {E : Env} {P : Program} {nm : Nm} {K : Kp} {base : World} {φ ψ : Emb} {A A' : St} {w : World}

def exitOf : Out → Exit
  | .norm => .normal
  | .ret => .ret
  | .exit id => .exit id

def PostC (nm : Nm) (K : Kp) (base : World) (φ : Emb) (A : St) (nt : Nat) (out : Out) (fr' : Fr) (A' : St) : Exit → Act → World → Prop :=
  fun e a' w' => e = exitOf out ∧ Aft nm K base φ A nt fr' A' a' w'

def CodeOK (E : Env) (P : Program) (nm : Nm) (code : Nat → Code → Fr → St → Option (Out × Fr × St)) : Prop :=
  ∀ nt c fr A out fr' A', code nt c fr A = some (out, fr', A') → ∀ (K : Kp) (base : World) (φ : Emb) (a : Act) (w : World), WR nm K base φ A w → Gl E φ → FrR nm φ nt fr a →
    c.wp P (PostC nm K base φ A nt out fr' A') a w
def LoopOK (E : Env) (P : Program) (nm : Nm) (code : Nat → Code → Fr → St → Option (Out × Fr × St)) : Prop :=
  ∀ nt b fr A out fr' A', code nt (.loop b) fr A = some (out, fr', A') → ∀ (K : Kp) (base : World) (φ : Emb) (a : Act) (w : World), WR nm K base φ A w → Gl E φ → FrR nm φ nt fr a →
    ∀ (b0 : Frame) (k : List Item) (cs : List Frame), ∃ e a' w', PostC nm K base φ A nt out fr' A' e a' w' ∧ Arrives P (lone (b0.at a (.code b :: .inLoop b :: k)) cs w) b0 k cs e a' w'

theorem Aft.trans {nt : Nat} {fr2 : Fr} {A1 A2 : St} {a2 : Act} {w2 : World} {φ' : Emb} (e1 : Emb.ext A.next φ φ') (e2 : A.next ≤ A1.next) (k : Aft nm K base φ' A1 nt fr2 A2 a2 w2) : Aft nm K base φ A nt fr2 A2 a2 w2 := by
  obtain ⟨φ'', k1, k2, k3, k4⟩ := k
  exact ⟨φ'', Emb.ext_trans e1 k1 e2, Nat.le_trans e2 k2, k3, k4⟩

/-- The marks of an activation that is left. -/
theorem marks_ok : ∀ (ms : List Nat) (A A2 : St) (ds : List Deferred) (w : World) (fr : Frame) (cs : List Frame), takeMarks ms A = some A2 → WR nm K base φ A w → MR φ ms ds → fr.mode = .returning → fr.defers = ds →
    ∃ w', Steps P (lone fr cs w) (lone { fr with defers := [] } cs w') ∧ WR nm K base φ A2 w' ∧ A2.next = A.next := by
  intro ms
  induction ms with
  | nil =>
    intro A A2 ds w fr cs ht h hm hmode hd
    cases hm
    simp only [takeMarks, Option.some.injEq] at ht
    subst ht
    refine ⟨w, ?_, h, rfl⟩
    have : ({ fr with defers := [] } : Frame) = fr := by rw [← hd]
    rw [this]; exact .refl _ _
  | cons m ms ih =>
    intro A A2 ds w fr cs ht h hm hmode hd
    cases hm with
    | cons m p ms ds hp hr =>
      unfold takeMarks at ht
      split at ht
      · rename_i hdef
        obtain ⟨q, hq, hb, hK⟩ := h.obj m _ hdef rfl
        rw [hp] at hq; cases hq
        have hb' : w.heap[p.blk]? = some (.deferred (some [])) := hb
        have hlt := h.lt _ _ hp
        have hW : WR nm K base φ (A.setObj m .dead) (putO w p.blk (.deferred none)) :=
          h.setObj (o := .defd) (o' := .dead) hdef rfl rfl (by simp) (by simp) rfl hp trivial
        have htake : (Instr.takeDeferred p.blk).run P w = .ok [] (putO w p.blk (.deferred none)) := by
          simp [Instr.takeDeferred, run_getObj (P := P) hb' (by simp), run_setObj (P := P) hb' (by simp)]
        have hstep : step P (lone fr cs w) = .next (lone { fr with defers := ds } cs (putO w p.blk (.deferred none))) :=
          step_lone_go (by simp [stepG, unwind, hmode, hd, Sem.runT_eq, htake, GStep.bare_after])
        obtain ⟨w', k1, k2, k3⟩ := ih (A.setObj m .dead) A2 ds _ { fr with defers := ds } cs ht hW hr hmode rfl
        exact ⟨w', .head hstep k1, k2, k3⟩
      · cases ht

def resM (a : Act) : ResultVar → Sem Value
  | .tmp t => pure (a.tmps.getD t undef)
  | .cell b t => do loadVar t (← asAddr (a.tmps.getD b undef))
def resE (E : Env) (A : St) (fr : Fr) : ResultVar → Option Value
  | .tmp t => some ((fr.tm.get t).getD undef)
  | .cell b t => match (fr.tm.get b).getD undef with
      | .pointer (some ad) => loadV E A t ad
      | _ => none

theorem results_list (ok : EnvOk E P nm) (h : WR nm K base φ A w) {nt : Nat} {fr : Fr} {a : Act} (hf : FrR nm φ nt fr a) : ∀ (l : List ResultVar) (vs : List Value), l.mapM (resE E A fr) = some vs →
    ∃ vs', LR nm φ vs vs' ∧ (l.mapM (resM a)).run P w = .ok vs' w := by
  intro l
  induction l with
  | nil => intro vs h; simp at h; subst h; exact ⟨[], .nil, rfl⟩
  | cons r l ih =>
    intro vs hm
    rw [List.mapM_cons] at hm
    cases h1 : resE E A fr r with
    | none => rw [h1] at hm; simp at hm
    | some v =>
      cases h2 : l.mapM (resE E A fr) with
      | none => rw [h1, h2] at hm; simp at hm
      | some us =>
        rw [h1, h2] at hm
        simp at hm
        subst hm
        obtain ⟨us', k1, k2⟩ := ih us h2
        have : ∃ v', VR nm φ v v' ∧ (resM a r).run P w = .ok v' w := by
          cases r with
          | tmp t =>
            simp only [resE, Option.some.injEq] at h1
            subst h1
            exact ⟨_, hf.tm t, rfl⟩
          | cell b t =>
            simp only [resE] at h1
            have hb := hf.tm b
            split at h1
            · rename_i ad hv
              rw [hv] at hb
              obtain ⟨p, hp, hsp, e⟩ := hb.ptr_inv
              obtain ⟨v', r1, r2⟩ := loadV_ok ok h h1 hp
              refine ⟨v', r1, ?_⟩
              simp only [resM, e, asAddr, Sem.run_bind, Sem.run_pure, Result.andThen_ok, r2]
            · cases h1
        obtain ⟨v', r1, r2⟩ := this
        refine ⟨v' :: us', .cons r1 k1, ?_⟩
        rw [List.mapM_cons]
        simp only [Sem.run_bind, r2, Result.andThen_ok, k2, Sem.run_pure]

theorem resultsOf_ok (ok : EnvOk E P nm) (h : WR nm K base φ A w) {nt : Nat} {fr : Fr} {a : Act} (hf : FrR nm φ nt fr a) {fn : Func} {v : Value} (hr : resultsOf E fn fr A = some v) :
    ∃ v', VR nm φ v v' ∧ (results fn a.tmps).run P w = .ok v' w := by
  have hres : results fn a.tmps = (do let vs ← List.toArray <$> fn.results.toList.mapM (resM a); pure (if h : vs.size = 1 then vs[0] else .tuple vs)) := by
    rw [← Array.mapM_eq_mapM_toList]
    rfl
  have hE : resultsOf E fn fr A = (match fn.results.toList.mapM (resE E A fr) with
    | some [v] => some v
    | some vs => some (.tuple vs.toArray)
    | none => none) := rfl
  rw [hE] at hr
  rw [hres]
  split at hr
  · rename_i v0 hm
    cases hr
    obtain ⟨vs', k1, k2⟩ := results_list ok h hf _ _ hm
    obtain ⟨v', m, rfl, r1, r2⟩ := k1.cons_inv
    have := r2.nil_inv
    subst this
    refine ⟨v', r1, ?_⟩
    rw [map_eq_pure_bind]
    simp only [bind_assoc, pure_bind, Sem.run_bind, k2, Result.andThen_ok, Sem.run_pure]
    rfl
  · rename_i vs hne hm
    cases hr
    obtain ⟨vs', k1, k2⟩ := results_list ok h hf _ _ hm
    have hlen := k1.length
    refine ⟨.tuple vs'.toArray, .tuple' (by simpa [AR] using k1), ?_⟩
    have h1 : ¬ vs'.toArray.size = 1 := by
      intro e
      have : vs.length = 1 := by rw [hlen]; simpa using e
      match vs, this with
      | [x], _ => exact hne x rfl
    rw [map_eq_pure_bind]
    simp only [bind_assoc, pure_bind, Sem.run_bind, k2, Result.andThen_ok, Sem.run_pure]
    rw [dif_neg h1]
  · cases hr

theorem callB_ok (ok : EnvOk E P nm) {rec_ : Rec} (hcode : CodeOK E P nm rec_.code) : CallOK E P nm (callB E rec_) := by
  intro f args A v A' hx K base φ w args' h hg ha
  unfold callB at hx
  split at hx
  · cases hx
  rename_i fn hfn
  have hfn' := ok.fn _ _ hfn
  split at hx
  · cases hx
  rename_i c hbody
  split at hx
  case isFalse => cases hx
  rename_i hlen
  have hsz : args.length = args'.size := by simpa using ha.1
  have hf0 : FrR nm φ fn.ntmps { tm := T.ofList args, marks := [] } { tmps := args' ++ Array.replicate (fn.ntmps - args'.size) undef, defers := [] } := by
    refine ⟨by simp; omega, fun t => ?_, .nil⟩
    simp only [T.get_ofList]
    rcases Nat.lt_or_ge t args.length with g | g
    · have h1 := ha.2 t g
      rw [List.getElem?_eq_getElem g]
      have e2 : (args' ++ Array.replicate (fn.ntmps - args'.size) undef).getD t undef = args'.toList.getD t undef := by
        rw [getD_toList, Array.getD_eq_getD_getElem?, Array.getElem?_append_left (by omega), Array.getD_eq_getD_getElem?]
      rw [e2]
      rw [List.getD_eq_getElem?_getD, List.getElem?_eq_getElem g] at h1
      exact h1
    · rw [List.getElem?_eq_none g]
      have e2 : (args' ++ Array.replicate (fn.ntmps - args'.size) undef).getD t undef = undef := by
        rw [Array.getD_eq_getD_getElem?, Array.getElem?_append_right (by omega), Array.getElem?_replicate]
        split <;> rfl
      rw [e2]
      exact .undef
  intro cs
  let b : Frame := { (default : Frame) with fn := f, kind := .normal }
  have henter : Frame.enter P f args' .normal = b.at { tmps := args' ++ Array.replicate (fn.ntmps - args'.size) undef, defers := [] } [.code c] := by
    simp [Frame.enter, Frame.at, hfn', hbody, b]
  have fin : ∀ (out : Out) (fr : Fr) (A1 : St) (a1 : Act) (w1 : World) (todo : List Item), Aft nm K base φ A fn.ntmps fr A1 a1 w1 →
      (match takeMarks fr.marks A1 with
        | some A2 => match resultsOf E fn fr A2 with
          | some v => some (v, A2)
          | none => none
        | none => none) = some (v, A') →
      Steps P (lone (Frame.enter P f args' .normal) cs w) (lone { b.at a1 todo with mode := .returning } cs w1) →
      ∃ e w' fr', (∃ φ' v', Emb.ext A.next φ φ' ∧ A.next ≤ A'.next ∧ WR nm K base φ' A' w' ∧ VR nm φ' v v' ∧ e = .returned v') ∧
        Comes P (lone (Frame.enter P f args' .normal) cs w) (lone fr' cs w') e ∧ fr'.fn = f ∧ fr'.leaving P w' e := by
    rintro out fr A1 a1 w1 todo ⟨φ', e1, e2, e3, e4⟩ hm hs
    split at hm
    · rename_i A2 ht
      split at hm
      · rename_i v0 hres
        cases hm
        obtain ⟨w', k1, k2, k3⟩ := marks_ok (P := P) fr.marks A1 A' a1.defers w1 { b.at a1 todo with mode := .returning } cs ht e3 e4.marks rfl rfl
        obtain ⟨v', r1, r2⟩ := resultsOf_ok ok k2 e4 hres
        refine ⟨.returned v', w', { { b.at a1 todo with mode := .returning } with defers := [] }, ⟨φ', v', e1, by rw [k3]; exact e2, k2, r1, rfl⟩, Steps.trans hs k1, rfl, rfl, rfl, rfl, fn, hfn', r2⟩
      · cases hm
    · cases hm
  split at hx
  · cases hx
  · rename_i out fr A1 hne hrun
    obtain ⟨e, a1, w1, ⟨he, hA⟩, harr⟩ := hcode _ _ _ _ _ _ _ hrun K base φ _ w h hg hf0 b [] cs
    rw [← henter] at harr
    cases out with
    | norm =>
      subst he
      exact fin .norm fr A1 a1 w1 [] hA hx (Steps.trans harr (.one step_end))
    | ret =>
      subst he
      obtain ⟨todo, hs⟩ := harr
      exact fin .ret fr A1 a1 w1 todo hA hx hs
    | exit id => exact (hne _ rfl).elim
  · cases hx

theorem codeRange_ok (ok : EnvOk E P nm) {rec_ : Rec} (hc : CallOK E P nm rec_.call) {nt : Nat} {f : Operand} {ps : Array Tmp} {assign body : Code} {fr fr' : Fr} {out : Out}
    (hx : codeRange E rec_ f fr A = some (out, fr', A')) (h : WR nm K base φ A w) (hg : Gl E φ) {a : Act} (hf : FrR nm φ nt fr a) :
    (Code.rangeFunc f ps assign body).wp P (PostC nm K base φ A nt out fr' A') a w := by
  unfold codeRange at hx
  simp only [] at hx
  split at hx
  case isFalse => cases hx
  rename_i hlit
  split at hx
  · cases hx
  rename_i d hd
  split at hx
  case h_2 => cases hx
  rename_i g args A2 hinv
  split at hx
  case h_2 => cases hx
  rename_i v3 A3 hcall
  split at hx
  case h_2 => cases hx
  rename_i hloop
  cases hx
  intro b k cs
  -- the two new blocks
  let L : Loop := { state := .ready, pending := none, fn := b.fn, tmps := a.tmps, params := ps, assign, body, defers := w.heap.size }
  let p1 : Pl := plNew w 0
  let w1 := w.alloc (.deferred (some []))
  let A1 : St := { A with next := A.next + 1, h := A.h.set A.next .defd }
  have hn1 := h.dom A.next (Nat.le_refl _)
  have hW1 : WR nm K base (φ.upd A.next p1) A1 w1 := h.new A.next p1 .defd _ (A.next + 1) hn1 (Nat.le_succ _) (Nat.lt_succ_self _) rfl (by show (w.heap.push _)[w.heap.size]? = _; simp) rfl
  have hle1 : φ.le (φ.upd A.next p1) := Emb.upd_le p1 hn1
  let p2 : Pl := plNew w1 0
  let w2 := w1.alloc (.loop L)
  let A1' : St := { A with next := A.next + 2, h := (A.h.set A.next .defd).set (A.next + 1) (.loop { state := .ready, pending := none }) }
  have hn2 := hW1.dom (A.next + 1) (Nat.le_refl _)
  have hW2 : WR nm K base ((φ.upd A.next p1).upd (A.next + 1) p2) A1' w2 := hW1.new (A.next + 1) p2 (.loop { state := .ready, pending := none }) _ (A.next + 2) hn2 (Nat.le_succ _) (Nat.lt_succ_self _) rfl
    ⟨L, by show (w1.heap.push _)[w1.heap.size]? = _; simp, ⟨rfl, rfl⟩⟩ rfl
  have hle2 : (φ.upd A.next p1).le ((φ.upd A.next p1).upd (A.next + 1) p2) := Emb.upd_le p2 hn2
  generalize hφ2 : (φ.upd A.next p1).upd (A.next + 1) p2 = φ2 at hW2 hle2
  have hle : φ.le φ2 := Emb.le_trans hle1 hle2
  have hm2 : φ2 A.next = some p1 := hle2 _ _ (Emb.upd_same _ _ _)
  have hl2 : φ2 (A.next + 1) = some p2 := by rw [← hφ2]; exact Emb.upd_same _ _ _
  have hext : Emb.ext A.next φ φ2 := by
    intro c hcn
    rw [← hφ2, Emb.upd_other _ _ (by omega), Emb.upd_other _ _ (by omega)]
  have hf2 := hf.mono hle
  have hg2 := hg.mono hle
  have henterL : (Instr.enterLoop b.fn a.tmps ps assign body none).run P w = .ok (w1.heap.size, [{ target := .collected w.heap.size, args := #[] }]) w2 := by
    simp only [Instr.enterLoop, Sem.run_bind, run_newO, Sem.run_pure, Result.andThen_ok]
    rfl
  -- what is called
  have hres : ∃ d', DR nm φ2 d d' ∧ ∀ w : World, (resolve a.eval (rangeCall f w1.heap.size) 0).run P w = .ok d' w := by
    have hyield : VR nm φ2 (.func (.yield (A.next + 1)) #[] #[]) (.func (.yield w1.heap.size) #[] #[]) := .func' (.yield _ _ p2 hl2 rfl) .nil .nil
    have hargs : AR nm φ2 #[Value.func (.yield (A.next + 1)) #[] #[]] #[Value.func (.yield w1.heap.size) #[] #[]] := .cons hyield .nil
    have hr := evalO_rel hf2 hg2 f hlit
    unfold resolveT at hd
    simp only [] at hd
    split at hd
    · rename_i fn first cap hv
      cases hd
      rw [hv] at hr
      obtain ⟨f', a', b', e, h1, h2, h3⟩ := hr.func_inv
      refine ⟨_, ⟨.fn _ _ _ _ h1 h3, ?_⟩, fun w => by simp only [resolve, e]; rfl⟩
      simpa [AR, evalO, Act.eval] using LR.append h2 hargs
    · rename_i hv
      cases hd
      rw [hv] at hr
      have e : a.eval f = .nilFunc := hr.nilf_inv
      have hargs' : AR nm φ2 (Array.map (evalO fr) #[.const (.func (.yield (A.next + 1)) #[] #[])]) (Array.map a.eval #[.const (.func (.yield w1.heap.size) #[] #[])]) := by simpa [evalO, Act.eval] using hargs
      exact ⟨_, ⟨.nil, hargs'⟩, fun w => by simp only [resolve, e, Deferred.ofValue]; rfl⟩
    · cases hd
  obtain ⟨d', hdr, hres⟩ := hres
  obtain ⟨φ3, w3, g1, g2, g3, args', g4, g5, _⟩ := invokeT_ok ok hW2 hdr.target hdr.args hinv
  have hle3 := hW2.le g1
  obtain ⟨e, w4, fr4, ⟨φ4, v4, k1, k2, k3, k4, rfl⟩, hsteps, hfn, hleave⟩ := hc g args A2 v3 A3 hcall K base φ3 w3 args' g3 (hg2.mono hle3) g4 (b.at { a with defers := [{ target := .collected w.heap.size, args := #[] }] ++ a.defers } (.inRangeFunc w1.heap.size :: k) :: cs)
  have hle4 := g3.le k1
  obtain ⟨q, hq, ⟨L4, hL, hLR⟩, _⟩ := k3.obj (A.next + 1) _ hloop rfl
  have hl4 : φ4 (A.next + 1) = some p2 := hle4 _ _ (hle3 _ _ hl2)
  rw [hl4] at hq; cases hq
  have hend : (Instr.endLoop w1.heap.size).run P w4 = .ok none (putO w4 p2.blk (.loop { L4 with state := .exhausted })) := by
    have hL' : w4.heap[w1.heap.size]? = some (.loop L4) := hL
    have hst : L4.state = .ready := hLR.state
    have hpd : L4.pending = none := hLR.pending
    simp only [Instr.endLoop, Instr.getLoop, Sem.run_bind, run_getObj (P := P) hL' (by simp), Sem.run_pure, Result.andThen_ok, hst]
    rw [if_neg (by decide)]
    simp only [Sem.run_bind, run_setObj (P := P) hL' (by simp), Result.andThen_ok, Sem.run_pure, hpd]
    rfl
  have hlt := k3.lt _ _ hl4
  have hW5 : WR nm K base φ4 (A3.setObj (A.next + 1) (.loop { state := .exhausted, pending := none })) (putO w4 p2.blk (.loop { L4 with state := .exhausted })) :=
    k3.setObj (o := .loop _) (o' := .loop _) hloop rfl rfl (by simp) (by simp) rfl hl4 ⟨_, putO_same w4 _ hlt, ⟨rfl, hLR.pending⟩⟩
  have hall := Emb.le_trans hle3 hle4
  have s1 : step P (lone (b.at a (.code (.rangeFunc f ps assign body) :: k)) cs w) = .next (lone (Frame.enter P g args' .normal) (b.at { a with defers := [{ target := .collected w.heap.size, args := #[] }] ++ a.defers } (.inRangeFunc w1.heap.size :: k) :: cs) w3) :=
    stepR_rangeFunc (P := P) (b := { b with roundOf := none }) (a := a) (k := k) (cs := cs) (w := w) henterL (hres w2) g5
  have s2 := step_leave_returned (c := b.at { a with defers := [{ target := .collected w.heap.size, args := #[] }] ++ a.defers } (.inRangeFunc w1.heap.size :: k)) (cs := cs) hleave
  have s3 : step P (lone (b.at { a with defers := [{ target := .collected w.heap.size, args := #[] }] ++ a.defers } (.endRangeFunc w1.heap.size :: k)) cs w4) =
      .next (lone (b.at { a with defers := [{ target := .collected w.heap.size, args := #[] }] ++ a.defers } k) cs (putO w4 p2.blk (.loop { L4 with state := .exhausted }))) :=
    stepR_endRangeFunc (P := P) (b := { b with roundOf := none }) (k := k) (cs := cs) hend
  have hfin : (b.at { a with defers := [{ target := .collected w.heap.size, args := #[] }] ++ a.defers } (.inRangeFunc w1.heap.size :: k)).finish v4 = b.at { a with defers := [{ target := .collected w.heap.size, args := #[] }] ++ a.defers } (.endRangeFunc w1.heap.size :: k) :=
    finish_atR_inRangeFunc (b := { b with roundOf := none }) w1.heap.size v4
  rw [hfin] at s2
  refine ⟨.normal, { a with defers := [{ target := .collected w.heap.size, args := #[] }] ++ a.defers }, _, ⟨rfl, φ4, ?_, ?_, hW5, ?_⟩, Steps.head s1 (Steps.trans hsteps (.head s2 (.one s3)))⟩
  · exact Emb.ext_trans hext (Emb.ext_trans g1 k1 g2) (Nat.le_add_right _ _)
  · exact Nat.le_trans (Nat.le_add_right A.next 2) (Nat.le_trans g2 k2)
  · exact ⟨hf.size, fun t => ((hf2.tm t).mono hall), .cons _ p1 _ _ (hall _ _ hm2) ((hf2.marks).mono hall)⟩

theorem codeB_ok (ok : EnvOk E P nm) {rec_ : Rec} (hcode : CodeOK E P nm rec_.code) (hloop : LoopOK E P nm rec_.code) (hc : CallOK E P nm rec_.call) : CodeOK E P nm (codeB E rec_) ∧ LoopOK E P nm (codeB E rec_) := by
  have loopY : LoopOK E P nm (codeB E rec_) := by
    intro nt b fr A out fr' A' hx K base φ a w h hg hf b0 k cs
    unfold codeB at hx
    simp only [] at hx
    split at hx
    · rename_i fr1 A1 hb
      obtain ⟨e, a1, w1, ⟨he, φ', e1, e2, e3, e4⟩, harr⟩ := hcode _ _ _ _ _ _ _ hb K base φ a w h hg hf b0 (.inLoop b :: k) cs
      subst he
      obtain ⟨e', a2, w2, ⟨he', hA⟩, harr2⟩ := hloop _ _ _ _ _ _ _ hx K base φ' a1 w1 e3 (hg.mono (h.le e1)) e4 b0 k cs
      exact ⟨e', a2, w2, ⟨he', hA.trans e1 e2⟩, .of_steps (Steps.trans harr (.one step_inLoop)) harr2⟩
    · rename_i hne
      obtain ⟨e, a1, w1, ⟨he, hA⟩, harr⟩ := hcode _ _ _ _ _ _ _ hx K base φ a w h hg hf b0 (.inLoop b :: k) cs
      have hout : out ≠ .norm := by
        rintro rfl
        exact hne _ _ hx
      refine ⟨e, a1, w1, ⟨he, hA⟩, .pass (x := .inLoop b) rfl (fun _ _ => .inl ?_) harr⟩
      subst he
      cases out with
      | norm => exact absurd rfl hout
      | ret => simp [exitOf]
      | exit id => simp [exitOf]
  refine ⟨?_, loopY⟩
  intro nt c fr A out fr' A' hx K base φ a w h hg hf
  cases c with
  | skip =>
    simp only [codeB, Option.some.injEq, Prod.mk.injEq] at hx
    obtain ⟨rfl, rfl, rfl⟩ := hx
    exact wp_skip ⟨rfl, φ, Emb.ext_refl _ _, Nat.le_refl _, h, hf⟩
  | label l =>
    simp only [codeB, Option.some.injEq, Prod.mk.injEq] at hx
    obtain ⟨rfl, rfl, rfl⟩ := hx
    exact wp_label ⟨rfl, φ, Emb.ext_refl _ _, Nat.le_refl _, h, hf⟩
  | exit id =>
    simp only [codeB, Option.some.injEq, Prod.mk.injEq] at hx
    obtain ⟨rfl, rfl, rfl⟩ := hx
    exact wp_exit ⟨rfl, φ, Emb.ext_refl _ _, Nat.le_refl _, h, hf⟩
  | ret =>
    simp only [codeB, Option.some.injEq, Prod.mk.injEq] at hx
    obtain ⟨rfl, rfl, rfl⟩ := hx
    exact wp_ret ⟨rfl, φ, Emb.ext_refl _ _, Nat.le_refl _, h, hf⟩
  | seq x y =>
    simp only [codeB] at hx
    refine wp_seq ?_
    split at hx
    · rename_i fr1 A1 hb
      refine wp_mono (hcode _ _ _ _ _ _ _ hb K base φ a w h hg hf) ?_
      rintro e a1 w1 ⟨rfl, φ', e1, e2, e3, e4⟩
      refine wp_mono (hcode _ _ _ _ _ _ _ hx K base φ' a1 w1 e3 (hg.mono (h.le e1)) e4) ?_
      rintro e a2 w2 ⟨rfl, hA⟩
      exact ⟨rfl, hA.trans e1 e2⟩
    · rename_i hne
      refine wp_mono (hcode _ _ _ _ _ _ _ hx K base φ a w h hg hf) ?_
      rintro e a1 w1 ⟨rfl, hA⟩
      cases out with
      | norm => exact absurd hx (hne _ _)
      | ret => exact ⟨rfl, hA⟩
      | exit id => exact ⟨rfl, hA⟩
  | cond x t e =>
    simp only [codeB] at hx
    have hb : ∀ v : Bool, evalO fr x = .bool v → a.eval x = .bool v := by
      intro v hv
      cases x with
      | tmp t =>
        have := hf.tm t
        have e1 : evalO fr (.tmp t) = (fr.tm.get t).getD undef := rfl
        rw [← e1, hv] at this
        exact this.bool_inv
      | const c => exact hv
      | global g => exact hv
      | func g => exact hv
    split at hx
    · rename_i hv
      exact wp_cond_true (hb _ hv) (hcode _ _ _ _ _ _ _ hx K base φ a w h hg hf)
    · rename_i hv
      exact wp_cond_false (hb _ hv) (hcode _ _ _ _ _ _ _ hx K base φ a w h hg hf)
    · cases hx
  | block id b =>
    simp only [codeB] at hx
    refine wp_block ?_
    split at hx
    · rename_i id' fr1 A1 hb
      cases hx
      refine wp_mono (hcode _ _ _ _ _ _ _ hb K base φ a w h hg hf) ?_
      rintro e a1 w1 ⟨rfl, hA⟩
      show if id' = id then _ else _
      by_cases hid : id' = id
      · rw [if_pos hid]
        refine ⟨?_, hA⟩
        rw [if_pos hid]; rfl
      · rw [if_neg hid]
        refine ⟨?_, hA⟩
        rw [if_neg hid]; rfl
    · rename_i hne
      refine wp_mono (hcode _ _ _ _ _ _ _ hx K base φ a w h hg hf) ?_
      rintro e a1 w1 ⟨rfl, hA⟩
      cases out with
      | norm => exact ⟨rfl, hA⟩
      | ret => exact ⟨rfl, hA⟩
      | exit id' => exact absurd hx (hne _ _ _)
  | loop b =>
    intro b0 k cs
    obtain ⟨e, a1, w1, hp, harr⟩ := loopY nt b fr A out fr' A' hx K base φ a w h hg hf b0 k cs
    exact ⟨e, a1, w1, hp, .of_steps (.one step_loop) harr⟩
  | scope b =>
    simp only [codeB] at hx
    refine wp_scope_straight ?_
    refine wp_mono (hcode _ _ _ _ _ _ _ hx K base φ a w h hg hf) ?_
    rintro e a1 w1 ⟨rfl, hA⟩
    cases out <;> exact ⟨rfl, hA⟩
  | region id ops draw =>
    simp only [codeB] at hx
    cases draw with
    | true =>
      simp only [if_true] at hx
      split at hx
      · rename_i fr1 A1 hd
        cases hx
        exact drawRegion_ok ok hc h hg hf hd fun a1 w1 hA => ⟨rfl, hA⟩
      · cases hx
    | false =>
      simp only [Bool.false_eq_true, if_false] at hx
      split at hx
      · rename_i fr1 A1 hd
        cases hx
        refine wp_region ?_
        have := doOps_ok (Q := PostC nm K base φ A nt .norm fr' A') ok hc ops.toList 0 φ A w fr fr' A' a (by simp) h hg hf hd fun a1 w1 hA => ⟨rfl, hA⟩
        rw [List.range_eq_range']
        simpa using this
      · cases hx
  | rangeFunc f ps assign body =>
    simp only [codeB] at hx
    exact codeRange_ok ok hc hx h hg hf
  | _ => simp [codeB] at hx

theorem big_ok (ok : EnvOk E P nm) : ∀ n, CodeOK E P nm (big E n).code ∧ LoopOK E P nm (big E n).code ∧ CallOK E P nm (big E n).call
  | 0 => ⟨fun nt c fr A out fr' A' hx => by simp [big] at hx, fun nt c fr A out fr' A' hx => by simp [big] at hx, fun f args A v A' hx => by simp [big] at hx⟩
  | n + 1 => by
    obtain ⟨h1, h2, h3⟩ := big_ok ok n
    obtain ⟨g1, g2⟩ := codeB_ok ok h1 h2 h3
    exact ⟨g1, g2, callB_ok ok h1⟩
end
end Go.AM
