/- A run of the code: activations, operations in the text's order. -/
import Derived.Recover
import Derived.Test.YticbldgcpppnoaaGreatDoorAmCall
import Derived.RangeFuncIn
import Derived.Scope
import Derived.Orders
namespace Go.AM
section
variable {E : Env} {P : Program} {nm : Nm} {K : Kp} {base : World} {φ ψ : Emb} {A A' : St} {w : World}

inductive MR (nm : Nm) (φ : Emb) : List DI → List Deferred → Prop where
  | nil : MR nm φ [] []
  | cons (m : Nat) (p : Pl) (ms : List DI) (ds : List Deferred) : φ m = some p → MR nm φ ms ds → MR nm φ (.mark m :: ms) ({ target := .collected p.blk, args := #[] } :: ds)
  | fn (g : FuncId) (cap args : List Value) (cap' args' : Array Value) (ms : List DI) (ds : List Deferred) : LR nm φ cap cap'.toList → LR nm φ args args'.toList → MR nm φ ms ds →
      MR nm φ (.fn g cap args :: ms) ({ target := .fn (.func g) cap', args := args' } :: ds)
theorem MR.mono (h : φ.le ψ) {ms : List DI} {ds : List Deferred} (r : MR nm φ ms ds) : MR nm ψ ms ds := by
  induction r with
  | nil => exact .nil
  | cons m p ms ds h1 _ ih => exact .cons m p ms ds (h _ _ h1) ih
  | fn g cap args cap' args' ms ds h1 h2 _ ih => exact .fn g cap args cap' args' ms ds (h1.mono h) (h2.mono h) ih

/-- Panics' entries. -/
inductive ChR (nm : Nm) (φ : Emb) : List PE → List PanicEntry → Prop where
  | nil : ChR nm φ [] []
  | cons (v v' : Value) (re : Bool) (l : List PE) (l' : List PanicEntry) : VR nm φ v v' → ChR nm φ l l' → ChR nm φ (⟨v, re⟩ :: l) ({ v := v', recovered := re } :: l')
theorem ChR.mono (h : φ.le ψ) {l : List PE} {l' : List PanicEntry} (r : ChR nm φ l l') : ChR nm ψ l l' := by
  induction r with
  | nil => exact .nil
  | cons v v' re l l' h1 _ ih => exact .cons v v' re l l' (h1.mono h) ih

structure FrR (nm : Nm) (φ : Emb) (nt : Nat) (fr : Fr) (a : Act) : Prop where
  size : a.tmps.size = nt
  tm : ∀ t, VR nm φ ((fr.tm.get t).getD undef) (a.tmps.getD t undef)
  marks : MR nm φ fr.marks a.defers
theorem FrR.mono (h : φ.le ψ) {nt : Nat} {fr : Fr} {a : Act} (r : FrR nm φ nt fr a) : FrR nm ψ nt fr a := ⟨r.size, fun t => (r.tm t).mono h, r.marks.mono h⟩

/-- The globals lie where they lay. -/
def Gl (E : Env) (φ : Emb) : Prop := ∀ g, g < E.ng → ∃ p, φ g = some p ∧ p.blk = g ∧ p.off = 0
theorem Gl.mono (h : φ.le ψ) (r : Gl E φ) : Gl E ψ := fun g hg => let ⟨p, h1, h2⟩ := r g hg; ⟨p, h _ _ h1, h2⟩

theorem evalO_rel {nt : Nat} {fr : Fr} {a : Act} (hf : FrR nm φ nt fr a) (hg : Gl E φ) (x : Operand) (hx : litOk E x = true) : VR nm φ (evalO fr x) (a.eval x) := by
  cases x with
  | tmp t => exact hf.tm t
  | const v => exact .of_plainV hx
  | global g =>
    obtain ⟨p, h1, h2, h3⟩ := hg g (by simpa [litOk] using hx)
    have := VR.ptr (nm := nm) (φ := φ) ⟨g, 0, none⟩ p h1 rfl
    simpa [evalO, Act.eval, h2, h3] using this
  | func f => exact .func' (.func f) .nil .nil

theorem opX_ok (ok : EnvOk E P nm) (h : WR nm K base φ A w) (hg : Gl E φ) {nt : Nat} {fr : Fr} {a : Act} (hf : FrR nm φ nt fr a) {o : Oper} {nx : Nx} (hx : opX E A (evalO fr) o = some (nx, A')) :
    Goal P nm K base φ A w (execOp a.eval o) nx A' := by
  unfold opX at hx
  split at hx
  · rename_i hl
    exact opD_ok ok h o (fun x hm => evalO_rel hf hg x (List.all_eq_true.1 hl x hm)) hx
  · cases hx

theorem FrR.put {nt : Nat} {fr fr' : Fr} {a : Act} (hf : FrR nm φ nt fr a) {d : Option Tmp} {v v' : Value} (hv : VR nm φ v v') (hp : Fr.put nt fr d v = some fr') : FrR nm φ nt fr' (a.put d v') := by
  unfold Fr.put at hp
  cases d with
  | none => cases hp; exact hf
  | some d =>
    simp only [] at hp
    split at hp
    · rename_i hd
      cases hp
      have hlt : d < a.tmps.size := by rw [hf.size]; simpa using hd
      refine ⟨by simp [Act.put, hf.size], fun t => ?_, hf.marks⟩
      by_cases e : t = d
      · subst e
        have e1 : (a.put (some t) v').tmps.getD t undef = v' := by
          show (a.tmps.setIfInBounds t v').getD t undef = v'
          simp [Array.getD_eq_getD_getElem?, hlt]
        have e2 : (({ fr with tm := fr.tm.set t v } : Fr).tm.get t).getD undef = v := by
          show ((fr.tm.set t v).get t).getD undef = v
          rw [T.get_set_same]; rfl
        rw [e1, e2]
        exact hv
      · have e1 : (a.put (some d) v').tmps.getD t undef = a.tmps.getD t undef := by
          show (a.tmps.setIfInBounds d v').getD t undef = _
          simp [Array.getD_eq_getD_getElem?, Ne.symm e]
        have e2 : (({ fr with tm := fr.tm.set d v } : Fr).tm.get t).getD undef = (fr.tm.get t).getD undef := by
          show ((fr.tm.set d v).get t).getD undef = _
          rw [T.get_set_other _ _ e]
        rw [e1, e2]
        exact hf.tm t
    · cases hp

theorem VR.is_bool {v c : Value} (h : VR nm φ v c) (b : Bool) : v = .bool b ↔ c = .bool b := by
  constructor
  · intro e; subst e; exact h.bool_inv
  · intro e; subst e; cases h; rfl

theorem guard_rel {nt : Nat} {fr : Fr} {a : Act} (hf : FrR nm φ nt fr a) (ops : Array Oper) (o : Oper) : Region.wanted o (yielded ops a.tmps) = guardOk ops o fr := by
  unfold Region.wanted guardOk
  cases hgd : o.guard with
  | none => rfl
  | some g =>
    obtain ⟨j, want⟩ := g
    simp only []
    unfold yielded
    cases hd : (ops[j]?).bind (·.dst) with
    | none => rfl
    | some t =>
      simp only [Option.bind_some]
      have ht := hf.tm t
      cases h1 : fr.tm.get t with
      | none =>
        rw [h1] at ht
        simp only [Option.getD_none] at ht
        cases h2 : a.tmps[t]? with
        | none => rfl
        | some c =>
          have : a.tmps.getD t undef = c := by rw [Array.getD_eq_getD_getElem?, h2]; rfl
          rw [this] at ht
          cases ht
          rfl
      | some v =>
        rw [h1] at ht
        simp only [Option.getD_some] at ht
        cases h2 : a.tmps[t]? with
        | none =>
          have : a.tmps.getD t undef = undef := by rw [Array.getD_eq_getD_getElem?, h2]; rfl
          rw [this] at ht
          cases ht
          rfl
        | some c =>
          have : a.tmps.getD t undef = c := by rw [Array.getD_eq_getD_getElem?, h2]; rfl
          rw [this] at ht
          cases ht <;> first | rfl | (simp only []; cases want <;> rename_i b <;> cases b <;> rfl)

/-- A call. -/
def CallOK (E : Env) (P : Program) (nm : Nm) (call : FuncId → List Value → St → Option (Value × St)) : Prop :=
  ∀ f args A v A', call f args A = some (v, A') → ∀ (K : Kp) (base : World) (φ : Emb) (w : World) (args' : Array Value), WR nm K base φ A w → Gl E φ → LR nm φ args args'.toList →
    Calls P f args' w fun e w' => ∃ φ' v', Emb.ext A.next φ φ' ∧ A.next ≤ A'.next ∧ WR nm K base φ' A' w' ∧ VR nm φ' v v' ∧ e = .returned v'

def CallPOK (E : Env) (P : Program) (nm : Nm) (call : FuncId → List Value → St → Option (List PE × St)) : Prop :=
  ∀ f args A ch A', call f args A = some (ch, A') → ∀ (K : Kp) (base : World) (φ : Emb) (w : World) (args' : Array Value), WR nm K base φ A w → Gl E φ → LR nm φ args args'.toList →
    Calls P f args' w fun e w' => ∃ φ' ch', Emb.ext A.next φ φ' ∧ A.next ≤ A'.next ∧ WR nm K base φ' A' w' ∧ ChR nm φ' ch ch' ∧ e = .panicked ch'

/-- What comes of a piece of a run. -/
structure Aft (nm : Nm) (K : Kp) (base : World) (φ : Emb) (A : St) (nt : Nat) (fr' : Fr) (A' : St) (a' : Act) (w' : World) : Prop where
  ex : ∃ φ', Emb.ext A.next φ φ' ∧ A.next ≤ A'.next ∧ WR nm K base φ' A' w' ∧ FrR nm φ' nt fr' a'

theorem doVal_put {nt : Nat} {fr fr1 : Fr} {d : Option Tmp} {v : Value} {A1 : St} (h : doVal nt fr d v A = some (fr1, A1)) : Fr.put nt fr d v = some fr1 ∧ A1 = A := by
  unfold doVal at h
  split at h
  · rename_i f hf; cases h; exact ⟨hf, rfl⟩
  · cases h

theorem opX_rel (ok : EnvOk E P nm) (h : WR nm K base φ A w) {fr : Fr} {a : Act} {o : Oper} {nx : Nx} (hρ : ∀ x, x ∈ o.op.operands.toList → litOk E x = true → VR nm φ (evalO fr x) (a.eval x)) (hx : opX E A (evalO fr) o = some (nx, A')) :
    Goal P nm K base φ A w (execOp a.eval o) nx A' := by
  unfold opX at hx
  split at hx
  · rename_i hl
    exact opD_ok ok h o (fun x hm => hρ x hm (List.all_eq_true.1 hl x hm)) hx
  · cases hx

theorem doOp_val (ok : EnvOk E P nm) {rec_ : Rec} (hc : CallOK E P nm rec_.call) (h : WR nm K base φ A w) (hg : Gl E φ) {nt : Nat} {fr fr1 : Fr} {a : Act} {o : Oper} {A1 : St}
    (hρ : ∀ x, x ∈ o.op.operands.toList → litOk E x = true → VR nm φ (evalO fr x) (a.eval x))
    (hx : doOp E rec_ nt o fr A = some (fr1, A1)) {next : Act → World → Prop} {Q : Exit → Act → World → Prop}
    (hnext : ∀ v v' φ' w', Emb.ext A.next φ φ' → A.next ≤ A1.next → WR nm K base φ' A1 w' → VR nm φ' v v' → Fr.put nt fr o.dst v = some fr1 → next (a.put o.dst v') w') : o.wp P a w next Q := by
  unfold doOp at hx
  split at hx
  · cases hx
  rename_i nx A2 hop
  obtain ⟨φ', w', g1, g2, g3, g4⟩ := opX_rel ok h hρ hop
  have hle := h.le g1
  unfold Oper.wp
  unfold doNx at hx
  split at hx
  · rename_i v
    obtain ⟨v', k1, k2⟩ := g4
    obtain ⟨hp, rfl⟩ := doVal_put hx
    rw [k2]
    exact hnext v v' φ' w' g1 g2 g3 k1 hp
  · obtain ⟨hp, rfl⟩ := doVal_put hx
    have k2 : (execOp a.eval o).run P w = .ok .skip w' := g4
    rw [k2]
    exact hnext undef undef φ' w' g1 g2 g3 .undef hp
  · rename_i f args
    obtain ⟨args', k1, k2, _⟩ := g4
    rw [k2]
    unfold doEnter at hx
    split at hx
    · rename_i v A3 hcall
      obtain ⟨hp, rfl⟩ := doVal_put hx
      refine Calls.mono (hc f args A2 v A1 hcall K base φ' w' args' g3 (hg.mono hle) k1) ?_
      rintro e w'' ⟨φ'', v', e1, e2, e3, e4, rfl⟩
      exact hnext v v' φ'' w'' (Emb.ext_trans g1 e1 g2) (Nat.le_trans g2 e2) e3 e4 hp
    · cases hx
  · cases hx

theorem doOp_ok (ok : EnvOk E P nm) {rec_ : Rec} (hc : CallOK E P nm rec_.call) (h : WR nm K base φ A w) (hg : Gl E φ) {nt : Nat} {fr fr1 : Fr} {a : Act} (hf : FrR nm φ nt fr a) {o : Oper} {A1 : St}
    (hx : doOp E rec_ nt o fr A = some (fr1, A1)) {next : Act → World → Prop} {Q : Exit → Act → World → Prop} (hnext : ∀ a1 w1, Aft nm K base φ A nt fr1 A1 a1 w1 → next a1 w1) : o.wp P a w next Q :=
  doOp_val ok hc h hg (fun x _ hl => evalO_rel hf hg x hl) hx fun _ _ φ' _ e1 e2 e3 e4 e5 => hnext _ _ ⟨φ', e1, e2, e3, (hf.mono (h.le e1)).put e4 e5⟩

theorem dferOp_ok (ok : EnvOk E P nm) (h : WR nm K base φ A w) (hg : Gl E φ) {nt : Nat} {fr fr1 : Fr} {a : Act} (hf : FrR nm φ nt fr a) {o : Oper} {A1 : St}
    (hx : dferOp E nt o fr A = some (fr1, A1)) {next : Act → World → Prop} {Q : Exit → Act → World → Prop} (hnext : ∀ a1 w1, Aft nm K base φ A nt fr1 A1 a1 w1 → next a1 w1) : o.wp P a w next Q := by
  unfold dferOp at hx
  split at hx
  · rename_i d A2 hop
    split at hx
    · rename_i g cap htar
      obtain ⟨φ', w', g1, g2, g3, d', k1, k2⟩ := opX_ok ok h hg hf hop
      obtain ⟨hp, rfl⟩ := doVal_put hx
      unfold Oper.wp
      rw [k2]
      refine hnext _ _ ⟨φ', g1, g2, g3, ?_⟩
      have hf' := hf.mono (h.le g1)
      obtain ⟨t', as'⟩ := d'
      have ht := k1.target
      rw [htar] at ht
      cases ht with
      | fn f f' c c' h1 h2 =>
        cases h1
        exact FrR.put (fr := { fr with marks := .fn g cap.toList d.args.toList :: fr.marks }) (a := { a with defers := _ :: a.defers }) ⟨hf'.size, hf'.tm, .fn g _ _ _ _ _ _ h2 k1.args hf'.marks⟩ .undef hp
    · cases hx
  · cases hx

theorem stepOp_ok (ok : EnvOk E P nm) {rec_ : Rec} (hc : CallOK E P nm rec_.call) (h : WR nm K base φ A w) (hg : Gl E φ) {nt : Nat} {fr fr1 : Fr} {a : Act} (hf : FrR nm φ nt fr a) {o : Oper} {A1 : St}
    (hx : stepOp E rec_ nt o fr A = some (fr1, A1)) {next : Act → World → Prop} {Q : Exit → Act → World → Prop} (hnext : ∀ a1 w1, Aft nm K base φ A nt fr1 A1 a1 w1 → next a1 w1) : o.wp P a w next Q := by
  unfold stepOp at hx
  split at hx
  · rename_i r hd
    cases hx
    exact doOp_ok ok hc h hg hf hd hnext
  · exact dferOp_ok ok h hg hf hx hnext

theorem panOp_ok (ok : EnvOk E P nm) {rec_ : Rec} (hc : CallPOK E P nm rec_.callP) (h : WR nm K base φ A w) (hg : Gl E φ) {nt : Nat} {fr : Fr} {a : Act} (hf : FrR nm φ nt fr a) {o : Oper} {ch : List PE} {A1 : St}
    (hx : panOp E rec_ o fr A = some (ch, A1)) {next : Act → World → Prop} {Q : Exit → Act → World → Prop}
    (hQ : ∀ φ' ch' w', Emb.ext A.next φ φ' → A.next ≤ A1.next → WR nm K base φ' A1 w' → ChR nm φ' ch ch' → Q (.panic ch') a w') : o.wp P a w next Q := by
  unfold panOp at hx
  split at hx
  · rename_i v A2 hop
    cases hx
    obtain ⟨φ', w', g1, g2, g3, v', k1, k2⟩ := opX_ok ok h hg hf hop
    unfold Oper.wp
    rw [k2]
    exact hQ φ' _ w' g1 g2 g3 (.cons v v' false [] [] k1 .nil)
  · rename_i f args A2 hop
    obtain ⟨φ', w', g1, g2, g3, args', k1, k2, _⟩ := opX_ok ok h hg hf hop
    unfold Oper.wp
    rw [k2]
    refine Calls.mono (hc f args A2 ch A1 hx K base φ' w' args' g3 (hg.mono (h.le g1)) k1) ?_
    rintro e w'' ⟨φ'', ch', e1, e2, e3, e4, rfl⟩
    exact hQ φ'' ch' w'' (Emb.ext_trans g1 e1 g2) (Nat.le_trans g2 e2) e3 e4
  · cases hx

theorem doOps_ok (ok : EnvOk E P nm) {rec_ : Rec} (hc : CallOK E P nm rec_.call) {nt : Nat} {ops : Array Oper} {Q : Exit → Act → World → Prop} : ∀ (os : List Oper) (i : Nat) (φ : Emb) (A : St) (w : World) (fr fr1 : Fr) (A1 : St) (a : Act),
    ops.toList.drop i = os → WR nm K base φ A w → Gl E φ → FrR nm φ nt fr a → doOps E rec_ nt ops os fr A = some (fr1, A1) →
    (∀ a1 w1, Aft nm K base φ A nt fr1 A1 a1 w1 → Q .normal a1 w1) → wpOps P ops Q (List.range' i os.length) a w := by
  intro os
  induction os with
  | nil =>
    intro i φ A w fr fr1 A1 a hd h hg hf hx hQ
    simp only [doOps, Option.some.injEq, Prod.mk.injEq] at hx
    obtain ⟨rfl, rfl⟩ := hx
    exact hQ _ _ ⟨φ, Emb.ext_refl _ _, Nat.le_refl _, h, hf⟩
  | cons o os ih =>
    intro i φ A w fr fr1 A1 a hd h hg hf hx hQ
    have hi : ops[i]? = some o := by
      have : (ops.toList.drop i)[0]? = some o := by rw [hd]; rfl
      simpa using this
    have hd' : ops.toList.drop (i + 1) = os := by
      have : (ops.toList.drop i).drop 1 = os := by rw [hd]; rfl
      simpa [List.drop_drop] using this
    simp only [List.length_cons, List.range'_succ, wpOps, hi]
    rw [guard_rel hf ops o]
    unfold doOps at hx
    split at hx
    · rename_i hgo
      rw [if_pos hgo]
      left
      split at hx
      · rename_i fr2 A2 hop
        refine stepOp_ok ok hc h hg hf hop ?_
        rintro a1 w1 ⟨φ', e1, e2, e3, e4⟩
        refine ih (i + 1) φ' A2 w1 fr2 fr1 A1 a1 hd' e3 (hg.mono (h.le e1)) e4 hx ?_
        rintro a2 w2 ⟨φ'', k1, k2, k3, k4⟩
        exact hQ _ _ ⟨φ'', Emb.ext_trans e1 k1 e2, Nat.le_trans e2 k2, k3, k4⟩
      · cases hx
    · rename_i hgo
      rw [if_neg hgo]
      split at hx
      · rename_i fr2 hp
        exact ih (i + 1) φ A w fr2 fr1 A1 _ hd' h hg (hf.put .undef hp) hx hQ
      · cases hx

theorem upon_S {o : Oper} {a : Act} {n : Act → World → Prop} {Q : Exit → Act → World → Prop} {X : World → Prop} (h : o.wp P a w n Q) : (match (execOp a.eval o).run P w with
    | .ok .recover w' => X w'
    | r => o.upon P a n Q r) := by
  unfold Oper.wp at h
  split
  · rename_i hr
    rw [hr] at h
    exact h.elim
  · exact h
theorem doOpsS_ok (ok : EnvOk E P nm) {rec_ : Rec} (hc : CallOK E P nm rec_.call) {nt : Nat} {ops : Array Oper} {cs : List Frame} {Q : Exit → Act → List Frame → World → Prop} : ∀ (os : List Oper) (i : Nat) (φ : Emb) (A : St) (w : World) (fr fr1 : Fr) (A1 : St) (a : Act),
    ops.toList.drop i = os → WR nm K base φ A w → Gl E φ → FrR nm φ nt fr a → doOps E rec_ nt ops os fr A = some (fr1, A1) →
    (∀ a1 w1, Aft nm K base φ A nt fr1 A1 a1 w1 → Q .normal a1 cs w1) → wpOpsS P ops Q (List.range' i os.length) a cs w := by
  intro os
  induction os with
  | nil =>
    intro i φ A w fr fr1 A1 a hd h hg hf hx hQ
    simp only [doOps, Option.some.injEq, Prod.mk.injEq] at hx
    obtain ⟨rfl, rfl⟩ := hx
    exact hQ _ _ ⟨φ, Emb.ext_refl _ _, Nat.le_refl _, h, hf⟩
  | cons o os ih =>
    intro i φ A w fr fr1 A1 a hd h hg hf hx hQ
    have hi : ops[i]? = some o := by
      have : (ops.toList.drop i)[0]? = some o := by rw [hd]; rfl
      simpa using this
    have hd' : ops.toList.drop (i + 1) = os := by
      have : (ops.toList.drop i).drop 1 = os := by rw [hd]; rfl
      simpa [List.drop_drop] using this
    simp only [List.length_cons, List.range'_succ, wpOpsS, hi]
    rw [guard_rel hf ops o]
    unfold doOps at hx
    split at hx
    · rename_i hgo
      rw [if_pos hgo]
      split at hx
      · rename_i fr2 A2 hop
        refine upon_S (stepOp_ok ok hc h hg hf hop ?_)
        rintro a1 w1 ⟨φ', e1, e2, e3, e4⟩
        refine ih (i + 1) φ' A2 w1 fr2 fr1 A1 a1 hd' e3 (hg.mono (h.le e1)) e4 hx ?_
        rintro a2 w2 ⟨φ'', k1, k2, k3, k4⟩
        exact hQ _ _ ⟨φ'', Emb.ext_trans e1 k1 e2, Nat.le_trans e2 k2, k3, k4⟩
      · cases hx
    · rename_i hgo
      rw [if_neg hgo]
      split at hx
      · rename_i fr2 hp
        exact ih (i + 1) φ A w fr2 fr1 A1 _ hd' h hg (hf.put .undef hp) hx hQ
      · cases hx

theorem doOpsP_ok (ok : EnvOk E P nm) {rec_ : Rec} (hc : CallOK E P nm rec_.call) (hcp : CallPOK E P nm rec_.callP) {nt : Nat} {ops : Array Oper} {Q : Exit → Act → World → Prop} {ch : List PE} : ∀ (os : List Oper) (i : Nat) (φ : Emb) (A : St) (w : World) (fr fr1 : Fr) (A1 : St) (a : Act),
    ops.toList.drop i = os → WR nm K base φ A w → Gl E φ → FrR nm φ nt fr a → doOpsP E rec_ nt ops os fr A = some (ch, fr1, A1) →
    (∀ φ' ch' a1 w1, Emb.ext A.next φ φ' → A.next ≤ A1.next → WR nm K base φ' A1 w1 → FrR nm φ' nt fr1 a1 → ChR nm φ' ch ch' → Q (.panic ch') a1 w1) → wpOps P ops Q (List.range' i os.length) a w := by
  intro os
  induction os with
  | nil =>
    intro i φ A w fr fr1 A1 a hd h hg hf hx hQ
    cases hx
  | cons o os ih =>
    intro i φ A w fr fr1 A1 a hd h hg hf hx hQ
    have hi : ops[i]? = some o := by
      have : (ops.toList.drop i)[0]? = some o := by rw [hd]; rfl
      simpa using this
    have hd' : ops.toList.drop (i + 1) = os := by
      have : (ops.toList.drop i).drop 1 = os := by rw [hd]; rfl
      simpa [List.drop_drop] using this
    simp only [List.length_cons, List.range'_succ, wpOps, hi]
    rw [guard_rel hf ops o]
    unfold doOpsP at hx
    split at hx
    · rename_i hgo
      rw [if_pos hgo]
      left
      split at hx
      · rename_i fr2 A2 hop
        refine stepOp_ok ok hc h hg hf hop ?_
        rintro a1 w1 ⟨φ', e1, e2, e3, e4⟩
        refine ih (i + 1) φ' A2 w1 fr2 fr1 A1 a1 hd' e3 (hg.mono (h.le e1)) e4 hx ?_
        intro φ'' ch' a2 w2 k1 k2 k3 k4 k5
        exact hQ φ'' ch' a2 w2 (Emb.ext_trans e1 k1 e2) (Nat.le_trans e2 k2) k3 k4 k5
      · split at hx
        · rename_i ch2 A2 hpan
          cases hx
          refine panOp_ok ok hcp h hg hf hpan ?_
          intro φ' ch' w' e1 e2 e3 e4
          exact hQ φ' ch' a w' e1 e2 e3 (hf.mono (h.le e1)) e4
        · cases hx
    · rename_i hgo
      rw [if_neg hgo]
      split at hx
      · rename_i fr2 hp
        exact ih (i + 1) φ A w fr2 fr1 A1 _ hd' h hg (hf.put .undef hp) hx hQ
      · cases hx
end
end Go.AM

namespace Go.AM

theorem zip_eq {n : Nat} (ih : ∀ a b, veq n a b = true → a = b) : ∀ (a b : List Value), a.length = b.length → (a.zip b).all (fun p => veq n p.1 p.2) = true → a = b
  | [], [], _, _ => rfl
  | [], _ :: _, h, _ => by simp at h
  | _ :: _, [], h, _ => by simp at h
  | x :: a, y :: b, h, g => by
    simp only [List.zip_cons_cons, List.all_cons, Bool.and_eq_true] at g
    rw [ih x y g.1, zip_eq ih a b (by simpa using h) g.2]

theorem arr_eq {n : Nat} (ih : ∀ a b, veq n a b = true → a = b) (a b : Array Value) (h : (a.size == b.size && (a.toList.zip b.toList).all fun p => veq n p.1 p.2) = true) : a = b := by
  simp only [Bool.and_eq_true, beq_iff_eq] at h
  apply Array.ext'
  exact zip_eq ih _ _ (by simpa using h.1) h.2

theorem bytes_ext {a b : ByteArray} (h : a.data.toList = b.data.toList) : a = b := by
  cases a; cases b
  congr 1
  exact Array.ext' h

theorem veq_eq : ∀ (n : Nat) (a b : Value), veq n a b = true → a = b := by
  intro n
  induction n with
  | zero =>
    intro a b h
    cases a <;> cases b <;> first | (simp [veq] at h; done) | skip
    case bool => simp [veq] at h; rw [h]
    case int => simp [veq] at h; rw [h.1, h.2]
    case string x y => simp only [veq, decide_eq_true_eq] at h; rw [bytes_ext h]
    case pointer x y => cases x <;> cases y <;> simp [veq] at h <;> first | rfl | rw [h]
    case slice x l c y m d => cases x <;> cases y <;> simp [veq] at h <;> first | (rw [h.1, h.2]; done) | (obtain ⟨⟨h1, h2⟩, h3⟩ := h; rw [h1, h2, h3])
    case map x y => cases x <;> cases y <;> simp [veq] at h <;> first | rfl | rw [h]
    case nilFunc => rfl
    case nilIface => rfl
  | succ n ih =>
    intro a b h
    cases a <;> cases b <;> first | (simp [veq] at h; done) | skip
    case bool => simp [veq] at h; rw [h]
    case int => simp [veq] at h; rw [h.1, h.2]
    case string x y => simp only [veq, decide_eq_true_eq] at h; rw [bytes_ext h]
    case pointer x y => cases x <;> cases y <;> simp [veq] at h <;> first | rfl | rw [h]
    case slice x l c y m d => cases x <;> cases y <;> simp [veq] at h <;> first | (rw [h.1, h.2]; done) | (obtain ⟨⟨h1, h2⟩, h3⟩ := h; rw [h1, h2, h3])
    case map x y => cases x <;> cases y <;> simp [veq] at h <;> first | rfl | rw [h]
    case nilFunc => rfl
    case nilIface => rfl
    case iface t v u w =>
      simp only [veq, Bool.and_eq_true, decide_eq_true_eq] at h
      rw [h.1, ih _ _ h.2]
    case agg x y => simp only [veq] at h; rw [arr_eq ih x y h]
    case tuple x y => simp only [veq] at h; rw [arr_eq ih x y h]
    case func f x c g y d =>
      simp only [veq] at h
      rw [Bool.and_eq_true, Bool.and_eq_true] at h
      obtain ⟨⟨h1, h2⟩, h3⟩ := h
      rw [arr_eq ih x y h2, arr_eq ih c d h3, of_decide_eq_true h1]

section
variable {E : Env} {A A' : St} {ρ : Operand → Value} {nx : Nx}

theorem viaPure_same {o : Oper} (h : viaPure E A ρ o = some (nx, A')) : A' = A := by
  unfold viaPure at h
  repeat' split at h
  all_goals first | (cases h; done) | (cases h; rfl)

theorem float_same {o : Oper} (hf : isFloat E o = true) (h : opX E A ρ o = some (nx, A')) : A' = A := by
  unfold opX at h
  split at h
  case isFalse => cases h
  unfold opD at h
  unfold isFloat at hf
  cases hop : o.op <;> simp only [hop] at h hf <;> first | (cases hf; done) | skip
  case move => cases h; rfl
  case assign => cases h; rfl
  case pick => unfold xPick at h; repeat' split at h
               all_goals first | (cases h; done) | (cases h; rfl)
  case build => unfold xBuild at h; repeat' split at h
                all_goals first | (cases h; done) | (cases h; rfl)
  case load => unfold xLoad at h; repeat' split at h
               all_goals first | (cases h; done) | (cases h; rfl)
  case nilCheck => unfold xNilCheck at h; repeat' split at h
                   all_goals first | (cases h; done) | (cases h; rfl)
  case binOp =>
    unfold xBinOp at h
    split at h
    · cases h; rfl
    · split at h
      · rename_i r hr
        cases h
        exact viaPure_same hr
      · repeat' split at h
        all_goals first | (cases h; done) | (cases h; rfl)
  case unOp => exact viaPure_same h
  case convert src dst x =>
    unfold xConvert at h
    split at h
    · repeat' split at h
      all_goals first | (cases h; done) | (cases h; rfl)
    · rename_i hd hx
      rw [hd] at hf
      cases hf
    · repeat' split at h
      all_goals first | (cases h; done) | (cases h; rfl)
    · repeat' split at h
      all_goals first | (cases h; done) | (cases h; rfl)
    · exact viaPure_same h
  case makeInterface => unfold xMakeInterface at h; repeat' split at h
                        all_goals first | (cases h; done) | (cases h; rfl)
  case makeFunc => unfold xMakeFunc at h; repeat' split at h
                   all_goals first | (cases h; done) | (cases h; rfl)
  case slice => unfold xSlice at h; repeat' split at h
                all_goals first | (cases h; done) | (cases h; rfl)
  case fieldAddr => unfold xFieldAddr at h; repeat' split at h
                    all_goals first | (cases h; done) | (cases h; rfl)
  case field => unfold xField at h; repeat' split at h
                all_goals first | (cases h; done) | (cases h; rfl)
  case indexAddr => unfold xIndexAddr at h; repeat' split at h
                    all_goals first | (cases h; done) | (cases h; rfl)
  case index => unfold xIndex at h; repeat' split at h
                all_goals first | (cases h; done) | (cases h; rfl)
  case lookup =>
    unfold xLookup at h
    split at h
    case h_2 => cases h
    split at h
    case h_2 => cases h
    split at h
    case isFalse => cases h
    simp only [] at h
    generalize (match ρ _ with
      | .map none => some []
      | .map (some r) => match A.h.get r with
        | some (.map es _) => some es
        | _ => none
      | _ => none : Option (List MapEntry)) = es at h
    repeat' split at h
    all_goals first | (cases h; done) | (cases h; rfl)
  case typeAssert => unfold xTypeAssert at h; repeat' split at h
                     all_goals first | (cases h; done) | (cases h; rfl)
  case extract => unfold xExtract at h; repeat' split at h
                  all_goals first | (cases h; done) | (cases h; rfl)
  case call c =>
    obtain ⟨callee, args, argTypes⟩ := c
    cases callee with
    | value f => cases hf
    | invoke r m => cases hf
    | builtin b =>
      unfold xCall at h
      simp only [resolveT] at h
      unfold invokeT at h
      simp only [] at h
      unfold builtinOp at h
      cases b <;> simp only [] at hf h <;> first | (cases hf; done) | skip
      case len => unfold bLen at h; repeat' split at h
                  all_goals first | (cases h; done) | (cases h; rfl)
      case cap => unfold bCap at h; repeat' split at h
                  all_goals first | (cases h; done) | (cases h; rfl)
      case min => unfold bMin at h; repeat' split at h
                  all_goals first | (cases h; done) | (cases h; rfl)
      case max => unfold bMin at h; repeat' split at h
                  all_goals first | (cases h; done) | (cases h; rfl)
      case unsafeSliceData => unfold bUnsafeSliceData at h; repeat' split at h
                              all_goals first | (cases h; done) | (cases h; rfl)
end
end Go.AM
