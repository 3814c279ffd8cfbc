/- The symbolic evaluator is right: frames and single operations. -/
import Derived.Test.YtkhgbpokoaklpaaGreatDoorSxCore
namespace Go.AM.SX
open Go

theorem look_eq (σ : Sg) (k : Nat) : look σ k = (σ[k]?).getD undef := by
  induction σ generalizing k with
  | nil => rfl
  | cons v l ih => cases k with
    | zero => rfl
    | succ k => simpa [look] using ih k
theorem look_append (σ τ : Sg) {k : Nat} (h : k < σ.length) : look (σ ++ τ) k = look σ k := by
  rw [look_eq, look_eq, List.getElem?_append_left h]
theorem look_at (σ : Sg) (v : Value) (τ : Sg) : look (σ ++ v :: τ) σ.length = v := by
  rw [look_eq, List.getElem?_append_right (Nat.le_refl _)]; simp
theorem look_new (σ : Sg) (v : Value) : look (σ ++ [v]) σ.length = v := look_at σ v []
theorem ok_lt {n k : Nat} (h : Nat.blt k n = true) : k < n := by rw [Nat.blt_eq] at h; exact h
theorem At.den_append {a : At} {σ : Sg} (τ : Sg) (h : a.ok σ.length = true) : a.den (σ ++ τ) = a.den σ := by
  cases a with
  | v x => rfl
  | n k => exact look_append σ τ (ok_lt h)
theorem X.den_append {x : X} {σ : Sg} (τ : Sg) (h : x.ok σ.length = true) : x.den (σ ++ τ) = x.den σ := by
  cases x with
  | «at» a => exact At.den_append τ h
  | ifc t a => simp only [X.den]; rw [At.den_append τ h]
  | fn f cs =>
    simp only [X.den]
    have : cs.map (·.den (σ ++ τ)) = cs.map (·.den σ) := by
      apply List.map_congr_left
      intro a ha
      exact At.den_append τ (List.all_eq_true.1 h a ha)
    rw [this]
  | sl a n => simp only [X.den]; rw [At.den_append τ h]
theorem At.ok_mono {a : At} {n m : Nat} (h : n ≤ m) (ha : a.ok n = true) : a.ok m = true := by
  cases a with
  | v x => rfl
  | n k => exact (by rw [Nat.blt_eq]; exact Nat.lt_of_lt_of_le (ok_lt ha) h : Nat.blt k m = true)
theorem X.ok_mono {x : X} {n m : Nat} (h : n ≤ m) (hx : x.ok n = true) : x.ok m = true := by
  cases x with
  | «at» a => exact At.ok_mono h hx
  | ifc t a => exact At.ok_mono h hx
  | fn f cs => exact List.all_eq_true.2 fun a ha => At.ok_mono h (List.all_eq_true.1 hx a ha)
  | sl a n => exact At.ok_mono h hx
theorem vn_ok {n k : Nat} (h : k < n) : (vn k).ok n = true := (by rw [Nat.blt_eq]; exact h : Nat.blt k n = true)
theorem denL_append {xs : List X} {σ : Sg} (τ : Sg) (h : ∀ x, x ∈ xs → x.ok σ.length = true) : denL (σ ++ τ) xs = denL σ xs :=
  List.map_congr_left fun x hx => X.den_append τ (h x hx)

/-- What is needed of what stands for a value: its variables are there, its pointer is one. -/
def X.wf (σ : Sg) : X → Prop
  | .sl a _ => ∃ p, a.den σ = .pointer p
  | _ => True
def X.good (σ : Sg) (x : X) : Prop := x.ok σ.length = true ∧ x.wf σ
theorem X.good.append {x : X} {σ : Sg} (h : x.good σ) (τ : Sg) : x.good (σ ++ τ) := by
  refine ⟨X.ok_mono (by simp) h.1, ?_⟩
  cases x with
  | sl a n =>
    obtain ⟨p, hp⟩ := h.2
    exact ⟨p, by rw [At.den_append τ h.1]; exact hp⟩
  | _ => trivial
theorem vv_good (σ : Sg) (v : Value) : (vv v).good σ := ⟨rfl, trivial⟩
theorem vn_good {σ : Sg} {k : Nat} (h : k < σ.length) : (vn k).good σ := ⟨vn_ok h, trivial⟩

/-! ### Frames -/
def FrRel (σ : Sg) (sf : SF) (fr : Fr) : Prop := ∀ t x, sf.get t = some x → x.good σ ∧ fr.tm.get t = some (x.den σ)
theorem FrRel.append {σ : Sg} {sf : SF} {fr : Fr} (h : FrRel σ sf fr) (τ : Sg) : FrRel (σ ++ τ) sf fr := fun t x hx =>
  let ⟨h1, h2⟩ := h t x hx
  ⟨h1.append τ, by rw [X.den_append τ h1.1]; exact h2⟩
theorem FrRel.put {σ : Sg} {sf : SF} {fr : Fr} (h : FrRel σ sf fr) {d : Nat} {x : X} (hx : x.good σ) :
    FrRel σ ((d, x) :: sf) { fr with tm := fr.tm.set d (x.den σ) } := by
  intro t y hy
  unfold SF.get at hy
  split at hy
  · rename_i e
    cases hy
    have : d = t := Nat.eq_of_beq_eq_true e
    subst this
    exact ⟨hx, T.get_set_same _ _ _⟩
  · rename_i e
    obtain ⟨h1, h2⟩ := h t y hy
    refine ⟨h1, ?_⟩
    show (fr.tm.set d (x.den σ)).get t = _
    rw [T.get_set_other _ _ (by intro e'; subst e'; simp at e)]
    exact h2
theorem SF.get_learn (k : Nat) (b : Bool) (sf : SF) (t : Nat) : (sf.learn k b).get t = (sf.get t).map (·.learn k b) := by
  induction sf with
  | nil => rfl
  | cons p sf ih =>
    obtain ⟨s, x⟩ := p
    simp only [SF.learn, SF.get]
    split
    · rfl
    · exact ih
theorem X.learn_den {σ : Sg} {k : Nat} {b : Bool} (h : look σ k = .bool b) (x : X) : (x.learn k b).den σ = x.den σ := by
  cases x with
  | «at» a =>
    cases a with
    | v x => rfl
    | n j =>
      simp only [X.learn, At.learn]
      split
      · rename_i e
        have : j = k := Nat.eq_of_beq_eq_true e
        subst this
        exact h.symm
      · rfl
  | ifc t a => rfl
  | fn f cs => rfl
  | sl a n => rfl
theorem X.learn_ok {σ : Sg} {k : Nat} {b : Bool} {x : X} (h : x.good σ) : (x.learn k b).good σ := by
  cases x with
  | «at» a =>
    cases a with
    | v x => exact vv_good σ x
    | n j =>
      simp only [X.learn, At.learn]
      split
      · exact vv_good σ _
      · exact h
  | ifc t a => exact h
  | fn f cs => exact h
  | sl a n => exact h
theorem FrRel.learn {σ : Sg} {sf : SF} {fr : Fr} (h : FrRel σ sf fr) {k : Nat} {b : Bool} (hk : look σ k = .bool b) : FrRel σ (sf.learn k b) fr := by
  intro t x hx
  rw [SF.get_learn] at hx
  cases hs : sf.get t with
  | none => rw [hs] at hx; cases hx
  | some y =>
    rw [hs] at hx
    cases hx
    obtain ⟨h1, h2⟩ := h t y hs
    exact ⟨X.learn_ok h1, by rw [X.learn_den hk]; exact h2⟩

section
variable {E : Env} {σ : Sg} {sf : SF} {fr : Fr}

theorem evalS_ok (hf : FrRel σ sf fr) {o : Operand} {x : X} (h : evalS sf o = some x) : x.good σ ∧ evalO fr o = x.den σ := by
  cases o with
  | tmp t =>
    obtain ⟨h1, h2⟩ := hf t x h
    exact ⟨h1, by simp only [evalO, h2]; rfl⟩
  | const v => cases h; exact ⟨vv_good σ v, rfl⟩
  | «global» g => cases h; exact ⟨vv_good σ _, rfl⟩
  | func f => cases h; exact ⟨⟨rfl, trivial⟩, rfl⟩
theorem evalS_map (hf : FrRel σ sf fr) : ∀ {os : List Operand} {xs : List X}, evalL sf os = some xs → (∀ x, x ∈ xs → x.good σ) ∧ os.map (evalO fr) = denL σ xs
  | [], xs, h => by cases h; exact ⟨fun x hx => by simp at hx, rfl⟩
  | o :: os, xs, h => by
    simp only [evalL] at h
    split at h
    · rename_i x xs' h1 h2
      cases h
      obtain ⟨a1, a2⟩ := evalS_ok hf h1
      obtain ⟨b1, b2⟩ := evalS_map hf h2
      refine ⟨fun y hy => ?_, by simp only [List.map_cons, denL]; rw [a2, b2]; rfl⟩
      rcases List.mem_cons.1 hy with rfl | hy
      · exact a1
      · exact b1 y hy
    · cases h

/-- What an act says of an operation. -/
def ActOk (E : Env) (σ : Sg) (fr : Fr) (o : Oper) : Act → Prop
  | .st x => x.good σ ∧ ∀ A, opX E A (evalO fr) o = some (.val (x.den σ), A)
  | .op r args => ∀ A v A', semR r (denL σ args) A = some (v, A') → opX E A (evalO fr) o = some (.val v, A')
  | .opSl r args len => ∀ A v A', semR r (denL σ args) A = some (v, A') → (∃ p, v = .pointer p) ∧ opX E A (evalO fr) o = some (.val (slV v len), A')
  | .eff r args => ∀ A v A', semR r (denL σ args) A = some (v, A') → opX E A (evalO fr) o = some (.skip, A')
  | .call f args => (∀ x, x ∈ args → x.good σ) ∧ ∀ A, opX E A (evalO fr) o = some (.enter f (denL σ args), A)
  | .callv x args => ∀ A g fs cs, x.den σ = .func (.func g) fs cs → (∃ fn, E.fn.get g = some fn ∧ fn.body.isSome = true) → opX E A (evalO fr) o = some (.enter g (fs.toList ++ denL σ args ++ cs.toList), A)
  | .callm x name args => ∀ A g as, callM E A (x.den σ) name (denL σ args) = some (.enter g as, A) → opX E A (evalO fr) o = some (.enter g as, A)
  | .pick k a b => a.good σ ∧ b.good σ ∧ ∀ A t, look σ k = .bool t → opX E A (evalO fr) o = some (.val (if t then a.den σ else b.den σ), A)

theorem opX_of {A : St} {ρ : Operand → Value} {o : Oper} (hl : litsOk E o = true) : opX E A ρ o = opD E A ρ o := by
  unfold opX; rw [if_pos hl]
end
end Go.AM.SX

namespace Go.AM.SX
open Go
section
variable {E : Env} {A : St} {ρ : Operand → Value} {o : Oper}

theorem via_of {v : Value} (hp : pureOp o = true) (hpl : (o.op.operands.toList.map ρ).all plainV = true) (hr : pureRun E.P (execOp ρ o) = some (.ok (.value v))) (hv : plainV v = true) : viaPure E A ρ o = some (.val v, A) := by
  unfold viaPure
  rw [hp, hpl]
  simp [hr, hv]
theorem via_some {nx : Nx} {A' : St} (h : viaPure E A ρ o = some (nx, A')) (hn : ∀ v, pureRun E.P (execOp ρ o) ≠ some (.error v)) : ∃ v, pureRun E.P (execOp ρ o) = some (.ok (.value v)) ∧ nx = .val v ∧ A' = A := by
  unfold viaPure at h
  split at h
  · split at h
    · rename_i v hr
      split at h
      · cases h; exact ⟨v, hr, rfl, rfl⟩
      · cases h
    · rename_i v hr
      exact absurd hr (hn v)
    · cases h
  · cases h

theorem fast_sl (hsl : E.sl = []) (op : BinOp) (x y : Value) : fast E.sl op x y = fast [] op x y := by rw [hsl]

theorem bin_ok (hsl : E.sl = []) {op : BinOp} {t u : TypeId} {x y : Operand} (ho : o.op = .binOp op t x y u) {v : Value} (h : binV op (ρ x) (ρ y) = some v) : xBinOp E A ρ o op t x y = some (.val v, A) := by
  unfold binV at h
  unfold xBinOp
  rw [fast_sl hsl]
  split at h
  · rename_i v' hf
    cases h
    rw [hf]
  · rename_i hf
    rw [hf]
    simp only
    have hp : pureOp o = true := by unfold pureOp; rw [ho]
    have hops : o.op.operands.toList.map ρ = [ρ x, ρ y] := by rw [ho]; rfl
    split at h
    · rename_i k a k' b hx hy
      have hpl : (o.op.operands.toList.map ρ).all plainV = true := by rw [hops, hx, hy]; rfl
      have key : pureRun E.P (execOp ρ o) = some (.ok (.value v)) ∧ plainV v = true := by
        unfold execOp
        rw [ho]
        simp only [hx, hy]
        rw [hx, hy] at hf
        split at h
        · rename_i hs
          cases op <;> simp only [isShift, Bool.false_eq_true] at hs <;> unfold shlV at h <;> split at h <;> first
            | (cases h; done)
            | (simp only [Option.some.injEq] at h; subst h; rename_i hb; refine ⟨?_, rfl⟩
               simp only [binOp, Op.shift]
               rw [if_neg hb]
               rfl)
        · rename_i hs
          split at h
          · rename_i hk
            subst hk
            cases op <;> simp only [intBin] at h <;> first
              | (cases h; done)
              | (simp [isShift] at hs; done)
              | (split at h <;> first
                  | (cases h; done)
                  | (simp only [Option.some.injEq] at h; subst h; rename_i hb; refine ⟨?_, rfl⟩
                     simp only [binOp, Op.intDiv]
                     rw [if_neg hb]
                     simp only [ne_eq, not_true_eq_false, if_false]
                     rfl))
              | (simp only [Option.some.injEq] at h; subst h; refine ⟨?_, rfl⟩
                 simp only [binOp, Op.intBits, ne_eq, not_true_eq_false, if_false]
                 rfl)
          · cases h
      rw [via_of hp hpl key.1 key.2]
    · rename_i a b hx hy
      have hpl : (o.op.operands.toList.map ρ).all plainV = true := by rw [hops, hx, hy]; rfl
      have key : pureRun E.P (execOp ρ o) = some (.ok (.value v)) ∧ plainV v = true := by
        unfold execOp
        rw [ho]
        simp only [hx, hy]
        cases op <;> simp only [strBin] at h <;> first
          | (cases h; done)
          | (split at h <;> first
              | (cases h; done)
              | (simp only [Option.some.injEq] at h; subst h; rename_i hb; refine ⟨?_, rfl⟩
                 simp only [binOp, Op.stringOp]
                 rw [if_neg hb]
                 rfl))
          | (simp only [Option.some.injEq] at h; subst h; refine ⟨?_, rfl⟩
             simp only [binOp, Op.stringOp]
             rfl)
      rw [via_of hp hpl key.1 key.2]
    · cases h

/-- What is asked of the look at a program. -/
structure SxEnv (E : Env) : Prop where
  sl : E.sl = []
  und : ∀ t d, E.und t = some d → E.P.underlying t = some d

theorem pureRun_bind {α β : Type} {P : Program} {f : α → Sem β} {a : α} : ∀ {s : Sem α}, pureRun P s = some (.ok a) → pureRun P (s >>= f) = pureRun P (f a) := by
  intro s
  show _ → pureRun P (s.bind f) = _
  induction s with
  | pure b => intro h; simp only [pureRun, Option.some.injEq, Except.ok.injEq] at h; subst h; rfl
  | program k ih => intro h; simp only [pureRun] at h; exact ih P h
  | halt x => intro h; cases x <;> simp [pureRun] at h
  | _ => intro h; simp [pureRun] at h
theorem pureRun_und {P : Program} {t : TypeId} {d : TypeDesc} (h : P.underlying t = some d) : pureRun P (underlying t) = some (.ok d) := by
  show pureRun P (match P.underlying t with
    | some d => pure d
    | none => stuck "no such type") = _
  rw [h]
  rfl

theorem equal_nil {P : Program} {t : TypeId} {d : TypeDesc} (hu : P.underlying t = some d) {x y : Value} {b : Bool} (h : nilEq d x y = some b) : pureRun P (Op.equal t x y) = some (.ok b) := by
  show pureRun P (underlying t >>= fun d => _) = _
  rw [pureRun_bind (pureRun_und hu)]
  unfold nilEq at h
  split at h <;> first
    | (cases h; rfl)
    | cases h

theorem eqn_ok (hE : SxEnv E) {op : BinOp} {t u : TypeId} {d : TypeDesc} {x y : Operand} (ho : o.op = .binOp op t x y u) (hop : op = .eql ∨ op = .neq) (hc : isConst y = true) (hd : E.und t = some d) {b : Bool}
    (h : nilEq d (ρ x) (ρ y) = some b) : xBinOp E A ρ o op t x y = some (.val (.bool (if op = .eql then b else !b)), A) := by
  have hu := hE.und _ _ hd
  have hp : pureOp o = true := by unfold pureOp; rw [ho]
  have hops : o.op.operands.toList.map ρ = [ρ x, ρ y] := by rw [ho]; rfl
  have hf : fast E.sl op (ρ x) (ρ y) = none := by
    unfold nilEq at h
    split at h <;> first
      | (cases h; done)
      | (rename_i h1 h2; rw [h1, h2]; rfl)
      | (rename_i h1 h2 _; rw [h1, h2]; rfl)
      | skip
  have hrun : pureRun E.P (execOp ρ o) = some (.ok (.value (.bool (if op = .eql then b else !b)))) := by
    unfold execOp
    rw [ho]
    simp only
    have hg : pureRun E.P (eqGuard op t x y (ρ x) (ρ y)) = some (.ok ()) := by
      unfold eqGuard
      cases y <;> simp only [isConst, Bool.false_eq_true] at hc
      unfold nilEq at h
      split at h <;> first
        | (cases h; done)
        | (rcases hop with rfl | rfl <;> simp_all <;> rfl)
    have he := equal_nil hu h
    have hb : pureRun E.P (binOp op t (ρ x) (ρ y)) = some (.ok (.bool (if op = .eql then b else !b))) := by
      revert he
      unfold nilEq at h
      split at h <;> first
        | (cases h; done)
        | (rename_i h1 h2
           rw [h1, h2]
           intro he
           rcases hop with rfl | rfl
           · show pureRun E.P (Op.equal t _ _ >>= fun b => (pure (Value.bool b) : Sem Value)) = _
             rw [pureRun_bind he]; rfl
           · show pureRun E.P (Op.equal t _ _ >>= fun b => (pure (Value.bool (!b)) : Sem Value)) = _
             rw [pureRun_bind he]; rfl)
    show pureRun E.P ((eqGuard op t x y (ρ x) (ρ y) >>= fun _ => binOp op t (ρ x) (ρ y)) >>= fun r => (pure (Next.value r) : Sem Next)) = _
    rw [pureRun_bind (by rw [pureRun_bind hg]; exact hb)]
    rfl
  unfold xBinOp
  rw [hf]
  simp only
  cases hpl : (o.op.operands.toList.map ρ).all plainV with
  | true => rw [via_of hp hpl hrun rfl]
  | false =>
    have hv : viaPure E A ρ o = none := by unfold viaPure; rw [hp, hpl]; rfl
    rw [hv, hd]
    rw [hops] at hpl
    rcases hop with rfl | rfl
    · simp only [Option.bind_some]
      unfold nilEq at h
      split at h <;> first
        | (cases h; done)
        | (cases h; rename_i h1 h2; rw [h1, h2] at hpl ⊢; first | rfl | (exact absurd (hpl.symm.trans rfl : false = true) Bool.false_ne_true))
    · simp only [Option.bind_some]
      unfold nilEq at h
      split at h <;> first
        | (cases h; done)
        | (cases h; rename_i h1 h2; rw [h1, h2] at hpl ⊢; first | rfl | (exact absurd (hpl.symm.trans rfl : false = true) Bool.false_ne_true))

theorem equal_bool {P : Program} {t : TypeId} (hu : P.underlying t = some .bool) (a b : Bool) : pureRun P (Op.equal t (.bool a) (.bool b)) = some (.ok (a == b)) := by
  show pureRun P (underlying t >>= fun d => _) = _
  rw [pureRun_bind (pureRun_und hu)]
  rfl
theorem beq_ok (hE : SxEnv E) {op : BinOp} {t u : TypeId} {x y : Operand} (ho : o.op = .binOp op t x y u) (hop : op = .eql ∨ op = .neq) (hd : E.und t = some .bool) {a b : Bool}
    (hx : ρ x = .bool a) (hy : ρ y = .bool b) : xBinOp E A ρ o op t x y = some (.val (.bool (if op = .eql then a == b else !(a == b))), A) := by
  have hu := hE.und _ _ hd
  have hp : pureOp o = true := by unfold pureOp; rw [ho]
  have hops : o.op.operands.toList.map ρ = [ρ x, ρ y] := by rw [ho]; rfl
  have hf : fast E.sl op (ρ x) (ρ y) = none := by rw [hx, hy]; rfl
  have hpl : (o.op.operands.toList.map ρ).all plainV = true := by rw [hops, hx, hy]; rfl
  have hrun : pureRun E.P (execOp ρ o) = some (.ok (.value (.bool (if op = .eql then a == b else !(a == b))))) := by
    unfold execOp
    rw [ho]
    simp only [hx, hy]
    have he := equal_bool hu a b
    rcases hop with rfl | rfl
    · show pureRun E.P ((Op.equal t (.bool a) (.bool b) >>= fun r => (pure (Value.bool r) : Sem Value)) >>= fun r => (pure (Next.value r) : Sem Next)) = _
      rw [pureRun_bind (by rw [pureRun_bind he]; rfl)]
      rfl
    · show pureRun E.P ((Op.equal t (.bool a) (.bool b) >>= fun r => (pure (Value.bool (!r)) : Sem Value)) >>= fun r => (pure (Next.value r) : Sem Next)) = _
      rw [pureRun_bind (by rw [pureRun_bind he]; rfl)]
      rfl
  unfold xBinOp
  rw [hf]
  simp only
  rw [via_of hp hpl hrun rfl]
end
end Go.AM.SX

namespace Go.AM.SX
open Go

theorem setFrom_length : ∀ (cs l : List Value) (off : Nat), (setFrom l off cs).length = l.length
  | [], _, _ => rfl
  | c :: cs, l, off => by rw [setFrom, setFrom_length cs]; simp
theorem foldl_set : ∀ (cs : List Value) (k off : Nat) (a : Array Value), ((cs.zipIdx k).foldl (fun (a : Array Value) (p : Value × Nat) => a.setIfInBounds (off + p.2) p.1) a) = (setFrom a.toList (off + k) cs).toArray
  | [], k, off, a => by simp [setFrom]
  | c :: cs, k, off, a => by
    simp only [List.zipIdx_cons, List.foldl_cons]
    rw [foldl_set cs (k + 1) off]
    simp [setFrom, Nat.add_assoc]
theorem foldl_setA (cs a : Array Value) (off : Nat) : (cs.zipIdx.foldl (fun cs (c, j) => cs.setIfInBounds (off + j) c) a) = (setFrom a.toList off cs.toList).toArray := by
  have := foldl_set cs.toList 0 off a
  rw [← Array.foldl_toList]
  simpa using this
theorem fill_fillP {place : Nat → Option (Nat × Nat)} : ∀ {is : List Nat} {pl : List (Nat × Nat)} {vs l cs : List Value} (_ : is.map place = pl.map some) (_ : fillP pl vs l = some cs),
    Instr.fill place l.toArray (is.zip vs) = some cs.toArray
  | [], [], [], l, cs, _, h => by simp only [fillP, Option.some.injEq] at h; subst h; rfl
  | [], [], v :: vs, l, cs, _, h => by simp [fillP] at h
  | i :: is, [], vs, l, cs, hp, h => by simp at hp
  | [], p :: pl, vs, l, cs, hp, h => by simp at hp
  | i :: is, p :: pl, [], l, cs, hp, h => by simp [fillP] at h
  | i :: is, (off, size) :: pl, v :: vs, l, cs, hp, h => by
    simp only [List.map_cons, List.cons.injEq] at hp
    simp only [fillP] at h
    split at h
    · rename_i hc
      simp only [List.zip_cons_cons, Instr.fill, hp.1]
      rw [if_neg (by simp; omega)]
      rw [foldl_setA]
      exact fill_fillP hp.2 h
    · cases h

section
variable {E : Env} {σ : Sg} {sf : SF} {fr : Fr} {o : Oper}

theorem numPlaces_map {pl : List (Nat × Nat)} : ∀ {is : List Nat} {ps : List (Nat × Nat)}, numPlaces pl is = some ps → is.map (fun i => pl.toArray[i]?) = ps.map some
  | [], ps, h => by cases h; rfl
  | i :: is, ps, h => by
    simp only [numPlaces] at h
    split at h
    · rename_i p ps' h1 h2
      cases h
      simp only [List.map_cons]
      rw [numPlaces_map h2]
      simp [h1]
    · cases h
theorem zip_map_snd {α : Type} (parts : List (Nat × α)) (g : α → Value) : (parts.map (·.1)).zip (parts.map fun p => g p.2) = parts.map fun p => (p.1, g p.2) := by
  induction parts with
  | nil => rfl
  | cons p ps ih => simp [ih]
theorem evalL_snd (hf : FrRel σ sf fr) {parts : List (Nat × Operand)} {xs : List X} (h : evalL sf (parts.map (·.2)) = some xs) : (parts.map fun p => (p.1, evalO fr p.2)) = (parts.map (·.1)).zip (denL σ xs) := by
  have h2 := (evalS_map hf h).2
  rw [← h2, List.map_map]
  exact (zip_map_snd parts (evalO fr)).symm

theorem build_ok (hf : FrRel σ sf fr) {t : TypeId} {parts : List (Nat × Operand)} {a : Act} (ho : o.op = .build t parts.toArray) (hl : litsOk E o = true) (h : trBuild E sf t parts = some a) : ActOk E σ fr o a := by
  unfold trBuild at h
  split at h
  · rename_i fs z xs hu hz hx
    split at h
    · rename_i pl hpl
      split at h
      · rename_i pl' hnp
        cases h
        intro A v A' hs
        simp only [semR] at hs
        split at hs
        · rename_i cs hc
          cases hs
          rw [opX_of hl]
          unfold opD
          rw [ho]
          show xBuild E A (evalO fr) t parts.toArray = _
          unfold xBuild
          rw [hu, hz]
          simp only [hpl]
          rw [evalL_snd hf hx]
          have := fill_fillP (numPlaces_map hnp) hc
          rw [show z.cells.toList.toArray = z.cells from rfl] at this
          rw [this]
        · cases hs
      · cases h
    · cases h
  · rename_i x1 e z xs hu hz hx
    split at h
    · rename_i s hsz
      cases h
      intro A v A' hs
      simp only [semR] at hs
      split at hs
      · rename_i cs hc
        cases hs
        rw [opX_of hl]
        unfold opD
        rw [ho]
        show xBuild E A (evalO fr) t parts.toArray = _
        unfold xBuild
        rw [hu, hz]
        simp only [hsz]
        rw [evalL_snd hf hx]
        have := fill_fillP (place := fun i => some (i * s, s)) (is := parts.map (·.1)) (by simp) hc
        rw [show z.cells.toList.toArray = z.cells from rfl] at this
        rw [this]
      · cases hs
    · cases h
  · cases h

theorem buildSlice_ok (hf : FrRel σ sf fr) {t : TypeId} {len : Nat} {parts : List (Nat × Operand)} {a : Act} (ho : o.op = .buildSlice t len parts.toArray) (hl : litsOk E o = true) (h : trBuildSlice E sf t len parts = some a) : ActOk E σ fr o a := by
  unfold trBuildSlice at h
  split at h
  · rename_i e xs hu hx
    split at h
    · rename_i s z hsz hz
      split at h
      · cases h
      · rename_i hn
        cases h
        intro A v A' hs
        simp only [semR] at hs
        split at hs
        · rename_i cs hc
          cases hs
          rw [opX_of hl]
          unfold opD
          rw [ho]
          show _ ∧ xBuildSlice E A (evalO fr) t len parts.toArray = _
          unfold xBuildSlice
          rw [hu]
          simp only [hsz, hz]
          rw [if_neg hn, evalL_snd hf hx]
          have := fill_fillP (place := fun i => some (i * s, s)) (is := parts.map (·.1)) (by simp) hc
          rw [this]
          exact ⟨⟨_, rfl⟩, rfl⟩
        · cases hs
    · cases h
  · cases h
end
end Go.AM.SX

namespace Go.AM.SX
open Go
section
variable {E : Env} {σ : Sg} {sf : SF} {fr : Fr} {o : Oper}

theorem optL_ok (hf : FrRel σ sf fr) {lo hi mx : Option Operand} {xs : List X} (h : optL sf [lo, hi, mx] = some xs) :
    ∃ l : Option Value, lo.map (evalO fr) = l ∧ denL σ xs = (lo.map (evalO fr)).toList ++ (hi.map (evalO fr)).toList ++ (mx.map (evalO fr)).toList := by
  refine ⟨_, rfl, ?_⟩
  have key : ∀ {os : List (Option Operand)} {xs : List X}, optL sf os = some xs → denL σ xs = (os.map fun o => (o.map (evalO fr)).toList).flatten := by
    intro os
    induction os with
    | nil => intro xs h; cases h; rfl
    | cons o os ih =>
      intro xs h
      cases o with
      | none => exact ih h
      | some o =>
        simp only [optL] at h
        split at h
        · rename_i x xs' h1 h2
          cases h
          have := (evalS_ok hf h1).2
          simp only [denL, List.map_cons, List.flatten_cons, Option.map_some, Option.toList_some]
          rw [this]
          have := ih h2
          simp only [denL] at this
          rw [this]
          rfl
        · cases h
  rw [key h]
  simp

theorem slice_ok (hf : FrRel σ sf fr) {t : TypeId} {x : Operand} {lo hi mx : Option Operand} {a : Act} (ho : o.op = .slice t x lo hi mx) (hl : litsOk E o = true) (h : trSlice E sf t x lo hi mx = some a) : ActOk E σ fr o a := by
  unfold trSlice at h
  split at h
  · cases h
  rename_i hm
  have hgo : ∀ A v, sliceOp E A t (evalO fr x) (lo.map (evalO fr)) (hi.map (evalO fr)) (mx.map (evalO fr)) = some v → opX E A (evalO fr) o = some (.val v, A) := by
    intro A v hs
    rw [opX_of hl]
    unfold opD
    rw [ho]
    show xSlice E A (evalO fr) t x lo hi mx = _
    unfold xSlice
    rw [hs]
  have hm' : ¬ ((mx.map (evalO fr)).isSome && (hi.map (evalO fr)).isNone) = true := by simpa using hm
  split at h
  · rename_i a' xs hu hx hxs
    cases mx with
    | some m => cases h
    | none =>
      cases h
      intro A v A' hs
      obtain ⟨_, _, hd⟩ := optL_ok hf hxs
      have hx' := (evalS_ok hf hx).2
      simp only [denL, List.map_cons] at hs
      have hd' : xs.map (·.den σ) = _ := hd
      rw [hd', ← hx'] at hs
      cases hv : evalO fr x with
      | string s =>
        rw [hv] at hs
        have hvals : ∃ r, sliceOp E A t (evalO fr x) (lo.map (evalO fr)) (hi.map (evalO fr)) none = some r ∧ some (r, A) = some (v, A') := by
          unfold sliceOp
          rw [if_neg (by simp), hu, hv]
          cases lo <;> cases hi <;>
            simp only [semR, Option.map_none, Option.map_some, Option.toList_none, Option.toList_some, List.nil_append, List.append_nil, List.cons_append, Option.isSome_some, Option.isSome_none, if_true, Bool.false_eq_true, if_false, List.head?_cons, List.tail_cons, List.head?_nil] at hs ⊢ <;>
            (split at hs <;> first
              | (cases hs; done)
              | (split at hs <;> first
                  | (cases hs; done)
                  | (rename_i h1 _ _ h2; rw [h1]; simp only; rw [h2]; exact ⟨_, rfl, hs⟩)))
        obtain ⟨r, hr, he⟩ := hvals
        cases he
        exact hgo A _ hr
      | _ => rw [hv] at hs; simp [semR] at hs
  · rename_i e a' xs hu hx hxs
    split at h
    · rename_i sz hsz
      cases h
      intro A v A' hs
      obtain ⟨_, _, hd⟩ := optL_ok hf hxs
      have hx' := (evalS_ok hf hx).2
      simp only [denL, List.map_cons] at hs
      have hd' : xs.map (·.den σ) = _ := hd
      rw [hd', ← hx'] at hs
      have hA : A' = A ∧ sliceOp E A t (evalO fr x) (lo.map (evalO fr)) (hi.map (evalO fr)) (mx.map (evalO fr)) = some v := by
        unfold sliceOp
        rw [if_neg hm', hu]
        simp only [semR] at hs
        have e1 : (if lo.isSome = true then ((lo.map (evalO fr)).toList ++ (hi.map (evalO fr)).toList ++ (mx.map (evalO fr)).toList).head? else none) = lo.map (evalO fr) := by cases lo <;> simp
        have e2 : (if lo.isSome = true then ((lo.map (evalO fr)).toList ++ (hi.map (evalO fr)).toList ++ (mx.map (evalO fr)).toList).tail else ((lo.map (evalO fr)).toList ++ (hi.map (evalO fr)).toList ++ (mx.map (evalO fr)).toList)) = (hi.map (evalO fr)).toList ++ (mx.map (evalO fr)).toList := by cases lo <;> simp
        have e3 : (if hi.isSome = true then ((hi.map (evalO fr)).toList ++ (mx.map (evalO fr)).toList).head? else none) = hi.map (evalO fr) := by cases hi <;> simp
        have e4 : (if hi.isSome = true then ((hi.map (evalO fr)).toList ++ (mx.map (evalO fr)).toList).tail else ((hi.map (evalO fr)).toList ++ (mx.map (evalO fr)).toList)) = (mx.map (evalO fr)).toList := by cases hi <;> simp
        have e5 : (if mx.isSome = true then ((mx.map (evalO fr)).toList).head? else none) = mx.map (evalO fr) := by cases mx <;> simp
        rw [e1, e2, e3, e4, e5] at hs
        cases hv : evalO fr x with
        | slice base len cap =>
          rw [hv] at hs
          cases base with
          | none =>
            simp only [hsz] at hs ⊢
            split at hs
            · rename_i hle
              rw [hle]
              simp only
              split at hs <;> first
                | (cases hs; done)
                | skip
              rename_i m hm1
              rw [hm1]; simp only
              split at hs <;> first
                | (cases hs; done)
                | skip
              rename_i hh hh1
              rw [hh1]; simp only
              split at hs <;> first
                | (cases hs; done)
                | skip
              rename_i l hl1
              rw [hl1]
              cases hs
              exact ⟨rfl, rfl⟩
            · cases hs
          | some ad =>
            simp only [hsz] at hs ⊢
            split at hs <;> first
              | (cases hs; done)
              | skip
            rename_i r hr
            rw [hr]; simp only
            split at hs <;> first
              | (cases hs; done)
              | skip
            rename_i m hm1
            rw [hm1]; simp only
            split at hs <;> first
              | (cases hs; done)
              | skip
            rename_i hh hh1
            rw [hh1]; simp only
            split at hs <;> first
              | (cases hs; done)
              | skip
            rename_i l hl1
            rw [hl1]; simp only
            split at hs
            · rename_i ho1
              rw [ho1]; simp only
              split at hs
              · cases hs
              · rename_i hc
                rw [if_neg (by simpa using hc)]
                cases hs
                exact ⟨rfl, rfl⟩
            · rename_i ho1
              rw [ho1]
              cases hs
              exact ⟨rfl, rfl⟩
        | _ => rw [hv] at hs; cases hs
      obtain ⟨rfl, hr⟩ := hA
      exact hgo A' _ hr
    · cases h
  · cases h
end
end Go.AM.SX

namespace Go.AM.SX
open Go
section
variable {E : Env} {σ : Sg} {sf : SF} {fr : Fr} {o : Oper}

theorem conv_via {src dst : TypeId} {x : Operand} {A : St} {ρ : Operand → Value} {v : Value} (ho : o.op = .convert src dst x) 
    (hp : plainV (ρ x) = true) (hv : plainV v = true) (hc : pureRun E.P (convert src dst (ρ x)) = some (.ok v)) : viaPure E A ρ o = some (.val v, A) := by
  refine via_of (by unfold pureOp; rw [ho]) (by rw [ho]; show [ρ x].all plainV = true; simp [hp]) ?_ hv
  unfold execOp
  rw [ho]
  show pureRun E.P (convert src dst (ρ x) >>= fun r => (pure (Next.value r) : Sem Next)) = _
  rw [pureRun_bind hc]
  rfl
theorem conv_run (hE : SxEnv E) {src dst : TypeId} {ds dd : TypeDesc} (hs : E.und src = some ds) (hd : E.und dst = some dd) {f : TypeDesc → TypeDesc → Sem Value} :
    pureRun E.P (underlying src >>= fun a => underlying dst >>= fun b => f a b) = pureRun E.P (f ds dd) := by
  rw [pureRun_bind (pureRun_und (hE.und _ _ hs)), pureRun_bind (pureRun_und (hE.und _ _ hd))]

theorem convert_ok (hE : SxEnv E) (hf : FrRel σ sf fr) {src dst : TypeId} {x : Operand} {a : Act} (ho : o.op = .convert src dst x) (hl : litsOk E o = true) (h : trConvert E sf src dst x = some a) : ActOk E σ fr o a := by
  have hX : ∀ A, opX E A (evalO fr) o = xConvert E A (evalO fr) o src dst x := by
    intro A
    rw [opX_of hl]
    unfold opD
    rw [ho]
  unfold trConvert at h
  split at h
  · rename_i k0 k a' hs hd hx
    have hx' := (evalS_ok hf hx).2
    have main : ∀ A j n, evalO fr x = .int j n → opX E A (evalO fr) o = some (.val (.int k (k.wrap n)), A) := by
      intro A j n hv
      rw [hX]
      unfold xConvert
      rw [hs, hd]
      simp only
      refine conv_via ho (by rw [hv]; rfl) rfl ?_
      rw [hv]
      show pureRun E.P (underlying src >>= fun a => underlying dst >>= fun b => _) = _
      rw [conv_run hE hs hd]
      rfl
    split at h
    · rename_i j n
      cases h
      exact ⟨vv_good σ _, fun A => main A j n hx'⟩
    · cases h
      intro A v A' hr
      simp only [denL, List.map_cons, List.map_nil] at hr
      rw [← hx'] at hr
      cases hv : evalO fr x with
      | int j n =>
        rw [hv] at hr
        simp only [semR, Option.some.injEq, Prod.mk.injEq] at hr
        obtain ⟨rfl, rfl⟩ := hr
        exact main A j n hv
      | _ => rw [hv] at hr; simp [semR] at hr
  · rename_i k0 a' hs hd hx
    cases h
    have hx' := (evalS_ok hf hx).2
    intro A v A' hr
    simp only [denL, List.map_cons, List.map_nil] at hr
    rw [← hx'] at hr
    cases hv : evalO fr x with
    | int j n =>
      rw [hv] at hr
      simp only [semR, Option.some.injEq, Prod.mk.injEq] at hr
      obtain ⟨rfl, rfl⟩ := hr
      rw [hX]
      unfold xConvert
      rw [hs, hd]
      simp only
      refine conv_via ho (by rw [hv]; rfl) rfl ?_
      rw [hv]
      show pureRun E.P (underlying src >>= fun a => underlying dst >>= fun b => _) = _
      rw [conv_run hE hs hd]
      rfl
    | _ => rw [hv] at hr; simp [semR] at hr
  · rename_i e a' hs hd hx
    split at h
    · rename_i he
      cases h
      have hx' := (evalS_ok hf hx).2
      intro A v A' hr
      simp only [denL, List.map_cons, List.map_nil] at hr
      rw [← hx'] at hr
      simp only [semR] at hr
      split at hr
      · rename_i l hb
        cases hr
        rw [hX]
        unfold xConvert
        rw [hs, hd]
        simp only [he, hb]
      · cases hr
    · cases h
  · rename_i e a' hs hd hx
    split at h
    · rename_i he
      cases h
      have hx' := (evalS_ok hf hx).2
      intro A v A' hr
      simp only [denL, List.map_cons, List.map_nil] at hr
      rw [← hx'] at hr
      cases hv : evalO fr x with
      | string s =>
        rw [hv] at hr
        simp only [semR, Option.some.injEq, Prod.mk.injEq] at hr
        obtain ⟨rfl, rfl⟩ := hr
        rw [hX]
        unfold xConvert
        rw [hs, hd, hv]
        simp only [he]
      | _ => rw [hv] at hr; simp [semR] at hr
    · cases h
  · rename_i a' hs hd hx
    cases h
    have hx' := (evalS_ok hf hx).2
    intro A v A' hr
    simp only [denL, List.map_cons, List.map_nil] at hr
    rw [← hx'] at hr
    cases hv : evalO fr x with
    | string s =>
      rw [hv] at hr
      simp only [semR, Option.some.injEq, Prod.mk.injEq] at hr
      obtain ⟨rfl, rfl⟩ := hr
      rw [hX]
      unfold xConvert
      rw [hs, hd, hv]
      simp only
      refine conv_via ho (by rw [hv]; rfl) rfl ?_
      rw [hv]
      show pureRun E.P (underlying src >>= fun a => underlying dst >>= fun b => _) = _
      rw [conv_run hE hs hd]
      rfl
    | _ => rw [hv] at hr; simp [semR] at hr
  · cases h

theorem callX {c : Call} (ho : o.op = .call c) (hl : litsOk E o = true) (A : St) (ρ : Operand → Value) : opX E A ρ o = xCall E A ρ o c := by
  rw [opX_of hl]
  unfold opD
  rw [ho]
theorem builtinX {c : Call} {b : Builtin} (ho : o.op = .call c) (hl : litsOk E o = true) (hb : c.callee = .builtin b) (A : St) (ρ : Operand → Value) : opX E A ρ o = builtinOp E A b c.argTypes.toList o.type (c.args.toList.map ρ) := by
  rw [callX ho hl]
  unfold xCall resolveT
  rw [hb]
  simp [invokeT]

theorem denL_len {xs : List X} {n : Nat} (h : xs.length = n) : (denL σ xs).length = n := by simp [denL, h]

theorem trBuiltin_ok {b : Builtin} {ts : List TypeId} {xs : List X} {a : Act} (hg : ∀ x, x ∈ xs → x.good σ) (h : trBuiltin E b ts xs = some a) (hX : ∀ A, opX E A (evalO fr) o = builtinOp E A b ts o.type (denL σ xs)) : ActOk E σ fr o a := by
  unfold trBuiltin at h
  split at h
  · -- len
    rename_i t ts' x
    simp only [denL, List.map_cons, List.map_nil] at hX
    split at h
    · rename_i e hu
      split at h
      · rename_i aa n
        cases h
        refine ⟨vv_good σ _, fun A => ?_⟩
        rw [hX]
        obtain ⟨p, hp⟩ := (hg _ (List.mem_singleton.2 rfl)).2
        simp only [builtinOp, bLen, und0, hu, X.den, hp, slV]
        rfl
      · rename_i p n q
        cases h
        refine ⟨vv_good σ _, fun A => ?_⟩
        rw [hX]
        simp only [builtinOp, bLen, und0, hu]
        rfl
      · cases h
        intro A v A' hr
        simp only [denL, List.map_cons, List.map_nil] at hr
        rw [hX]
        cases hv : x.den σ <;> rw [hv] at hr <;> simp only [semR] at hr <;> first
          | (cases hr; done)
          | (cases hr; simp only [builtinOp, bLen, und0, hu])
    · rename_i hu
      split at h
      · rename_i s
        cases h
        refine ⟨vv_good σ _, fun A => ?_⟩
        rw [hX]
        simp only [builtinOp, bLen, und0, hu]
        rfl
      · cases h
        intro A v A' hr
        simp only [denL, List.map_cons, List.map_nil] at hr
        rw [hX]
        cases hv : x.den σ <;> rw [hv] at hr <;> simp only [semR] at hr <;> first
          | (cases hr; done)
          | (cases hr; simp only [builtinOp, bLen, und0, hu])
    · rename_i k v hu
      cases h
      intro A v A' hr
      simp only [denL, List.map_cons, List.map_nil] at hr
      rw [hX]
      cases hv : x.den σ <;> rw [hv] at hr <;> first
        | (simp only [semR] at hr; cases hr; done)
        | skip
      rename_i r
      cases r with
      | none => simp only [semR] at hr; cases hr; simp only [builtinOp, bLen, und0, hu]
      | some r =>
        simp only [semR] at hr
        split at hr
        · rename_i es c hg
          cases hr
          simp only [builtinOp, bLen, und0, hu, hg]
        · cases hr
    · rename_i n e hu
      cases h
      refine ⟨vv_good σ _, fun A => ?_⟩
      rw [hX]
      simp only [builtinOp, bLen, und0, hu]
      rfl
    · cases h
  · -- cap
    rename_i t ts' x
    simp only [denL, List.map_cons, List.map_nil] at hX
    split at h
    · rename_i e hu
      cases h
      intro A v A' hr
      simp only [denL, List.map_cons, List.map_nil] at hr
      rw [hX]
      cases hv : x.den σ <;> rw [hv] at hr <;> first
        | (simp only [semR] at hr; cases hr; done)
        | skip
      rename_i r l c
      cases r with
      | none => simp only [semR] at hr; cases hr; simp only [builtinOp, bCap, und0, hu]
      | some r =>
        simp only [semR] at hr
        split at hr
        · rename_i rr hg
          split at hr
          · cases hr
          · rename_i hc
            cases hr
            simp only [builtinOp, bCap, und0, hu, hg]
            rw [if_neg hc]
        · cases hr
    · cases h
  · -- append
    rename_i t t1 x y
    simp only [denL, List.map_cons, List.map_nil] at hX
    split at h
    · cases h
    · rename_i e d1 hn hu hu1
      split at h
      · rename_i i z hi hz
        cases h
        intro A v A' hr
        simp only [denL, List.map_cons, List.map_nil] at hr
        rw [hX]
        cases hv : x.den σ <;> rw [hv] at hr <;> first
          | (simp only [semR] at hr; cases hr; done)
          | skip
        rename_i base len cap
        simp only [semR] at hr
        simp only [builtinOp, bAppend]
        unfold app
        simp only [hu, hu1, hi, hz]
        have hnew : newCells E A d1 e i (y.den σ) = newC A i.size (y.den σ) := by
          unfold newCells newC
          cases d1 <;> first
            | rfl
            | exact (hn _ rfl).elim
        rw [hnew]
        split at hr
        · rename_i n new hm
          rw [hm]
          simp only
          split at hr
          · rename_i hc
            rw [if_pos hc]
            split at hr
            · rename_i hle
              rw [if_pos hle, hr]
            · rename_i hle
              rw [if_neg hle, hr]
          · cases hr
        · cases hr
      · cases h
    · cases h
  · -- copy
    rename_i t ts' x y
    simp only [denL, List.map_cons, List.map_nil] at hX
    split at h
    · rename_i e hu
      split at h
      · rename_i sz hsz
        cases h
        intro A v A' hr
        simp only [denL, List.map_cons, List.map_nil] at hr
        rw [hX]
        cases hv : x.den σ <;> rw [hv] at hr <;> first
          | (simp only [semR] at hr; cases hr; done)
          | skip
        rename_i base dl cap
        simp only [semR] at hr
        simp only [builtinOp, bCopy, und0, hu, hsz]
        split at hr <;> first
          | (cases hr; done)
          | skip
        rename_i sl hsl
        rw [hsl]; simp only
        split at hr <;> first
          | (cases hr; done)
          | skip
        rename_i cs hcs
        rw [hcs]; simp only
        cases base with
        | none => cases hr; rfl
        | some ad =>
          simp only at hr ⊢
          split at hr
          · rename_i hc
            rw [if_pos hc]
            cases hr; rfl
          · rename_i hc
            rw [if_neg hc]
            split at hr
            · rename_i A'' hst
              rw [hst]
              cases hr; rfl
            · cases hr
      · cases h
    · cases h
  · -- delete
    rename_i t ts' x y
    simp only [denL, List.map_cons, List.map_nil] at hX
    split at h
    · rename_i kt vt hu
      split at h
      · rename_i kd hkd
        cases h
        intro A v A' hr
        simp only [denL, List.map_cons, List.map_nil] at hr
        rw [hX]
        cases hv : x.den σ <;> rw [hv] at hr <;> first
          | (simp only [semR] at hr; cases hr; done)
          | skip
        rename_i r
        cases r with
        | none => simp only [semR] at hr; cases hr
        | some r =>
          simp only [semR] at hr
          simp only [builtinOp, bDelete, und0, hu, hkd]
          split at hr <;> first
            | (cases hr; done)
            | skip
          rename_i es c hg
          rw [hg]; simp only
          split at hr <;> first
            | (cases hr; done)
            | skip
          rename_i hk
          rw [if_pos hk]
          split at hr
          · rename_i i v' hfe
            rw [hfe]
            cases hr; rfl
          · rename_i hfe
            rw [hfe]
            cases hr; rfl
          · cases hr
      · cases h
    · cases h
  · -- max
    rename_i x y
    cases h
    intro A v A' hr
    simp only [denL, List.map_cons, List.map_nil] at hr hX
    rw [hX]
    cases hv : x.den σ <;> rw [hv] at hr <;> first
      | (simp only [semR] at hr; cases hr; done)
      | skip
    cases hw : y.den σ <;> rw [hw] at hr <;> first
      | (simp only [semR] at hr; cases hr; done)
      | skip
    simp only [semR] at hr
    cases hr
    rfl
  · rename_i x y
    cases h
    intro A v A' hr
    simp only [denL, List.map_cons, List.map_nil] at hr hX
    rw [hX]
    cases hv : x.den σ <;> rw [hv] at hr <;> first
      | (simp only [semR] at hr; cases hr; done)
      | skip
    cases hw : y.den σ <;> rw [hw] at hr <;> first
      | (simp only [semR] at hr; cases hr; done)
      | skip
    simp only [semR] at hr
    cases hr
    rfl
  · cases h
end
end Go.AM.SX

namespace Go.AM.SX
open Go
section
variable {E : Env} {σ : Sg} {sf : SF} {fr : Fr} {o : Oper}

theorem at_den (cs : List At) : denL σ (cs.map .at) = cs.map (·.den σ) := by simp [denL, X.den]

theorem call_ok (hf : FrRel σ sf fr) {c : Call} {a : Act} (ho : o.op = .call c) (hl : litsOk E o = true) (h : trCall E sf c = some a) : ActOk E σ fr o a := by
  unfold trCall at h
  split at h
  · cases h
  rename_i xs hxs
  obtain ⟨hgood, hargs⟩ := evalS_map hf hxs
  split at h
  · rename_i b hb
    refine trBuiltin_ok hgood h fun A => ?_
    rw [builtinX ho hl hb, hargs]
  · rename_i f hc
    split at h
    · rename_i g cs hg
      obtain ⟨hg1, hg2⟩ := evalS_ok hf hg
      have hX : ∀ A, opX E A (evalO fr) o = callF E A g (denL σ xs ++ cs.map (·.den σ)) := by
        intro A
        rw [callX ho hl]
        unfold xCall resolveT
        rw [hc]
        simp only [hg2, X.den, invokeT]
        congr 1
        simp [← hargs]
      split at h
      · rename_i fn hfn
        split at h
        · rename_i body hbody
          cases h
          refine ⟨fun x hx => ?_, fun A => ?_⟩
          · rcases List.mem_append.1 hx with hx | hx
            · exact hgood x hx
            · obtain ⟨at', ha, rfl⟩ := List.mem_map.1 hx
              exact ⟨List.all_eq_true.1 hg1.1 at' ha, trivial⟩
          · rw [hX]
            unfold callF
            rw [hfn]
            simp only [hbody]
            simp [denL, X.den]
        · rename_i hbody
          split at h
          · cases h
            intro A v A' hr
            rw [hX]
            unfold callF
            rw [hfn]
            simp only [hbody, List.map_nil, List.append_nil]
            simp only [semR] at hr
            rw [hr]
          · cases h
      · cases h
    · rename_i k hg
      cases h
      intro A g fs cs hd hb
      obtain ⟨fn, hfn, hbody⟩ := hb
      obtain ⟨_, hg2⟩ := evalS_ok hf hg
      rw [callX ho hl]
      unfold xCall resolveT
      rw [hc]
      have : evalO fr f = .func (.func g) fs cs := hg2.trans hd
      simp only [this, invokeT]
      unfold callF
      rw [hfn]
      obtain ⟨body, hbody⟩ := Option.isSome_iff_exists.1 hbody
      simp only [hbody]
      simp [← hargs]
    · cases h
  · rename_i r name hc
    split at h
    · rename_i x hx
      cases h
      intro A g as hm
      obtain ⟨_, hx2⟩ := evalS_ok hf hx
      rw [callX ho hl]
      unfold xCall resolveT
      rw [hc]
      simp only [invokeT]
      have : (#[evalO fr r] ++ c.args.map (evalO fr)).toList = evalO fr r :: denL σ xs := by simp [← hargs]
      rw [this, hx2]
      exact hm
    · cases h

theorem atomicL_ok : ∀ {xs : List X} {l : List At}, atomicL xs = some l → (∀ x, x ∈ xs → X.good σ x) → l.all (·.ok σ.length) = true ∧ denL σ xs = l.map (·.den σ)
  | [], l, h, _ => by cases h; exact ⟨rfl, rfl⟩
  | x :: xs, l, h, hg => by
    simp only [atomicL] at h
    split at h
    · rename_i a l' h1 h2
      cases h
      have : x = .at a := by cases x <;> simp [atomic] at h1; rw [h1]
      subst this
      obtain ⟨i1, i2⟩ := atomicL_ok h2 (fun y hy => hg y (List.mem_cons_of_mem _ hy))
      refine ⟨?_, ?_⟩
      · simp only [List.all_cons, i1, Bool.and_true]
        exact (hg _ (List.mem_cons_self ..)).1
      · simp only [denL, List.map_cons] at i2 ⊢
        rw [i2]
        rfl
    · cases h
end
end Go.AM.SX
