/- The operations, fourth part: what is compared, reckoned, cut, indexed. -/
import Derived.Test.YtkhgbpokoaklpaaGreatDoorAmOps3
import Derived.Laws.Strings
namespace Go.AM
section
variable {E : Env} {P : Program} {nm : Nm} {K : Kp} {base : World} {φ : Emb} {A A' : St} {w : World} {ρ ρ' : Operand → Value} {nx : Nx}

theorem nilDeref_plain : plainV (nilDeref E) = true := rfl
theorem run_nilDeref {α : Type} (ok : EnvOk E P nm) : (runtimePanic (α := α) .nilDeref).run P w = .halt (.panic (nilDeref E)) w := by
  simp [runtimePanic, program, Sem.run, goPanic, nilDeref, ok.prog]

theorem xNilCheck_ok (ok : EnvOk E P nm) (h : WR nm K base φ A w) (x : Operand) (hv : VR nm φ (ρ x) (ρ' x)) (hx : xNilCheck E A ρ x = some (nx, A')) (o : Oper) (ho : o.op = .nilCheck x) :
    Goal P nm K base φ A w (execOp ρ' o) nx A' := by
  unfold xNilCheck at hx
  unfold execOp
  simp only [ho]
  revert hv hx
  generalize ρ' x = c
  generalize ρ x = v
  intro hv hx
  split at hx
  · cases hx; cases hv; exact goal_pan h (.of_plainV nilDeref_plain) (run_nilDeref ok)
  · cases hx; cases hv; exact goal_pan h (.of_plainV nilDeref_plain) (run_nilDeref ok)
  · cases hx; cases hv; exact goal_pan h (.of_plainV nilDeref_plain) (run_nilDeref ok)
  · rename_i f fi ca
    cases hx
    obtain ⟨f', a', b', rfl, h1, h2, h3⟩ := hv.func_inv
    cases h1
    exact goal_now h hv
  · rename_i f fi ca
    cases hx
    obtain ⟨f', a', b', rfl, h1, h2, h3⟩ := hv.func_inv
    cases h1 with
    | yield l l' p g1 g2 => exact goal_now h (.func' (.yield _ _ p g1 g2) h2 h3)
  · cases hx
  · rename_i n1 n2 n3 n4 n5 n6
    cases hx
    cases hv with
    | nilp => exact absurd rfl n1
    | nili => exact absurd rfl n2
    | nilf => exact absurd rfl n3
    | func f f' a a' c c' g1 g2 g3 g4 g5 => exact absurd rfl (n6 _ _ _)
    | bool b => exact goal_now h (.bool b)
    | int k n => exact goal_now h (.int k n)
    | str s => exact goal_now h (.str s)
    | sym => exact goal_now h .sym
    | ptr a p g1 g2 => exact goal_now h (.ptr a p g1 g2)
    | nils l c => exact goal_now h (.nils l c)
    | slc a a' l c c' p h1 h2 h3 h4 h5 h6 h7 h8 => exact goal_now h (.slc a a' l c c' p h1 h2 h3 h4 h5 h6 h7 h8)
    | nilm => exact goal_now h .nilm
    | map r p g1 => exact goal_now h (.map r p g1)
    | iface t v v' g => exact goal_now h (.iface t v v' g)
    | agg a a' g1 g2 => exact goal_now h (.agg a a' g1 g2)
    | tuple a a' g1 g2 => exact goal_now h (.tuple a a' g1 g2)

theorem wrapF_eq (k : IntKind) (n : Int) : wrapF k n = k.wrap n := by
  unfold wrapF
  split
  · rename_i h
    cases k <;> simp only [lo, hi] at h <;> unfold IntKind.wrap <;> simp [IntKind.bits, IntKind.signed] <;> omega
  · rfl

def quietV : Value → Bool
  | .agg _ | .nilIface => false
  | _ => true
theorem guard_left {op : BinOp} {t : TypeId} {x y : Operand} {a b : Value} (h : quietV a = true) : (eqGuard op t x y a b).run P w = .ok () w := by
  cases op <;> first | rfl | (cases a <;> first | rfl | (simp [quietV] at h))
theorem guard_right {op : BinOp} {t : TypeId} {x y : Operand} {a b : Value} (h : quietV b = true) : (eqGuard op t x y a b).run P w = .ok () w := by
  cases op <;> first | rfl | (cases b <;> first | (simp [quietV] at h; done) | (cases a <;> rfl))

theorem fast_ok (ok : EnvOk E P nm) (op : BinOp) (t : TypeId) {x y x' y' v : Value} (hx : VR nm φ x x') (hy : VR nm φ y y') (hf : fast E.sl op x y = some v) :
    (binOp op t x' y').run P w = .ok v w ∧ plainV v = true ∧ quietV x' = true := by
  unfold fast at hf
  split at hf
  · rename_i k a k' b
    rw [hx.int_inv, hy.int_inv]
    refine ⟨?_, ?_, rfl⟩
    · split at hf
      · rename_i e
        subst e
        split at hf <;> cases hf <;> simp [binOp, Op.intArith, Op.intCmp, wrapF_eq]
      · cases hf
    · split at hf
      · split at hf <;> cases hf <;> rfl
      · cases hf
  · rename_i a b
    rw [hx.str_inv, hy.str_inv]
    refine ⟨?_, ?_, rfl⟩
    · split at hf <;> cases hf <;> simp [binOp, Op.stringOp, ByteArray.toList_eq]
    · split at hf <;> cases hf <;> rfl
  · rename_i b
    have hy' := hy.str_inv
    cases hx
    rw [hy']
    refine ⟨?_, ?_, rfl⟩
    · split at hf
      · split at hf
        · rename_i hc
          cases hf
          have hne : nm.data ≠ b.data := fun e => ok.sl _ hc (by rw [e])
          simp [binOp, Op.stringOp, ByteArray.toList_eq, hne]
        · cases hf
      · split at hf
        · rename_i hc
          cases hf
          have hne : nm.data ≠ b.data := fun e => ok.sl _ hc (by rw [e])
          simp [binOp, Op.stringOp, ByteArray.toList_eq, hne]
        · cases hf
      · cases hf
    · split at hf
      · split at hf
        · cases hf; rfl
        · cases hf
      · split at hf
        · cases hf; rfl
        · cases hf
      · cases hf
  · rename_i b
    have hx' := hx.str_inv
    cases hy
    rw [hx']
    refine ⟨?_, ?_, rfl⟩
    · split at hf
      · split at hf
        · rename_i hc
          cases hf
          have hne : nm.data ≠ b.data := fun e => ok.sl _ hc (by rw [e])
          simp [binOp, Op.stringOp, ByteArray.toList_eq, Ne.symm hne]
        · cases hf
      · split at hf
        · rename_i hc
          cases hf
          have hne : nm.data ≠ b.data := fun e => ok.sl _ hc (by rw [e])
          simp [binOp, Op.stringOp, ByteArray.toList_eq, Ne.symm hne]
        · cases hf
      · cases hf
    · split at hf
      · split at hf
        · cases hf; rfl
        · cases hf
      · split at hf
        · cases hf; rfl
        · cases hf
      · cases hf
  · cases hf

theorem eqNil_in (ok : EnvOk E P nm) (n : Nat) (t : TypeId) (d : TypeDesc) {x y x' y' : Value} {b : Bool} (hd : E.und t = some d) (hx : VR nm φ x x') (hy : VR nm φ y y') (hf : eqNil E d x y = some b) :
    (Op.equalIn (n + 1) t x' y').run P w = .ok b w ∧ binOp .eql t x' y' = (Op.equal t x' y' >>= fun b => pure (.bool b)) ∧ binOp .neq t x' y' = (Op.equal t x' y' >>= fun b => pure (.bool !b)) ∧
      (quietV x' = true ∨ quietV y' = true) := by
  unfold eqNil at hf
  split at hf
  · cases hf
    obtain ⟨p, _, _, rfl⟩ := hx.ptr_inv; cases hy
    exact ⟨by simp [Op.equalIn, ok.run_und hd w], rfl, rfl, by simp [quietV]⟩
  · cases hf
    obtain ⟨p, _, _, rfl⟩ := hy.ptr_inv; cases hx
    exact ⟨by simp [Op.equalIn, ok.run_und hd w], rfl, rfl, by simp [quietV]⟩
  · cases hf
    obtain ⟨a', k', p, rfl, _⟩ := hx.slc_inv; cases hy
    exact ⟨by simp [Op.equalIn, ok.run_und hd w], rfl, rfl, by simp [quietV]⟩
  · cases hf
    obtain ⟨a', k', p, rfl, _⟩ := hy.slc_inv; cases hx
    exact ⟨by simp [Op.equalIn, ok.run_und hd w], rfl, rfl, by simp [quietV]⟩
  · cases hf
    obtain ⟨p, _, rfl⟩ := hx.map_inv; cases hy
    exact ⟨by simp [Op.equalIn, ok.run_und hd w], rfl, rfl, by simp [quietV]⟩
  · cases hf
    obtain ⟨p, _, rfl⟩ := hy.map_inv; cases hx
    exact ⟨by simp [Op.equalIn, ok.run_und hd w], rfl, rfl, by simp [quietV]⟩
  · cases hf
    obtain ⟨f', a', b', rfl, _⟩ := hx.func_inv; cases hy
    exact ⟨by simp [Op.equalIn, ok.run_und hd w], rfl, rfl, by simp [quietV]⟩
  · cases hf
    obtain ⟨f', a', b', rfl, _⟩ := hy.func_inv; cases hx
    exact ⟨by simp [Op.equalIn, ok.run_und hd w], rfl, rfl, by simp [quietV]⟩
  · cases hf
    obtain ⟨v', rfl, _⟩ := hx.iface_inv; cases hy
    exact ⟨by simp [Op.equalIn, ok.run_und hd w], rfl, rfl, by simp [quietV]⟩
  · cases hf
    obtain ⟨v', rfl, _⟩ := hy.iface_inv; cases hx
    exact ⟨by simp [Op.equalIn, ok.run_und hd w], rfl, rfl, by simp [quietV]⟩
  · rename_i e a c
    split at hf
    · rename_i hab
      cases hf
      obtain ⟨p, h1, h2, rfl⟩ := hx.ptr_inv
      obtain ⟨q, h3, h4, rfl⟩ := hy.ptr_inv
      rw [hab.1, h3] at h1; cases h1
      obtain ⟨m, hn⟩ := Option.isSome_iff_exists.1 hab.2.2
      rw [hab.2.1]
      exact ⟨by simp [Op.equalIn, ok.run_und hd w, ok.run_size hn w, sameAddr], rfl, rfl, by simp [quietV]⟩
    · cases hf
  · rename_i tx v ty u
    split at hf
    · cases hf
    · rename_i hne
      cases hf
      obtain ⟨v', rfl, _⟩ := hx.iface_inv
      obtain ⟨u', rfl, _⟩ := hy.iface_inv
      exact ⟨by simp [Op.equalIn, ok.run_und hd w, hne], rfl, rfl, by simp [quietV]⟩
  · cases hf

theorem eqNil_ok (ok : EnvOk E P nm) (t : TypeId) (d : TypeDesc) {x y x' y' : Value} {b : Bool} (hd : E.und t = some d) (hx : VR nm φ x x') (hy : VR nm φ y y') (hf : eqNil E d x y = some b) :
    (binOp .eql t x' y').run P w = .ok (.bool b) w ∧ (binOp .neq t x' y').run P w = .ok (.bool !b) w ∧ (quietV x' = true ∨ quietV y' = true) := by
  obtain ⟨h1, h2, h3, h4⟩ := eqNil_in (w := w) ok 9999 t d hd hx hy hf
  have h1' : (Op.equal t x' y').run P w = .ok b w := h1
  refine ⟨?_, ?_, h4⟩
  · rw [h2]; simp only [Sem.run_bind, h1', Result.andThen_ok, Sem.run_pure]
  · rw [h3]; simp only [Sem.run_bind, h1', Result.andThen_ok, Sem.run_pure]

theorem xBinOp_ok (ok : EnvOk E P nm) (h : WR nm K base φ A w) (o : Oper) (op : BinOp) (t : TypeId) (x y : Operand) (u : TypeId) (ho : o.op = .binOp op t x y u)
    (hρ : ∀ x, x ∈ o.op.operands.toList → VR nm φ (ρ x) (ρ' x)) (hx : xBinOp E A ρ o op t x y = some (nx, A')) : Goal P nm K base φ A w (execOp ρ' o) nx A' := by
  have h1 : VR nm φ (ρ x) (ρ' x) := hρ x (by rw [ho]; simp [Op.operands])
  have h2 : VR nm φ (ρ y) (ρ' y) := hρ y (by rw [ho]; simp [Op.operands])
  have he : execOp ρ' o = ((do eqGuard op t x y (ρ' x) (ρ' y); binOp op t (ρ' x) (ρ' y)) >>= fun v => pure (Next.value v)) := by unfold execOp; simp only [ho]
  unfold xBinOp at hx
  split at hx
  · rename_i v hf
    cases hx
    obtain ⟨g1, g2, g3⟩ := fast_ok (w := w) ok op t h1 h2 hf
    rw [he]
    exact goal_here h (.of_plainV g2) (by simp only [Sem.run_bind, guard_left g3, Result.andThen_ok]; exact g1)
  · split at hx
    · rename_i r hr
      cases hx
      exact viaPure_ok ok h o hρ hr
    · split at hx
      · split at hx
        · rename_i b hb
          cases hx
          obtain ⟨d, hd, hn⟩ := Option.bind_eq_some_iff.1 hb
          obtain ⟨g1, g2, g3⟩ := eqNil_ok (w := w) ok t d hd h1 h2 hn
          rw [he]
          refine goal_here h (.bool b) ?_
          simp only [Sem.run_bind]
          rcases g3 with g3 | g3
          · simp only [guard_left g3, Result.andThen_ok]; exact g1
          · simp only [guard_right g3, Result.andThen_ok]; exact g1
        · cases hx
      · split at hx
        · rename_i b hb
          cases hx
          obtain ⟨d, hd, hn⟩ := Option.bind_eq_some_iff.1 hb
          obtain ⟨g1, g2, g3⟩ := eqNil_ok (w := w) ok t d hd h1 h2 hn
          rw [he]
          refine goal_here h (.bool _) ?_
          simp only [Sem.run_bind]
          rcases g3 with g3 | g3
          · simp only [guard_left g3, Result.andThen_ok]; exact g2
          · simp only [guard_right g3, Result.andThen_ok]; exact g2
        · cases hx
      · cases hx

/-- Bounds. -/
theorem bound_ok {v v' : Value} {hi n m : Nat} {c : BoundsCode} (hv : VR nm φ v v') (hb : bound v hi = some n) (hm : hi ≤ m) : (Instr.sliceBound v' m c).run P w = .ok n w ∧ n ≤ hi := by
  unfold bound at hb
  split at hb
  · rename_i k i
    split at hb
    · rename_i hc
      cases hb
      rw [hv.int_inv]
      refine ⟨?_, by omega⟩
      simp only [Instr.sliceBound, asIntOf, Sem.run_bind, Sem.run_pure, Result.andThen_ok]
      rw [if_pos (by omega)]
      rfl
    · cases hb
  · cases hb
/-- Optional operands. -/
def OVR (nm : Nm) (φ : Emb) : Option Value → Option Value → Prop
  | none, none => True
  | some v, some v' => VR nm φ v v'
  | _, _ => False
theorem OVR.map (x : Option Operand) (h : ∀ y, x = some y → VR nm φ (ρ y) (ρ' y)) : OVR nm φ (x.map ρ) (x.map ρ') := by
  cases x with
  | none => trivial
  | some y => exact h y rfl

/-- The three bounds of a slice: cap' is what the model has, cap what is known of it. -/
theorem bounds_ok {lo hi mx lo' hi' mx' : Option Value} {len cap cap' m h l : Nat} {b : Bool} (h1 : OVR nm φ lo lo') (h2 : OVR nm φ hi hi') (h3 : OVR nm φ mx mx')
    (hcap : cap ≤ cap') (hlen : len ≤ cap) (hmx : mx.isSome = true → hi.isSome = true ∧ cap' = cap) (bm : optBound mx cap cap = some m) (bh : optBound hi m len = some h) (bl : optBound lo h 0 = some l) :
    ∃ m', (Instr.sliceBounds b len cap' lo' hi' mx').run P w = .ok (l, h, m') w ∧ (mx = none → m' = cap' ∧ m = cap) ∧ (mx ≠ none → m' = m) ∧ l ≤ h ∧ h ≤ m := by
  cases mx with
  | some vm =>
    cases mx' with
    | none => exact h3.elim
    | some vm' =>
      obtain ⟨e1, e2⟩ := hmx rfl
      subst e2
      simp only [optBound] at bm
      have gm := bound_ok (P := P) (w := w) (c := if b then .slice3Acap else .slice3Alen) (show VR nm φ vm vm' from h3) bm (Nat.le_refl _)
      cases hi with
      | none => cases e1
      | some vh =>
        cases hi' with
        | none => exact h2.elim
        | some vh' =>
          simp only [optBound] at bh
          have gh := bound_ok (P := P) (w := w) (c := .slice3B) (show VR nm φ vh vh' from h2) bh (Nat.le_refl _)
          refine ⟨m, ?_, (fun e => by cases e), fun _ => rfl, ?_, gh.2⟩
          · simp only [Instr.sliceBounds, Sem.run_bind, gm.1, gh.1, Result.andThen_ok]
            cases lo with
            | none =>
              cases lo' with
              | some _ => exact h1.elim
              | none => simp only [optBound, Option.some.injEq] at bl; subst bl; rfl
            | some vl =>
              cases lo' with
              | none => exact h1.elim
              | some vl' =>
                simp only [optBound] at bl
                have gl := bound_ok (P := P) (w := w) (c := if (some vm').isSome then .slice3C else .sliceB) (show VR nm φ vl vl' from h1) bl (Nat.le_refl _)
                simp only [gl.1, Sem.run_bind, Result.andThen_ok]; rfl
          · cases lo with
            | none => simp only [optBound, Option.some.injEq] at bl; omega
            | some vl =>
              cases lo' with
              | none => exact h1.elim
              | some vl' => simp only [optBound] at bl; exact (bound_ok (P := P) (w := w) (c := .sliceB) (show VR nm φ vl vl' from h1) bl (Nat.le_refl _)).2
  | none =>
    cases mx' with
    | some _ => exact h3.elim
    | none =>
      simp only [optBound, Option.some.injEq] at bm
      subst bm
      have low : ∀ h, optBound lo h 0 = some l → (match lo' with
            | some v => Instr.sliceBound v h (if (none : Option Value).isSome = true then .slice3C else .sliceB)
            | none => pure 0).run P w = .ok l w ∧ l ≤ h := by
        intro h bl
        cases lo with
        | none =>
          cases lo' with
          | some _ => exact h1.elim
          | none => simp only [optBound, Option.some.injEq] at bl; subst bl; exact ⟨rfl, Nat.zero_le _⟩
        | some vl =>
          cases lo' with
          | none => exact h1.elim
          | some vl' =>
            simp only [optBound] at bl
            exact bound_ok (P := P) (w := w) (c := if (none : Option Value).isSome then .slice3C else .sliceB) (show VR nm φ vl vl' from h1) bl (Nat.le_refl _)
      have gl := low h bl
      cases hi with
      | none =>
        cases hi' with
        | some _ => exact h2.elim
        | none =>
          simp only [optBound, Option.some.injEq] at bh
          subst bh
          refine ⟨cap', ?_, fun _ => ⟨rfl, rfl⟩, fun e => absurd rfl e, gl.2, hlen⟩
          cases lo' with
          | none => have := gl.1; simp only [Sem.run_pure, Result.ok.injEq, and_true] at this; subst this; rfl
          | some v => simp only [Instr.sliceBounds, Sem.run_bind, Sem.run_pure, Result.andThen_ok]; simp only [] at gl; rw [gl.1]; rfl
      | some vh =>
        cases hi' with
        | none => exact h2.elim
        | some vh' =>
          simp only [optBound] at bh
          have gh := bound_ok (P := P) (w := w) (c := if b then .sliceAcap else .sliceAlen) (show VR nm φ vh vh' from h2) bh hcap
          refine ⟨cap', ?_, fun _ => ⟨rfl, rfl⟩, fun e => absurd rfl e, gl.2, gh.2⟩
          cases lo' with
          | none =>
            have := gl.1; simp only [Sem.run_pure, Result.ok.injEq, and_true] at this; subst this
            simp only [Instr.sliceBounds, Sem.run_bind, Sem.run_pure, Result.andThen_ok, gh.1]
          | some v => simp only [Instr.sliceBounds, Sem.run_bind, Sem.run_pure, Result.andThen_ok, gh.1]; simp only [] at gl; rw [gl.1]; rfl
end
end Go.AM
