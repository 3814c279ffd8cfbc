/- The operations, all of them. -/
import Derived.Test.YtkhgbpokoaklpaaGreatDoorAmOps8
namespace Go.AM
section
variable {E : Env} {P : Program} {nm : Nm} {K : Kp} {base : World} {φ : Emb} {A A' : St} {w : World} {ρ ρ' : Operand → Value} {nx : Nx}

theorem goal_fresh {s : Sem Next} (h : WR nm K base φ A w) (f : ∃ v o, nx = .val (v A.next) ∧ A' = { A with next := A.next + 1, h := A.h.set A.next (o A.next) } ∧ Fresh P nm φ w s v o) : Goal P nm K base φ A w s nx A' := by
  obtain ⟨v, o, rfl, rfl, f⟩ := f
  exact f.goal h

theorem opD_ok (ok : EnvOk E P nm) (h : WR nm K base φ A w) (o : Oper) (hρ : ∀ x, x ∈ o.op.operands.toList → VR nm φ (ρ x) (ρ' x)) (hx : opD E A ρ o = some (nx, A')) :
    Goal P nm K base φ A w (execOp ρ' o) nx A' := by
  unfold opD at hx
  cases hop : o.op <;> simp only [hop] at hx
  case move x =>
    cases hx
    have e : execOp ρ' o = pure (Next.value (ρ' x)) := by unfold execOp; simp only [hop]
    rw [e]; exact goal_now h (hρ x (by rw [hop]; simp [Op.operands]))
  case assign x =>
    cases hx
    have e : execOp ρ' o = pure (Next.value (ρ' x)) := by unfold execOp; simp only [hop]
    rw [e]; exact goal_now h (hρ x (by rw [hop]; simp [Op.operands]))
  case pick c a b =>
    have e : execOp ρ' o = (asBool (ρ' c) >>= fun t => pure (Next.value (if t then ρ' a else ρ' b))) := by unfold execOp; simp only [hop]
    rw [e]; exact xPick_ok h c a b (hρ c (by rw [hop]; simp [Op.operands])) (hρ a (by rw [hop]; simp [Op.operands])) (hρ b (by rw [hop]; simp [Op.operands])) hx
  case alloc t =>
    have e : execOp ρ' o = (Instr.alloc t true (.tuple #[]) >>= fun x => pure (Next.value x)) := by unfold execOp; simp only [hop]
    rw [e]; exact goal_fresh h (xAlloc_fresh ok t hx)
  case box t x =>
    have e : execOp ρ' o = (Instr.box t (ρ' x) >>= fun x => pure (Next.value x)) := by unfold execOp; simp only [hop]
    rw [e]; exact goal_fresh h (xBox_fresh t x (hρ x (by rw [hop]; simp [Op.operands])) hx)
  case build t parts =>
    have e : execOp ρ' o = (Instr.build t (parts.map fun (i, x) => (i, ρ' x)) >>= fun x => pure (Next.value x)) := by unfold execOp; simp only [hop]
    rw [e]; exact xBuild_ok ok h t parts (fun x hm => hρ x (by rw [hop]; simpa [Op.operands] using hm)) hx
  case buildSlice t len parts =>
    have e : execOp ρ' o = (Instr.buildSlice t len (parts.map fun (i, x) => (i, ρ' x)) >>= fun x => pure (Next.value x)) := by unfold execOp; simp only [hop]
    rw [e]; exact goal_fresh h (xBuildSlice_fresh ok t len parts (fun x hm => hρ x (by rw [hop]; simpa [Op.operands] using hm)) hx)
  case load t a =>
    have e : execOp ρ' o = (Instr.loadAt t (ρ' a) >>= fun x => pure (Next.value x)) := by unfold execOp; simp only [hop]
    rw [e]; exact xLoad_ok ok h t a (hρ a (by rw [hop]; simp [Op.operands])) hx
  case store t a x =>
    have e : execOp ρ' o = (Instr.storeAt t (ρ' a) (ρ' x) >>= fun _ => pure Next.skip) := by unfold execOp; simp only [hop]
    rw [e]; exact xStore_ok ok h t a x (hρ a (by rw [hop]; simp [Op.operands])) (hρ x (by rw [hop]; simp [Op.operands])) hx
  case nilCheck x => exact xNilCheck_ok ok h x (hρ x (by rw [hop]; simp [Op.operands])) hx o hop
  case binOp op t x y u => exact xBinOp_ok ok h o op t x y u hop hρ hx
  case unOp => exact viaPure_ok ok h o hρ hx
  case convert src dst x => exact xConvert_ok ok h src dst x hop (hρ x (by rw [hop]; simp [Op.operands])) hx
  case makeInterface t x =>
    have e : execOp ρ' o = (Instr.makeInterface t (ρ' x) >>= fun x => pure (Next.value x)) := by unfold execOp; simp only [hop]
    rw [e]; exact xMakeInterface_ok ok h t x (hρ x (by rw [hop]; simp [Op.operands])) hx
  case makeFunc fn first captured =>
    have e : execOp ρ' o = (Instr.makeFunc fn (first.map ρ') (captured.map ρ') >>= fun x => pure (Next.value x)) := by unfold execOp; simp only [hop]
    rw [e]
    have h1 : AR nm φ (first.map ρ) (first.map ρ') := map_rel _ _ _ fun x hm => hρ x (by rw [hop]; simp [Op.operands, hm])
    have h2 : AR nm φ (captured.map ρ) (captured.map ρ') := map_rel _ _ _ fun x hm => hρ x (by rw [hop]; simp [Op.operands, hm])
    unfold xMakeFunc at hx
    split at hx
    · cases hx; exact goal_now h (.func' (.func _) h1 h2)
    · cases hx; exact goal_now h (.func' (.method _) h1 h2)
    · cases hx
  case makeMap t r =>
    have e : execOp ρ' o = (Instr.makeMap t (r.map ρ') >>= fun x => pure (Next.value x)) := by unfold execOp; simp only [hop]
    rw [e]; exact goal_fresh h (xMakeMap_fresh t r hx)
  case makeSlice t l c =>
    have e : execOp ρ' o = (Instr.makeSlice t (ρ' l) (ρ' c) >>= fun x => pure (Next.value x)) := by unfold execOp; simp only [hop]
    rw [e]; exact goal_fresh h (xMakeSlice_fresh ok t l c (hρ l (by rw [hop]; simp [Op.operands])) (hρ c (by rw [hop]; simp [Op.operands])) hx)
  case slice t x lo hi mx =>
    have e : execOp ρ' o = (Instr.sliceAt t (ρ' x) (lo.map ρ') (hi.map ρ') (mx.map ρ') >>= fun x => pure (Next.value x)) := by unfold execOp; simp only [hop]
    rw [e]; exact xSlice_ok ok h t x lo hi mx (hρ x (by rw [hop]; simp [Op.operands])) (fun y hy => hρ y (by rw [hop]; simp [Op.operands, hy])) (fun y hy => hρ y (by rw [hop]; simp [Op.operands, hy])) (fun y hy => hρ y (by rw [hop]; simp [Op.operands, hy])) hx
  case fieldAddr s x f =>
    have e : execOp ρ' o = (Instr.fieldAt s (ρ' x) f >>= fun x => pure (Next.value x)) := by unfold execOp; simp only [hop]
    rw [e]; exact xFieldAddr_ok ok h s x f (hρ x (by rw [hop]; simp [Op.operands])) hx
  case field t x f =>
    have e : execOp ρ' o = (Instr.field t (ρ' x) f >>= fun x => pure (Next.value x)) := by unfold execOp; simp only [hop]
    rw [e]; exact xField_ok ok h t x f (hρ x (by rw [hop]; simp [Op.operands])) hx
  case indexAddr t x ix =>
    have e : execOp ρ' o = (Instr.indexAt t (ρ' x) (ρ' ix) >>= fun x => pure (Next.value x)) := by unfold execOp; simp only [hop]
    rw [e]; exact xIndexAddr_ok ok h t x ix (hρ x (by rw [hop]; simp [Op.operands])) (hρ ix (by rw [hop]; simp [Op.operands])) hx
  case index t x ix =>
    have e : execOp ρ' o = (Instr.index t (ρ' x) (ρ' ix) >>= fun x => pure (Next.value x)) := by unfold execOp; simp only [hop]
    rw [e]; exact xIndex_ok ok h t x ix (hρ x (by rw [hop]; simp [Op.operands])) (hρ ix (by rw [hop]; simp [Op.operands])) hx
  case lookup t m ix cok =>
    have e : execOp ρ' o = (Instr.lookup t (ρ' m) (ρ' ix) cok >>= fun x => pure (Next.value x)) := by unfold execOp; simp only [hop]
    rw [e]; exact xLookup_ok ok h t m ix cok (hρ m (by rw [hop]; simp [Op.operands])) (hρ ix (by rw [hop]; simp [Op.operands])) hx
  case mapUpdate t m k x =>
    have e : execOp ρ' o = (Instr.mapUpdate t (ρ' m) (ρ' k) (ρ' x) >>= fun _ => pure Next.skip) := by unfold execOp; simp only [hop]
    rw [e]; exact xMapUpdate_ok ok h t m k x (hρ m (by rw [hop]; simp [Op.operands])) (hρ k (by rw [hop]; simp [Op.operands])) (hρ x (by rw [hop]; simp [Op.operands])) hx
  case insert t m k x =>
    have e : execOp ρ' o = (Instr.mapUpdate t (ρ' m) (ρ' k) (ρ' x) >>= fun _ => pure Next.skip) := by unfold execOp; simp only [hop]
    rw [e]; exact xMapUpdate_ok ok h t m k x (hρ m (by rw [hop]; simp [Op.operands])) (hρ k (by rw [hop]; simp [Op.operands])) (hρ x (by rw [hop]; simp [Op.operands])) hx
  case mapEntry t m k =>
    have e : execOp ρ' o = (Instr.mapEntry t (ρ' m) (ρ' k) >>= fun x => pure (Next.value x)) := by unfold execOp; simp only [hop]
    rw [e]; exact xMapEntry_ok ok h t m k (hρ m (by rw [hop]; simp [Op.operands])) (hρ k (by rw [hop]; simp [Op.operands])) hx
  case entryStore t m s x =>
    have e : execOp ρ' o = (Instr.entryStore t (ρ' m) (ρ' s) (ρ' x) >>= fun _ => pure Next.skip) := by unfold execOp; simp only [hop]
    rw [e]; exact xEntryStore_ok h t m s x (hρ m (by rw [hop]; simp [Op.operands])) (hρ s (by rw [hop]; simp [Op.operands])) (hρ x (by rw [hop]; simp [Op.operands])) hx
  case range t x =>
    have e : execOp ρ' o = (Instr.range t (ρ' x) >>= fun x => pure (Next.value x)) := by unfold execOp; simp only [hop]
    rw [e]; exact xRange_ok ok h t x (hρ x (by rw [hop]; simp [Op.operands])) hx
  case next it isStr =>
    have e : execOp ρ' o = (Instr.next (ρ' it) isStr o.type >>= fun x => pure (Next.value x)) := by unfold execOp; simp only [hop]
    rw [e]; exact xNext_ok h o.type it isStr (hρ it (by rw [hop]; simp [Op.operands])) hx
  case typeAssert x xt t cok =>
    have e : execOp ρ' o = (Instr.typeAssert (ρ' x) xt t cok >>= fun x => pure (Next.value x)) := by unfold execOp; simp only [hop]
    rw [e]; exact xTypeAssert_ok ok h x xt t cok (hρ x (by rw [hop]; simp [Op.operands])) hx
  case extract t i =>
    have e : execOp ρ' o = (Instr.extract (ρ' t) i >>= fun x => pure (Next.value x)) := by unfold execOp; simp only [hop]
    rw [e]; exact xExtract_ok h t i (hρ t (by rw [hop]; simp [Op.operands])) hx
  case call c => exact xCall_ok ok h hop (fun x hm => hρ x (by rw [hop]; exact hm)) hx
  case defer c => exact xDefer_ok h hop (fun x hm => hρ x (by rw [hop]; simpa [Op.operands] using hm)) hx
  case panic x =>
    have e : execOp ρ' o = (Instr.panic (ρ' x) >>= fun x => pure (Next.value x)) := by unfold execOp; simp only [hop]
    rw [e]; exact xPanic_ok h (hρ x (by rw [hop]; simp [Op.operands])) hx
  all_goals cases hx

theorem alloc_fresh (ok : EnvOk E P nm) (o : Oper) (hal : isAlloc o = true) (hρ : ∀ x, x ∈ o.op.operands.toList → VR nm φ (ρ x) (ρ' x)) (hx : opD E A ρ o = some (nx, A')) :
    ∃ v u, nx = .val (v A.next) ∧ A' = { A with next := A.next + 1, h := A.h.set A.next (u A.next) } ∧ Fresh P nm φ w (execOp ρ' o) v u := by
  unfold opD at hx
  unfold isAlloc at hal
  cases hop : o.op <;> simp only [hop] at hx hal <;> first | (cases hal; done) | skip
  case alloc t =>
    have e : execOp ρ' o = (Instr.alloc t true (.tuple #[]) >>= fun x => pure (Next.value x)) := by unfold execOp; simp only [hop]
    rw [e]; exact xAlloc_fresh ok t hx
  case box t x =>
    have e : execOp ρ' o = (Instr.box t (ρ' x) >>= fun x => pure (Next.value x)) := by unfold execOp; simp only [hop]
    rw [e]; exact xBox_fresh t x (hρ x (by rw [hop]; simp [Op.operands])) hx
  case buildSlice t len parts =>
    have e : execOp ρ' o = (Instr.buildSlice t len (parts.map fun (i, x) => (i, ρ' x)) >>= fun x => pure (Next.value x)) := by unfold execOp; simp only [hop]
    rw [e]; exact xBuildSlice_fresh ok t len parts (fun x hm => hρ x (by rw [hop]; simpa [Op.operands] using hm)) hx
  case makeMap t r =>
    have e : execOp ρ' o = (Instr.makeMap t (r.map ρ') >>= fun x => pure (Next.value x)) := by unfold execOp; simp only [hop]
    rw [e]; exact xMakeMap_fresh t r hx
  case makeSlice t l c =>
    have e : execOp ρ' o = (Instr.makeSlice t (ρ' l) (ρ' c) >>= fun x => pure (Next.value x)) := by unfold execOp; simp only [hop]
    rw [e]; exact xMakeSlice_fresh ok t l c (hρ l (by rw [hop]; simp [Op.operands])) (hρ c (by rw [hop]; simp [Op.operands])) hx
end
end Go.AM
