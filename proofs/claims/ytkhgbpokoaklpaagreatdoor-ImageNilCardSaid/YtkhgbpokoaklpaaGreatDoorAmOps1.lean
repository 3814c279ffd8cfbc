/- The operations, first part: what each comes to in the abstract machine the model comes to. -/
import Derived.Test.YtkhgbpokoaklpaaGreatDoorAmHeap
import Derived.ChangeKeysEq
import Derived.Laws.Externs
namespace Go.AM

def rowOf (name : String) : Array Value → Sem Value :=
  if name = "internal/bytealg.IndexByteString" ∨ name = "internal/bytealg.IndexByte" then Extern.BytealgIndexByte.indexByte
  else if name = "internal/abi.NoEscape" then Extern.AbiNoEscape.same
  else if name = "internal/bytealg.abigen_runtime_cmpstring" then Extern.BytealgCompare.compare
  else Extern.BytealgCount.count

structure EnvOk (E : Env) (P : Program) (nm : Nm) : Prop where
  prog : E.P = P
  inf : ∀ t i, E.inf t = some i → P.info? t = some i
  fn : ∀ f g, E.fn.get f = some g → P.funcs[f]? = some g
  sl : ∀ l, E.sl.contains l = true → nm.data.toList ≠ l
  names : ∀ (f : Nat) (g : Func), P.funcs[f]? = some g → (g.name == "runtime.NumGoroutine") = false
  mix : P.follows .mixedOrders = true
  ext : ∀ (f : Nat) (g : Func), P.funcs[f]? = some g → g.body = none →
    (g.name = "internal/bytealg.IndexByteString" ∨ g.name = "internal/bytealg.IndexByte" ∨ g.name = "internal/abi.NoEscape" ∨ g.name = "internal/bytealg.abigen_runtime_cmpstring" ∨ g.name = "internal/bytealg.CountString") →
    Extern.findNext g = none ∧ Extern.find g = some (rowOf g.name)

section
variable {E : Env} {P : Program} {nm : Nm}
theorem EnvOk.und (ok : EnvOk E P nm) {t : TypeId} {d : TypeDesc} (h : E.und t = some d) : P.underlying t = some d := by
  unfold Env.und at h
  split at h
  · rename_i i hi
    have h1 := ok.inf _ _ hi
    unfold Program.underlying
    rw [h1]
    split at h
    · rename_i nme u hd
      split at h
      · rename_i j hj
        have h2 := ok.inf _ _ hj
        cases h
        obtain ⟨desc, str, size, bytes, hasP, al, fal, zero, comp, meth⟩ := i
        simp only [] at hd
        subst hd
        simp [h2]
      · cases h
    · rename_i hne
      cases h
      obtain ⟨desc, str, size, bytes, hasP, al, fal, zero, comp, meth⟩ := i
      simp only [] at hne ⊢
      cases desc <;> first | rfl | (exact absurd rfl (hne _ _))
  · cases h
theorem EnvOk.run_und (ok : EnvOk E P nm) {t : TypeId} {d : TypeDesc} (h : E.und t = some d) (w : World) : (underlying t).run P w = .ok d w := run_underlying (ok.und h) w
theorem EnvOk.run_inf (ok : EnvOk E P nm) {t : TypeId} {i : TypeInfo} (h : E.inf t = some i) (w : World) : (typeInfo t).run P w = .ok i w := run_typeInfo w (ok.inf _ _ h)
theorem size_inf {t : TypeId} {n : Nat} (h : E.size t = some n) : ∃ i, E.inf t = some i ∧ i.size = n := by
  unfold Env.size at h
  cases hi : E.inf t with
  | none => simp [hi] at h
  | some i => simp [hi] at h; exact ⟨i, rfl, h⟩
theorem EnvOk.run_size (ok : EnvOk E P nm) {t : TypeId} {n : Nat} (h : E.size t = some n) (w : World) : (sizeOf t).run P w = .ok n w := by
  obtain ⟨i, hi, rfl⟩ := size_inf h
  simp [sizeOf, ok.run_inf hi w]
theorem EnvOk.run_zero (ok : EnvOk E P nm) {t : TypeId} {v : Value} (h : E.zero t = some v) (w : World) : (zeroValue t).run P w = .ok v w := by
  unfold Env.zero at h
  split at h
  · rename_i i hi
    split at h
    · rename_i z hz
      split at h
      · cases h
        simp [zeroValue, ok.run_inf hi w, hz]
      · cases h
    · cases h
  · cases h
theorem zero_plain {t : TypeId} {v : Value} (h : E.zero t = some v) : plainV v = true := by
  unfold Env.zero at h
  split at h
  · split at h
    · split at h
      · rename_i hp; cases h; exact hp
      · cases h
    · cases h
  · cases h
theorem zero_cells {t : TypeId} {v : Value} (h : E.zero t = some v) (φ : Emb) : LR nm φ v.cells.toList v.cells.toList := (VR.of_plainV (zero_plain h)).cells
theorem EnvOk.run_agg (ok : EnvOk E P nm) {t : TypeId} {b : Bool} (h : E.agg t = some b) (w : World) : (isAgg t).run P w = .ok b w := by
  unfold Env.agg at h
  cases hd : E.und t with
  | none => simp [hd] at h
  | some d =>
    simp [hd] at h
    simp only [isAgg, Sem.run_bind, ok.run_und hd w, Result.andThen_ok]
    subst h
    cases d <;> rfl
theorem EnvOk.run_loadV_aux (ok : EnvOk E P nm) {t : TypeId} {n : Nat} {vs : List Value} {a : Addr} {w : World} (hb : E.agg t = some true) (hs : E.size t = some n) (hl : (loadCells a n).run P w = .ok vs.toArray w) :
    (loadVar t a).run P w = .ok (.agg vs.toArray) w := by
  simp [loadVar, ok.run_agg hb w, ok.run_size hs w, hl]
end

inductive TR (nm : Nm) (φ : Emb) : Target → Target → Prop where
  | fn (f f' : Fn) (c c' : Array Value) : FnR φ f f' → AR nm φ c c' → TR nm φ (.fn f c) (.fn f' c')
  | nil : TR nm φ .nil .nil
  | builtin (b : Builtin) (ts : Array TypeId) (t : TypeId) (cs : Array Bool) : TR nm φ (.builtin b ts t cs) (.builtin b ts t cs)
  | collected (r : Nat) (p : Pl) : φ r = some p → TR nm φ (.collected r) (.collected p.blk)
structure DR (nm : Nm) (φ : Emb) (d d' : Deferred) : Prop where
  target : TR nm φ d.target d'.target
  args : AR nm φ d.args d'.args
theorem TR.mono {nm : Nm} {φ ψ : Emb} (h : φ.le ψ) {t t' : Target} (r : TR nm φ t t') : TR nm ψ t t' := by
  cases r with
  | fn f f' c c' h1 h2 => exact .fn f f' c c' (h1.mono h) (LR.mono h h2)
  | nil => exact .nil
  | builtin b ts t cs => exact .builtin b ts t cs
  | collected r p h1 => exact .collected r p (h _ _ h1)
theorem DR.mono {nm : Nm} {φ ψ : Emb} (h : φ.le ψ) {d d' : Deferred} (r : DR nm φ d d') : DR nm ψ d d' := ⟨r.target.mono h, LR.mono h r.args⟩

/-- What an operation comes to. -/
def NxR (P : Program) (nm : Nm) (φ : Emb) (s : Sem Next) (w w' : World) : Nx → Prop
  | .val v => ∃ v', VR nm φ v v' ∧ s.run P w = .ok (.value v') w'
  | .skip => s.run P w = .ok .skip w'
  | .dfr d => ∃ d', (DR nm φ d d') ∧ s.run P w = .ok (.defer d') w'
  | .enter f args => ∃ args' : Array Value, LR nm φ args args'.toList ∧ s.run P w = .ok (.enter f args') w' ∧ (∃ fn : Func, P.funcs[f]? = some fn ∧ fn.body.isSome = true)
  | .round l args => ∃ (args' : Array Value) (p : Pl), φ l = some p ∧ LR nm φ args args'.toList ∧ s.run P w = (Instr.yield p.blk args').run P w'
  | .recov => s.run P w = .ok .recover w'
  | .pan v => ∃ v', VR nm φ v v' ∧ s.run P w = .halt (.panic v') w'

section
variable {E : Env} {P : Program} {nm : Nm} {K : Kp} {base : World} {φ : Emb} {A A' : St} {w : World}

def Goal (P : Program) (nm : Nm) (K : Kp) (base : World) (φ : Emb) (A : St) (w : World) (s : Sem Next) (nx : Nx) (A' : St) : Prop :=
  ∃ φ' w', Emb.ext A.next φ φ' ∧ A.next ≤ A'.next ∧ WR nm K base φ' A' w' ∧ NxR P nm φ' s w w' nx

theorem goal_val {s : Sem Value} {v v' : Value} {φ' : Emb} {w' : World} (he : Emb.ext A.next φ φ') (hn : A.next ≤ A'.next) (hW : WR nm K base φ' A' w') (hv : VR nm φ' v v')
    (hr : s.run P w = .ok v' w') : Goal P nm K base φ A w (s >>= fun x => pure (Next.value x)) (.val v) A' :=
  ⟨φ', w', he, hn, hW, v', hv, by simp [hr]⟩
theorem goal_here {s : Sem Value} {v v' : Value} (hW : WR nm K base φ A w) (hv : VR nm φ v v') (hr : s.run P w = .ok v' w) :
    Goal P nm K base φ A w (s >>= fun x => pure (Next.value x)) (.val v) A := goal_val (Emb.ext_refl _ _) (Nat.le_refl _) hW hv hr
theorem goal_now {v v' : Value} (hW : WR nm K base φ A w) (hv : VR nm φ v v') : Goal P nm K base φ A w (pure (Next.value v')) (.val v) A :=
  ⟨φ, w, Emb.ext_refl _ _, Nat.le_refl _, hW, v', hv, rfl⟩
theorem goal_skip {s : Sem Unit} {w' : World} (hn : A'.next = A.next) (hW : WR nm K base φ A' w') (hr : s.run P w = .ok () w') : Goal P nm K base φ A w (s >>= fun _ => pure Next.skip) .skip A' :=
  ⟨φ, w', Emb.ext_refl _ _, by rw [hn]; exact Nat.le_refl _, hW, by simp [NxR, hr]⟩
theorem goal_pan {s : Sem Next} {v v' : Value} (hW : WR nm K base φ A w) (hv : VR nm φ v v') (hr : s.run P w = .halt (.panic v') w) : Goal P nm K base φ A w s (.pan v) A :=
  ⟨φ, w, Emb.ext_refl _ _, Nat.le_refl _, hW, v', hv, hr⟩

/-- Loads of variables. -/
theorem loadV_ok (ok : EnvOk E P nm) (h : WR nm K base φ A w) {t : TypeId} {a : Addr} {v : Value} (hl : loadV E A t a = some v) {p : Pl} (hp : φ a.block = some p) :
    ∃ v', VR nm φ v v' ∧ (loadVar t ⟨p.blk, p.off + a.off, none⟩).run P w = .ok v' w := by
  unfold loadV at hl
  split at hl
  · rename_i hb
    split at hl
    · rename_i n hs
      split at hl
      · rename_i vs hv
        cases hl
        obtain ⟨cvs, hr⟩ := h.load hv hp
        refine ⟨.agg cvs.toArray, .agg' (by simpa [AR] using hr.rel), ?_⟩
        exact ok.run_loadV_aux hb hs hr.run
      · cases hl
    · cases hl
  · rename_i hb
    split at hl
    · rename_i v0 hv
      cases hl
      obtain ⟨cvs, hr⟩ := h.load hv hp
      obtain ⟨v', m, rfl, h1, h2⟩ := hr.rel.cons_inv
      refine ⟨v', h1, ?_⟩
      have hc := hr.cell 0 v' (by simp)
      rw [add_mk] at hc
      simp [loadVar, ok.run_agg hb w, Nat.add_zero] at hc ⊢
      simp [hc]
    · cases hl
  · cases hl

theorem storeV_ok (ok : EnvOk E P nm) (h : WR nm K base φ A w) {t : TypeId} {a : Addr} {v v' : Value} (hl : storeV E A t a v = some A') (hv : VR nm φ v v') {p : Pl} (hp : φ a.block = some p) :
    ∃ w', (storeVar t ⟨p.blk, p.off + a.off, none⟩ v').run P w = .ok () w' ∧ WR nm K base φ A' w' ∧ A'.next = A.next := by
  unfold storeV at hl
  split at hl
  · rename_i n hs
    split at hl
    · rename_i hc
      obtain ⟨w', h1, h2, h3⟩ := h.store (P := P) hl hv.cells hp
      refine ⟨w', ?_, h2, h3⟩
      have hsz : v'.cells.size = n := by
        have := AR.size hv.cells
        rw [← this]; simpa using hc
      simp only [storeVar, Sem.run_bind, ok.run_size hs w, Result.andThen_ok, ne_eq, hsz, not_true, if_false]
      exact h1
    · cases hl
  · cases hl

/-- A new row of its own. -/
def rowObj (elem : TypeId) (cells : List Value) (b : Nat) : AObj :=
  .row { own := true, size := cells.length, cells := T.ofList cells, elem, esz := 0, opn := false, grp := b, frz := 0, sb := false }
def plNew (w : World) (n : Nat) : Pl := { blk := w.heap.size, off := 0, csz := n, esz := 0, opn := false }
theorem rowObj_or {elem : TypeId} {cells cvs : List Value} (b : Nat) (hv : LR nm φ cells cvs) :
    OR nm φ (w.heap.push (.cells cvs.toArray elem)) (plNew w cvs.length) (rowObj elem cells b) := by
  have hlen := hv.length
  refine ⟨cvs.toArray, (0, 0), ?_⟩
  refine { blk := by simp [plNew], csz := by simp [plNew], opn := rfl, esz := fun h => by simp at h, fit := by simp [plNew, hlen], cell := ?_, frz := fun _ j h1 h2 => by simp at h2, sb := fun _ _ => .inl rfl, exact := fun _ => ⟨rfl, by simp [hlen]⟩ }
  intro i hi
  simp only [] at hi
  refine ⟨_, (T.get_ofList cells i).trans (List.getElem?_eq_getElem hi), ?_⟩
  have := hv.2 i hi
  simp only [plNew, Nat.zero_add]
  rw [List.getD_eq_getElem?_getD, List.getElem?_eq_getElem hi] at this
  rw [← getD_toList]
  simpa using this
end
end Go.AM
