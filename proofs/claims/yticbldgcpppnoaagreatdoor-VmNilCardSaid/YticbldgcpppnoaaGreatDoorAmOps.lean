/- The operations, first part: what each comes to in the abstract machine the model comes to. -/
import Derived.Test.YticbldgcpppnoaaGreatDoorAmWorld
import Derived.ChangeKeysEq
import Derived.Laws.Externs
import Derived.Laws.Strings
namespace Go.AM

def rowOf (name : String) : Array Value → Sem Value :=
  if name = "internal/bytealg.IndexByteString" ∨ name = "internal/bytealg.IndexByte" then Extern.BytealgIndexByte.indexByte
  else if name = "internal/abi.NoEscape" then Extern.AbiNoEscape.same
  else if name = "internal/bytealg.abigen_runtime_cmpstring" then Extern.BytealgCompare.compare
  else Extern.BytealgCount.count

structure EnvOk (E : Env) (P : Program) (nm : Nm) : Prop where
  prog : E.P = P
  inf : ∀ t i, E.inf t = some i → P.info? t = some i
  fn : ∀ f g, E.fn.get f = some g → P.funcs[f]? = some g
  sl : ∀ l, E.sl.contains l = true → nm.data.toList ≠ l
  names : ∀ (f : Nat) (g : Func), P.funcs[f]? = some g → (g.name == "runtime.NumGoroutine") = false
  mix : P.follows .mixedOrders = true
  known : ∀ k, k ∈ E.known → KnownOk P nm k
  ext : ∀ (f : Nat) (g : Func), P.funcs[f]? = some g → g.body = none →
    (g.name = "internal/bytealg.IndexByteString" ∨ g.name = "internal/bytealg.IndexByte" ∨ g.name = "internal/abi.NoEscape" ∨ g.name = "internal/bytealg.abigen_runtime_cmpstring" ∨ g.name = "internal/bytealg.CountString") →
    Extern.findNext g = none ∧ Extern.find g = some (rowOf g.name)

section
variable {E : Env} {P : Program} {nm : Nm}
theorem EnvOk.und (ok : EnvOk E P nm) {t : TypeId} {d : TypeDesc} (h : E.und t = some d) : P.underlying t = some d := by
  unfold Env.und at h
  split at h
  · rename_i i hi
    have h1 := ok.inf _ _ hi
    unfold Program.underlying
    rw [h1]
    split at h
    · rename_i nme u hd
      split at h
      · rename_i j hj
        have h2 := ok.inf _ _ hj
        cases h
        obtain ⟨desc, str, size, bytes, hasP, al, fal, zero, comp, meth⟩ := i
        simp only [] at hd
        subst hd
        simp [h2]
      · cases h
    · rename_i hne
      cases h
      obtain ⟨desc, str, size, bytes, hasP, al, fal, zero, comp, meth⟩ := i
      simp only [] at hne ⊢
      cases desc <;> first | rfl | (exact absurd rfl (hne _ _))
  · cases h
theorem EnvOk.run_und (ok : EnvOk E P nm) {t : TypeId} {d : TypeDesc} (h : E.und t = some d) (w : World) : (underlying t).run P w = .ok d w := run_underlying (ok.und h) w
theorem EnvOk.run_inf (ok : EnvOk E P nm) {t : TypeId} {i : TypeInfo} (h : E.inf t = some i) (w : World) : (typeInfo t).run P w = .ok i w := run_typeInfo w (ok.inf _ _ h)
theorem size_inf {t : TypeId} {n : Nat} (h : E.size t = some n) : ∃ i, E.inf t = some i ∧ i.size = n := by
  unfold Env.size at h
  cases hi : E.inf t with
  | none => simp [hi] at h
  | some i => simp [hi] at h; exact ⟨i, rfl, h⟩
theorem EnvOk.run_size (ok : EnvOk E P nm) {t : TypeId} {n : Nat} (h : E.size t = some n) (w : World) : (sizeOf t).run P w = .ok n w := by
  obtain ⟨i, hi, rfl⟩ := size_inf h
  simp [sizeOf, ok.run_inf hi w]
theorem EnvOk.run_zero (ok : EnvOk E P nm) {t : TypeId} {v : Value} (h : E.zero t = some v) (w : World) : (zeroValue t).run P w = .ok v w := by
  unfold Env.zero at h
  split at h
  · rename_i i hi
    split at h
    · rename_i z hz
      split at h
      · cases h
        simp [zeroValue, ok.run_inf hi w, hz]
      · cases h
    · cases h
  · cases h
theorem zero_plain {t : TypeId} {v : Value} (h : E.zero t = some v) : plainV v = true := by
  unfold Env.zero at h
  split at h
  · split at h
    · split at h
      · rename_i hp; cases h; exact hp
      · cases h
    · cases h
  · cases h
theorem zero_cells {t : TypeId} {v : Value} (h : E.zero t = some v) (φ : Emb) : LR nm φ v.cells.toList v.cells.toList := (VR.of_plainV (zero_plain h)).cells
theorem EnvOk.run_agg (ok : EnvOk E P nm) {t : TypeId} {b : Bool} (h : E.agg t = some b) (w : World) : (isAgg t).run P w = .ok b w := by
  unfold Env.agg at h
  cases hd : E.und t with
  | none => simp [hd] at h
  | some d =>
    simp [hd] at h
    simp only [isAgg, Sem.run_bind, ok.run_und hd w, Result.andThen_ok]
    subst h
    cases d <;> rfl
theorem EnvOk.run_loadV_aux (ok : EnvOk E P nm) {t : TypeId} {n : Nat} {vs : List Value} {a : Addr} {w : World} (hb : E.agg t = some true) (hs : E.size t = some n) (hl : (loadCells a n).run P w = .ok vs.toArray w) :
    (loadVar t a).run P w = .ok (.agg vs.toArray) w := by
  simp [loadVar, ok.run_agg hb w, ok.run_size hs w, hl]
end

inductive TR (nm : Nm) (φ : Emb) : Target → Target → Prop where
  | fn (f f' : Fn) (c c' : Array Value) : FnR φ f f' → AR nm φ c c' → TR nm φ (.fn f c) (.fn f' c')
  | nil : TR nm φ .nil .nil
  | builtin (b : Builtin) (ts : Array TypeId) (t : TypeId) (cs : Array Bool) : TR nm φ (.builtin b ts t cs) (.builtin b ts t cs)
  | collected (r : Nat) (p : Pl) : φ r = some p → TR nm φ (.collected r) (.collected p.blk)
structure DR (nm : Nm) (φ : Emb) (d d' : Deferred) : Prop where
  target : TR nm φ d.target d'.target
  args : AR nm φ d.args d'.args
theorem TR.mono {nm : Nm} {φ ψ : Emb} (h : φ.le ψ) {t t' : Target} (r : TR nm φ t t') : TR nm ψ t t' := by
  cases r with
  | fn f f' c c' h1 h2 => exact .fn f f' c c' (h1.mono h) (LR.mono h h2)
  | nil => exact .nil
  | builtin b ts t cs => exact .builtin b ts t cs
  | collected r p h1 => exact .collected r p (h _ _ h1)
theorem DR.mono {nm : Nm} {φ ψ : Emb} (h : φ.le ψ) {d d' : Deferred} (r : DR nm φ d d') : DR nm ψ d d' := ⟨r.target.mono h, LR.mono h r.args⟩

/-- What an operation comes to. -/
def NxR (P : Program) (nm : Nm) (φ : Emb) (s : Sem Next) (w w' : World) : Nx → Prop
  | .val v => ∃ v', VR nm φ v v' ∧ s.run P w = .ok (.value v') w'
  | .skip => s.run P w = .ok .skip w'
  | .dfr d => ∃ d', (DR nm φ d d') ∧ s.run P w = .ok (.defer d') w'
  | .enter f args => ∃ args' : Array Value, LR nm φ args args'.toList ∧ s.run P w = .ok (.enter f args') w' ∧ (∃ fn : Func, P.funcs[f]? = some fn ∧ fn.body.isSome = true)
  | .round l args => ∃ (args' : Array Value) (p : Pl), φ l = some p ∧ LR nm φ args args'.toList ∧ s.run P w = (Instr.yield p.blk args').run P w'
  | .recov => s.run P w = .ok .recover w'
  | .pan v => ∃ v', VR nm φ v v' ∧ s.run P w = .halt (.panic v') w'

section
variable {E : Env} {P : Program} {nm : Nm} {K : Kp} {base : World} {φ : Emb} {A A' : St} {w : World}

def Goal (P : Program) (nm : Nm) (K : Kp) (base : World) (φ : Emb) (A : St) (w : World) (s : Sem Next) (nx : Nx) (A' : St) : Prop :=
  ∃ φ' w', Emb.ext A.next φ φ' ∧ A.next ≤ A'.next ∧ WR nm K base φ' A' w' ∧ NxR P nm φ' s w w' nx

theorem goal_val {s : Sem Value} {v v' : Value} {φ' : Emb} {w' : World} (he : Emb.ext A.next φ φ') (hn : A.next ≤ A'.next) (hW : WR nm K base φ' A' w') (hv : VR nm φ' v v')
    (hr : s.run P w = .ok v' w') : Goal P nm K base φ A w (s >>= fun x => pure (Next.value x)) (.val v) A' :=
  ⟨φ', w', he, hn, hW, v', hv, by simp [hr]⟩
theorem goal_here {s : Sem Value} {v v' : Value} (hW : WR nm K base φ A w) (hv : VR nm φ v v') (hr : s.run P w = .ok v' w) :
    Goal P nm K base φ A w (s >>= fun x => pure (Next.value x)) (.val v) A := goal_val (Emb.ext_refl _ _) (Nat.le_refl _) hW hv hr
theorem goal_now {v v' : Value} (hW : WR nm K base φ A w) (hv : VR nm φ v v') : Goal P nm K base φ A w (pure (Next.value v')) (.val v) A :=
  ⟨φ, w, Emb.ext_refl _ _, Nat.le_refl _, hW, v', hv, rfl⟩
theorem goal_skip {s : Sem Unit} {w' : World} (hn : A'.next = A.next) (hW : WR nm K base φ A' w') (hr : s.run P w = .ok () w') : Goal P nm K base φ A w (s >>= fun _ => pure Next.skip) .skip A' :=
  ⟨φ, w', Emb.ext_refl _ _, by rw [hn]; exact Nat.le_refl _, hW, by simp [NxR, hr]⟩
theorem goal_pan {s : Sem Next} {v v' : Value} (hW : WR nm K base φ A w) (hv : VR nm φ v v') (hr : s.run P w = .halt (.panic v') w) : Goal P nm K base φ A w s (.pan v) A :=
  ⟨φ, w, Emb.ext_refl _ _, Nat.le_refl _, hW, v', hv, hr⟩

/-- Loads of variables. -/
theorem loadV_ok (ok : EnvOk E P nm) (h : WR nm K base φ A w) {t : TypeId} {a : Addr} {v : Value} (hl : loadV E A t a = some v) {p : Pl} (hp : φ a.block = some p) :
    ∃ v', VR nm φ v v' ∧ (loadVar t ⟨p.blk, p.off + a.off, none⟩).run P w = .ok v' w := by
  unfold loadV at hl
  split at hl
  · rename_i hb
    split at hl
    · rename_i n hs
      split at hl
      · rename_i vs hv
        cases hl
        obtain ⟨cvs, hr⟩ := h.load hv hp
        refine ⟨.agg cvs.toArray, .agg' (by simpa [AR] using hr.rel), ?_⟩
        exact ok.run_loadV_aux hb hs hr.run
      · cases hl
    · cases hl
  · rename_i hb
    split at hl
    · rename_i v0 hv
      cases hl
      obtain ⟨cvs, hr⟩ := h.load hv hp
      obtain ⟨v', m, rfl, h1, h2⟩ := hr.rel.cons_inv
      refine ⟨v', h1, ?_⟩
      have hc := hr.cell 0 v' (by simp)
      rw [add_mk] at hc
      simp [loadVar, ok.run_agg hb w, Nat.add_zero] at hc ⊢
      simp [hc]
    · cases hl
  · cases hl

theorem storeV_ok (ok : EnvOk E P nm) (h : WR nm K base φ A w) {t : TypeId} {a : Addr} {v v' : Value} (hl : storeV E A t a v = some A') (hv : VR nm φ v v') {p : Pl} (hp : φ a.block = some p) :
    ∃ w', (storeVar t ⟨p.blk, p.off + a.off, none⟩ v').run P w = .ok () w' ∧ WR nm K base φ A' w' ∧ A'.next = A.next := by
  unfold storeV at hl
  split at hl
  · rename_i n hs
    split at hl
    · rename_i hc
      obtain ⟨w', h1, h2, h3⟩ := h.store (P := P) hl hv.cells hp
      refine ⟨w', ?_, h2, h3⟩
      have hsz : v'.cells.size = n := by
        have := AR.size hv.cells
        rw [← this]; simpa using hc
      simp only [storeVar, Sem.run_bind, ok.run_size hs w, Result.andThen_ok, ne_eq, hsz, not_true, if_false]
      exact h1
    · cases hl
  · cases hl

/-- A new row of its own. -/
def rowObj (elem : TypeId) (cells : List Value) (b : Nat) : AObj :=
  .row { own := true, size := cells.length, cells := T.ofList cells, elem, esz := 0, opn := false, grp := b, frz := 0, sb := false }
def plNew (w : World) (n : Nat) : Pl := { blk := w.heap.size, off := 0, csz := n, esz := 0, opn := false }
theorem rowObj_or {elem : TypeId} {cells cvs : List Value} (b : Nat) (hv : LR nm φ cells cvs) :
    OR nm φ (w.heap.push (.cells cvs.toArray elem)) (plNew w cvs.length) (rowObj elem cells b) := by
  have hlen := hv.length
  refine ⟨cvs.toArray, (0, 0), ?_⟩
  refine { blk := by simp [plNew], csz := by simp [plNew], opn := rfl, esz := fun h => by simp at h, fit := by simp [plNew, hlen], cell := ?_, frz := fun _ j h1 h2 => by simp at h2, sb := fun _ _ => .inl rfl, exact := fun _ => ⟨rfl, by simp [hlen]⟩ }
  intro i hi
  simp only [] at hi
  refine ⟨_, (T.get_ofList cells i).trans (List.getElem?_eq_getElem hi), ?_⟩
  have := hv.2 i hi
  simp only [plNew, Nat.zero_add]
  rw [List.getD_eq_getElem?_getD, List.getElem?_eq_getElem hi] at this
  rw [← getD_toList]
  simpa using this
end
end Go.AM

namespace Go.AM
section
variable {E : Env} {P : Program} {nm : Nm} {K : Kp} {base : World} {φ : Emb} {A A' : St} {w : World} {ρ ρ' : Operand → Value} {nx : Nx}

theorem pureRun_ok {α : Type} : ∀ (s : Sem α) (a : α), pureRun P s = some (.ok a) → ∀ w, s.run P w = .ok a w := by
  intro s
  induction s with
  | pure b => intro a h w; simp only [pureRun, Option.some.injEq, Except.ok.injEq] at h; subst h; rfl
  | program k ih => intro a h w; simp only [pureRun] at h; simp only [Sem.run]; exact ih P a h w
  | halt x => intro a h w; cases x <;> simp [pureRun] at h
  | _ => intro a h w; simp [pureRun] at h
theorem pureRun_pan {α : Type} : ∀ (s : Sem α) (v : Value), pureRun P s = some (.error v) → ∀ w, s.run P w = .halt (.panic v) w := by
  intro s
  induction s with
  | pure b => intro a h w; simp [pureRun] at h
  | program k ih => intro a h w; simp only [pureRun] at h; simp only [Sem.run]; exact ih P a h w
  | halt x => intro a h w; cases x <;> simp [pureRun] at h; subst h; rfl
  | _ => intro a h w; simp [pureRun] at h

theorem map_congr_opt {f g : Operand → Value} (x : Option Operand) (h : ∀ y, x = some y → f y = g y) : x.map f = x.map g := by
  cases x with
  | none => rfl
  | some y => simp [h y rfl]

theorem execOp_congr (o : Oper) (hp : pureOp o = true) (h : ∀ x, x ∈ o.op.operands.toList → ρ' x = ρ x) : execOp ρ' o = execOp ρ o := by
  unfold pureOp at hp
  unfold execOp
  cases hop : o.op <;> simp only [hop] at hp h ⊢ <;> first
    | (cases hp; done)
    | skip
  case binOp op t x y u => rw [h x (by simp [Op.operands]), h y (by simp [Op.operands])]
  case unOp op t x => rw [h x (by simp [Op.operands])]
  case convert a b x => rw [h x (by simp [Op.operands])]
  case makeInterface t x => rw [h x (by simp [Op.operands])]
  case field t x f => rw [h x (by simp [Op.operands])]
  case index t x i => rw [h x (by simp [Op.operands]), h i (by simp [Op.operands])]
  case typeAssert x a b c => rw [h x (by simp [Op.operands])]
  case extract x i => rw [h x (by simp [Op.operands])]
  case slice t x lo hi mx =>
    rw [h x (by simp [Op.operands]), map_congr_opt lo (fun y e => h y (by simp [Op.operands, e])), map_congr_opt hi (fun y e => h y (by simp [Op.operands, e])), map_congr_opt mx (fun y e => h y (by simp [Op.operands, e]))]
  case build t parts =>
    have : (parts.map fun (x : Nat × Operand) => (x.1, ρ' x.2)) = (parts.map fun (x : Nat × Operand) => (x.1, ρ x.2)) := by
      apply Array.map_congr_left
      intro p hpm
      rw [h p.2 (by simp only [Op.operands, List.mem_map]; exact ⟨p, by simpa using hpm, rfl⟩)]
    rw [this]

theorem viaPure_ok (ok : EnvOk E P nm) (h : WR nm K base φ A w) (o : Oper) (hρ : ∀ x, x ∈ o.op.operands.toList → VR nm φ (ρ x) (ρ' x)) (hx : viaPure E A ρ o = some (nx, A')) :
    Goal P nm K base φ A w (execOp ρ' o) nx A' := by
  unfold viaPure at hx
  split at hx
  · rename_i hc
    rw [Bool.and_eq_true, List.all_eq_true] at hc
    have hcong : execOp ρ' o = execOp ρ o := execOp_congr o hc.1 fun x hm => (hρ x hm).plainV_eq (hc.2 _ (List.mem_map_of_mem hm))
    rw [hcong]
    rw [ok.prog] at hx
    split at hx
    · rename_i v hr
      split at hx
      · rename_i hpv
        cases hx
        exact ⟨φ, w, Emb.ext_refl _ _, Nat.le_refl _, h, v, .of_plainV hpv, pureRun_ok _ _ hr w⟩
      · cases hx
    · rename_i v hr
      split at hx
      · rename_i hpv
        cases hx
        exact goal_pan h (.of_plainV hpv) (pureRun_pan _ _ hr w)
      · cases hx
    · cases hx
  · cases hx

theorem VR.bool_inv {b : Bool} {c : Value} (h : VR nm φ (.bool b) c) : c = .bool b := by cases h; rfl
theorem VR.int_inv {k : IntKind} {n : Int} {c : Value} (h : VR nm φ (.int k n) c) : c = .int k n := by cases h; rfl
theorem VR.str_inv {s : ByteArray} {c : Value} (h : VR nm φ (.string s) c) : c = .string s := by cases h; rfl
theorem VR.ptr_inv {a : Addr} {c : Value} (h : VR nm φ (.pointer (some a)) c) : ∃ p, φ a.block = some p ∧ a.spot = none ∧ c = .pointer (some ⟨p.blk, p.off + a.off, none⟩) := by
  cases h with
  | ptr a p h1 h2 => exact ⟨p, h1, h2, rfl⟩
theorem VR.map_inv {r : Nat} {c : Value} (h : VR nm φ (.map (some r)) c) : ∃ p, φ r = some p ∧ c = .map (some p.blk) := by
  cases h with
  | map r p h1 => exact ⟨p, h1, rfl⟩
theorem VR.iface_inv {t : TypeId} {v c : Value} (h : VR nm φ (.iface t v) c) : ∃ v', c = .iface t v' ∧ VR nm φ v v' := by
  cases h with
  | iface t v v' h1 => exact ⟨v', rfl, h1⟩
theorem VR.nils_inv {l k : Nat} {c : Value} (h : VR nm φ (.slice none l k) c) : c = .slice none l k := by cases h; rfl
theorem VR.slc_inv {a : Addr} {l k : Nat} {c : Value} (h : VR nm φ (.slice (some a) l k) c) : ∃ a' k' p, c = .slice (some a') l k' ∧ φ a.block = some p ∧ a.spot = none ∧ a'.block = p.blk ∧ a'.spot = none ∧
    (k' = 0 ∨ a'.off = p.off + a.off) ∧ (p.opn = false → k' = k) ∧ (p.opn = true → k ≤ k' ∧ a'.off + k' * p.esz ≤ p.csz) ∧ l ≤ k := by
  cases h with
  | slc a a' l c c' p h1 h2 h3 h4 h5 h6 h7 h8 => exact ⟨a', c', p, rfl, h1, h2, h3, h4, h5, h6, h7, h8⟩

theorem xPick_ok (h : WR nm K base φ A w) (c a b : Operand) (hc : VR nm φ (ρ c) (ρ' c)) (ha : VR nm φ (ρ a) (ρ' a)) (hb : VR nm φ (ρ b) (ρ' b))
    (hx : xPick A ρ c a b = some (nx, A')) : Goal P nm K base φ A w (asBool (ρ' c) >>= fun t => pure (Next.value (if t then ρ' a else ρ' b))) nx A' := by
  unfold xPick at hx
  split at hx
  · rename_i t ht
    cases hx
    rw [ht] at hc
    rw [hc.bool_inv]
    refine ⟨φ, w, Emb.ext_refl _ _, Nat.le_refl _, h, (if t then ρ' a else ρ' b), ?_, by simp [asBool]⟩
    cases t
    · exact hb
    · exact ha
  · cases hx

theorem xLoad_ok (ok : EnvOk E P nm) (h : WR nm K base φ A w) (t : TypeId) (a : Operand) (ha : VR nm φ (ρ a) (ρ' a)) (hx : xLoad E A ρ t a = some (nx, A')) :
    Goal P nm K base φ A w (Instr.loadAt t (ρ' a) >>= fun x => pure (Next.value x)) nx A' := by
  unfold xLoad at hx
  split at hx
  · rename_i ad hd
    split at hx
    · rename_i v hv
      cases hx
      rw [hd] at ha
      obtain ⟨p, h1, h2, h3⟩ := ha.ptr_inv
      obtain ⟨v', g1, g2⟩ := loadV_ok ok h hv h1
      refine goal_here h g1 ?_
      rw [h3]
      simp only [Instr.loadAt, Instr.sureAddr, Sem.run_bind, Sem.run_pure, Result.andThen_ok]
      exact g2
    · cases hx
  · cases hx

theorem xStore_ok (ok : EnvOk E P nm) (h : WR nm K base φ A w) (t : TypeId) (a x : Operand) (ha : VR nm φ (ρ a) (ρ' a)) (hv : VR nm φ (ρ x) (ρ' x)) (hx : xStore E A ρ t a x = some (nx, A')) :
    Goal P nm K base φ A w (Instr.storeAt t (ρ' a) (ρ' x) >>= fun _ => pure Next.skip) nx A' := by
  unfold xStore at hx
  split at hx
  · rename_i ad hd
    split at hx
    · rename_i A1 hs
      cases hx
      rw [hd] at ha
      obtain ⟨p, h1, h2, h3⟩ := ha.ptr_inv
      obtain ⟨w', g1, g2, g3⟩ := storeV_ok (P := P) ok h hs hv h1
      refine goal_skip g3 g2 ?_
      rw [h3]
      simp only [Instr.storeAt, Instr.sureAddr, Sem.run_bind, Sem.run_pure, Result.andThen_ok]
      exact g1
    · cases hx
  · cases hx

/-- What a new block comes to: at whatever place of the abstract machine. -/
def Fresh (P : Program) (nm : Nm) (φ : Emb) (w : World) (s : Sem Next) (v : Nat → Value) (o : Nat → AObj) : Prop :=
  ∃ (c : Obj) (v' : Value) (p : Pl), s.run P w = .ok (.value v') (w.alloc c) ∧ p.blk = w.heap.size ∧
    ∀ b, φ b = none → OR nm (φ.upd b p) (w.heap.push c) p (o b) ∧ (o b).own = true ∧ VR nm (φ.upd b p) (v b) v'

theorem Fresh.goal {s : Sem Next} {v : Nat → Value} {o : Nat → AObj} (h : WR nm K base φ A w) (f : Fresh P nm φ w s v o) :
    Goal P nm K base φ A w s (.val (v A.next)) { A with next := A.next + 1, h := A.h.set A.next (o A.next) } := by
  obtain ⟨c, v', p, h1, h2, h3⟩ := f
  have hn := h.dom A.next (Nat.le_refl _)
  obtain ⟨g1, g2, g3⟩ := h3 A.next hn
  exact ⟨φ.upd A.next p, w.alloc c, Emb.upd_ext _ _ _, Nat.le_succ _, h.new A.next p _ c (A.next + 1) hn (Nat.le_succ _) (Nat.lt_succ_self _) h2 g1 g2, v', g3, h1⟩

theorem fresh_row {e : TypeId} {cells cvs : List Value} {s : Sem Next} {v : Nat → Value} {v' : Value} (hc : LR nm φ cells cvs)
    (hs : s.run P w = .ok (.value v') (w.alloc (.cells cvs.toArray e)))
    (hv : ∀ b, VR nm (φ.upd b (plNew w cvs.length)) (v b) v') : Fresh P nm φ w s v (rowObj e cells) :=
  ⟨_, v', plNew w cvs.length, hs, rfl, fun b hb => ⟨rowObj_or b (hc.mono (Emb.upd_le _ hb)), rfl, hv b⟩⟩

theorem newRow_eq (e : TypeId) (cells : List Value) : A.newRow e cells = (⟨A.next, 0, none⟩, { A with next := A.next + 1, h := A.h.set A.next (rowObj e cells A.next) }) := rfl

theorem ptr_new (b n : Nat) : VR nm (φ.upd b (plNew w n)) (.pointer (some ⟨b, 0, none⟩)) (.pointer (some ⟨w.heap.size, 0, none⟩)) :=
  .ptr ⟨b, 0, none⟩ (plNew w n) (Emb.upd_same _ _ _) rfl
theorem slc_new (b n l c : Nat) (hl : l ≤ c) : VR nm (φ.upd b (plNew w n)) (.slice (some ⟨b, 0, none⟩) l c) (.slice (some ⟨w.heap.size, 0, none⟩) l c) :=
  .slc ⟨b, 0, none⟩ ⟨w.heap.size, 0, none⟩ l c c (plNew w n) (Emb.upd_same _ _ _) rfl rfl rfl (.inr rfl) (fun _ => rfl) (fun h => by simp [plNew] at h) hl

theorem xAlloc_fresh (ok : EnvOk E P nm) (t : TypeId) (hx : xAlloc E A ρ t = some (nx, A')) :
    ∃ v o, nx = .val (v A.next) ∧ A' = { A with next := A.next + 1, h := A.h.set A.next (o A.next) } ∧ Fresh P nm φ w (Instr.alloc t true (.tuple #[]) >>= fun x => pure (Next.value x)) v o := by
  unfold xAlloc at hx
  split at hx
  · rename_i z hzz
    rw [newRow_eq] at hx
    cases hx
    refine ⟨fun b => .pointer (some ⟨b, 0, none⟩), rowObj t z.cells.toList, rfl, rfl, ?_⟩
    refine fresh_row (zero_cells hzz φ) (v' := .pointer (some ⟨w.heap.size, 0, none⟩)) ?_ (fun b => ptr_new b _)
    simp [Instr.alloc, ok.run_zero hzz w, newVar, newRow]
  · cases hx

theorem xBox_fresh (t : TypeId) (x : Operand) (hr : VR nm φ (ρ x) (ρ' x)) (hx : xBox A ρ t x = some (nx, A')) :
    ∃ v o, nx = .val (v A.next) ∧ A' = { A with next := A.next + 1, h := A.h.set A.next (o A.next) } ∧ Fresh P nm φ w (Instr.box t (ρ' x) >>= fun x => pure (Next.value x)) v o := by
  unfold xBox at hx
  rw [newRow_eq] at hx
  cases hx
  refine ⟨fun b => .pointer (some ⟨b, 0, none⟩), rowObj t (ρ x).cells.toList, rfl, rfl, ?_⟩
  refine fresh_row hr.cells (v' := .pointer (some ⟨w.heap.size, 0, none⟩)) ?_ (fun b => ptr_new b _)
  simp [Instr.box, newVar, newRow]
end
end Go.AM

namespace Go.AM
section
variable {E : Env} {P : Program} {nm : Nm} {K : Kp} {base : World} {φ : Emb} {A A' : St} {w : World} {ρ ρ' : Operand → Value} {nx : Nx}

/-- Pairs of places and values. -/
def PR (nm : Nm) (φ : Emb) (l l' : List (Nat × Value)) : Prop := l.map (·.1) = l'.map (·.1) ∧ LR nm φ (l.map (·.2)) (l'.map (·.2))

theorem AR.setIfInBounds {a a' : Array Value} (h : AR nm φ a a') (i : Nat) {v v' : Value} (hv : VR nm φ v v') : AR nm φ (a.setIfInBounds i v) (a'.setIfInBounds i v') := by
  refine .of_get? (by simpa using h.1) fun j u u' h1 h2 => ?_
  simp only [Array.getElem?_toList, Array.getElem?_setIfInBounds] at h1 h2
  have hs := AR.size h
  split at h1
  · rename_i e
    split at h1
    · rename_i hi
      rw [if_pos e] at h2
      rw [if_pos (hs ▸ hi)] at h2
      cases h1; cases h2; exact hv
    · cases h1
  · rename_i e
    rw [if_neg e] at h2
    obtain ⟨x, hx, hr⟩ := LR.get? h (i := j) (by simpa using h1)
    have hx' : a'[j]? = some x := by simpa using hx
    rw [hx'] at h2; cases h2; exact hr

theorem foldl_fill (off : Nat) : ∀ (vs vs' : List Value) (k : Nat) (cs cs' : Array Value), LR nm φ vs vs' → AR nm φ cs cs' →
    AR nm φ ((vs.zipIdx k).foldl (fun cs (x : Value × Nat) => cs.setIfInBounds (off + x.2) x.1) cs) ((vs'.zipIdx k).foldl (fun cs (x : Value × Nat) => cs.setIfInBounds (off + x.2) x.1) cs')
  | [], vs', k, cs, cs', h, hc => by rw [h.nil_inv]; exact hc
  | v :: vs, vs', k, cs, cs', h, hc => by
    obtain ⟨v', m, rfl, h1, h2⟩ := h.cons_inv
    simp only [List.zipIdx_cons, List.foldl_cons]
    exact foldl_fill off vs m (k + 1) _ _ h2 (hc.setIfInBounds _ h1)

theorem fill_rel (place : Nat → Option (Nat × Nat)) : ∀ (l l' : List (Nat × Value)) (cs cs' r : Array Value), PR nm φ l l' → AR nm φ cs cs' → Instr.fill place cs l = some r →
    ∃ r', Instr.fill place cs' l' = some r' ∧ AR nm φ r r'
  | [], l', cs, cs', r, h, hc, hf => by
    have : l' = [] := by have := h.1; simpa using this.symm
    subst this
    simp only [Instr.fill, Option.some.injEq] at hf ⊢
    subst hf
    exact ⟨cs', rfl, hc⟩
  | (i, v) :: l, l', cs, cs', r, h, hc, hf => by
    cases l' with
    | nil => have := h.1; simp at this
    | cons x l' =>
      obtain ⟨i', v'⟩ := x
      have h1 := h.1
      simp only [List.map_cons, List.cons.injEq] at h1
      obtain ⟨e, h1⟩ := h1
      subst e
      have h2 : LR nm φ (v :: l.map (·.2)) (v' :: l'.map (·.2)) := h.2
      simp only [Instr.fill] at hf ⊢
      cases hpl : place i with
      | none => simp [hpl] at hf
      | some q =>
        obtain ⟨off, size⟩ := q
        simp only [hpl] at hf ⊢
        have hcs := AR.size h2.head.cells
        have hsz := AR.size hc
        split at hf
        · cases hf
        · rename_i hn
          rw [← hcs, ← hsz, if_neg hn]
          have hcc : LR nm φ v.cells.toList v'.cells.toList := h2.head.cells
          have key := foldl_fill off v.cells.toList v'.cells.toList 0 cs cs' hcc hc
          have conv : ∀ (c d : Array Value), (c.zipIdx.foldl (fun cs (x : Value × Nat) => cs.setIfInBounds (off + x.2) x.1) d) = ((c.toList.zipIdx 0).foldl (fun cs (x : Value × Nat) => cs.setIfInBounds (off + x.2) x.1) d) := by
            intro c d
            rw [← Array.foldl_toList, Array.toList_zipIdx]
          rw [← conv, ← conv] at key
          exact fill_rel place l l' _ _ r ⟨h1, h2.tail⟩ key hf

theorem parts_rel (parts : Array (Nat × Operand)) (h : ∀ x, x ∈ parts.toList.map (·.2) → VR nm φ (ρ x) (ρ' x)) :
    PR nm φ (parts.toList.map fun p => (p.1, ρ p.2)) (parts.map fun (i, x) => (i, ρ' x)).toList := by
  rw [Array.toList_map]
  refine ⟨by simp [List.map_map, Function.comp_def], ?_⟩
  rw [List.map_map, List.map_map]
  exact LR.map _ fun p hp => h p.2 (List.mem_map_of_mem hp)

theorem LR.extract {a a' : Array Value} (h : AR nm φ a a') (i j : Nat) : AR nm φ (a.extract i j) (a'.extract i j) := by
  have : LR nm φ ((a.toList.take j).drop i) ((a'.toList.take j).drop i) := (LR.take h j).drop i
  simpa [AR, Array.toList_extract, List.extract_eq_take_drop, List.drop_take] using this

theorem getPart_ok (ok : EnvOk E P nm) {t : TypeId} {cs cs' : Array Value} {off : Nat} {v : Value} (h : AR nm φ cs cs') (hp : getPart E t cs off = some v) :
    ∃ v', VR nm φ v v' ∧ (part t cs' off).run P w = .ok v' w := by
  unfold getPart at hp
  split at hp
  · rename_i hb
    split at hp
    · rename_i n hs
      cases hp
      exact ⟨.agg (cs'.extract off (off + n)), .agg' (h.extract _ _), by simp [part, ok.run_agg hb w, ok.run_size hs w]⟩
    · cases hp
  · rename_i hb
    obtain ⟨v', h1, h2⟩ := LR.get? h (i := off) (by simpa using hp)
    refine ⟨v', h2, ?_⟩
    have h1' : cs'[off]? = some v' := by simpa using h1
    simp [part, ok.run_agg hb w, h1']
  · cases hp

theorem xField_ok (ok : EnvOk E P nm) (h : WR nm K base φ A w) (t : TypeId) (x : Operand) (f : Nat) (hv : VR nm φ (ρ x) (ρ' x)) (hx : xField E A ρ t x f = some (nx, A')) :
    Goal P nm K base φ A w (Instr.field t (ρ' x) f >>= fun x => pure (Next.value x)) nx A' := by
  unfold xField at hx
  split at hx
  · rename_i fs cs hu hr
    split at hx
    · rename_i fd hf
      split at hx
      · rename_i v hp
        cases hx
        rw [hr] at hv
        obtain ⟨cs', e1, e2⟩ := hv.agg_inv
        obtain ⟨v', g1, g2⟩ := getPart_ok (w := w) ok e2 hp
        refine goal_here h g1 ?_
        simp [Instr.field, ok.run_und hu w, hf, e1, asAgg, g2]
      · cases hx
    · cases hx
  · cases hx

theorem xExtract_ok (h : WR nm K base φ A w) (t : Operand) (i : Nat) (hv : VR nm φ (ρ t) (ρ' t)) (hx : xExtract A ρ t i = some (nx, A')) :
    Goal P nm K base φ A w (Instr.extract (ρ' t) i >>= fun x => pure (Next.value x)) nx A' := by
  unfold xExtract at hx
  split at hx
  · rename_i vs hr
    split at hx
    · rename_i v hp
      cases hx
      rw [hr] at hv
      obtain ⟨cs', e1, e2⟩ := hv.tuple_inv
      obtain ⟨v', h1, h2⟩ := LR.get? e2 (i := i) (by simpa using hp)
      have h1' : cs'[i]? = some v' := by simpa using h1
      exact goal_here h h2 (by simp [Instr.extract, e1, h1'])
    · cases hx
  · cases hx

theorem xMakeInterface_ok (ok : EnvOk E P nm) (h : WR nm K base φ A w) (t : TypeId) (x : Operand) (hv : VR nm φ (ρ x) (ρ' x)) (hx : xMakeInterface E A ρ t x = some (nx, A')) :
    Goal P nm K base φ A w (Instr.makeInterface t (ρ' x) >>= fun x => pure (Next.value x)) nx A' := by
  unfold xMakeInterface at hx
  split at hx
  · cases hx
  · rename_i d hn hu
    cases hx
    refine goal_here h (.iface _ _ _ hv) ?_
    simp only [Instr.makeInterface, Sem.run_bind, ok.run_und hu w, Result.andThen_ok]
    cases d <;> first | rfl | (exact absurd rfl (hn _))
  · cases hx

theorem mapM_places (ok : EnvOk E P nm) (fs : List Field) (places : List (Nat × Nat)) (h : fs.mapM (fun f => (E.size f.type).map fun s => (f.offset, s)) = some places) :
    (fs.mapM (m := Sem) (fun f => do pure (f.offset, ← sizeOf f.type))).run P w = .ok places w := by
  induction fs generalizing places with
  | nil => simp at h; subst h; simp
  | cons f fs ih =>
    simp only [List.mapM_cons, Option.bind_eq_bind, Option.bind_eq_some_iff, Option.map_eq_some_iff, Option.pure_def, Option.some.injEq] at h
    obtain ⟨p, ⟨s, hs, rfl⟩, ps, hps, rfl⟩ := h
    simp only [List.mapM_cons, Sem.run_bind, ok.run_size hs w, Result.andThen_ok, Sem.run_pure, ih ps hps]

theorem xBuild_ok (ok : EnvOk E P nm) (h : WR nm K base φ A w) (t : TypeId) (parts : Array (Nat × Operand)) (hv : ∀ x, x ∈ parts.toList.map (·.2) → VR nm φ (ρ x) (ρ' x))
    (hx : xBuild E A ρ t parts = some (nx, A')) :
    Goal P nm K base φ A w (Instr.build t (parts.map fun (i, x) => (i, ρ' x)) >>= fun x => pure (Next.value x)) nx A' := by
  have hp := parts_rel (nm := nm) (φ := φ) parts hv
  unfold xBuild at hx
  split at hx
  · rename_i fs z hu hz
    split at hx
    · rename_i places hpl
      split at hx
      · rename_i cells hf
        cases hx
        obtain ⟨r', e1, e2⟩ := fill_rel _ _ _ _ z.cells cells hp (zero_cells hz φ) hf
        refine goal_here h (.agg' e2) ?_
        have hm := mapM_places (w := w) ok fs.toList places hpl
        have hm' : (fs.mapM (m := Sem) (fun f => do pure (f.offset, ← sizeOf f.type))).run P w = .ok places.toArray w := by
          rw [Array.mapM_eq_mapM_toList]
          simp only [Sem.run_map, hm, Result.andThen_ok]
        simp only [Instr.build, Sem.run_bind, ok.run_zero hz w, ok.run_und hu w, Result.andThen_ok, Sem.run_pure, hm', e1]
      · cases hx
    · cases hx
  · rename_i n e z hu hz
    split at hx
    · rename_i s hs
      split at hx
      · rename_i cells hf
        cases hx
        obtain ⟨r', e1, e2⟩ := fill_rel _ _ _ _ z.cells cells hp (zero_cells hz φ) hf
        refine goal_here h (.agg' e2) ?_
        simp only [Instr.build, Sem.run_bind, ok.run_zero hz w, ok.run_und hu w, Result.andThen_ok, Sem.run_pure, ok.run_size hs w, e1]
      · cases hx
    · cases hx
  · cases hx

/-- Zero cells, so many times. -/
theorem zeros_length (z : List Value) (n : Nat) : (zeros z n).length = n * z.length := by
  induction n with
  | zero => simp [zeros]
  | succ n ih => simp [zeros, ih, Nat.succ_mul, Nat.add_comm]
theorem zeros_get (z : List Value) : ∀ (n i : Nat), i < n * z.length → (zeros z n)[i]? = z[i % z.length]?
  | 0, i, h => by simp at h
  | n + 1, i, h => by
    simp only [zeros]
    rw [List.getElem?_append]
    split
    · rename_i hi; rw [Nat.mod_eq_of_lt hi]
    · rename_i hi
      rw [Nat.succ_mul] at h
      rw [zeros_get z n (i - z.length) (by omega)]
      rw [Nat.mod_eq_sub_mod (by omega : i ≥ z.length)]
theorem zeros_eq (z : Array Value) (n s : Nat) (hs : z.size = s) : (Array.range (n * s)).map (fun i => z[i % z.size]!) = (zeros z.toList n).toArray := by
  subst hs
  apply Array.ext_getElem?
  intro i
  by_cases h : i < n * z.size
  · have hz : 0 < z.size := by
      rcases Nat.eq_zero_or_pos z.size with g | g
      · rw [g] at h; simp at h
      · exact g
    have hm := Nat.mod_lt i hz
    simp only [Array.getElem?_map, List.getElem?_toArray]
    rw [zeros_get _ _ _ (by simpa using h)]
    simp [h, getElem!_pos, hm]
  · rw [Array.getElem?_eq_none (by simpa using h), List.getElem?_toArray, List.getElem?_eq_none (by rw [zeros_length]; simpa using h)]
theorem zeros_rel {z : List Value} (h : LR nm φ z z) : ∀ n, LR nm φ (zeros z n) (zeros z n)
  | 0 => .nil
  | n + 1 => h.append (zeros_rel h n)

theorem xBuildSlice_fresh (ok : EnvOk E P nm) (t : TypeId) (len : Nat) (parts : Array (Nat × Operand)) (hv : ∀ x, x ∈ parts.toList.map (·.2) → VR nm φ (ρ x) (ρ' x))
    (hx : xBuildSlice E A ρ t len parts = some (nx, A')) :
    ∃ v o, nx = .val (v A.next) ∧ A' = { A with next := A.next + 1, h := A.h.set A.next (o A.next) } ∧
      Fresh P nm φ w (Instr.buildSlice t len (parts.map fun (i, x) => (i, ρ' x)) >>= fun x => pure (Next.value x)) v o := by
  have hp := parts_rel (nm := nm) (φ := φ) parts hv
  unfold xBuildSlice at hx
  split at hx
  · rename_i e hu
    split at hx
    · rename_i s z hs hz
      split at hx
      · cases hx
      · rename_i hn
        split at hx
        · rename_i cells hf
          rw [newRow_eq] at hx
          cases hx
          have hzs : z.cells.size = s := by
            rcases Classical.em (z.cells.size = s) with g | g
            · exact g
            · exact absurd (.inr (.inr g)) hn
          have hs0 : s ≠ 0 := fun g => hn (.inl g)
          have hbig : ¬ (len * s > 16777216) := fun g => hn (.inr (.inl g))
          obtain ⟨r', e1, e2⟩ := fill_rel _ _ _ _ (zeros z.cells.toList len).toArray cells hp (by simpa [AR] using zeros_rel (zero_cells hz φ) len) hf
          refine ⟨fun b => .slice (some ⟨b, 0, none⟩) len len, rowObj e cells.toList, rfl, rfl, ?_⟩
          refine fresh_row e2 (v' := .slice (some ⟨w.heap.size, 0, none⟩) len len) ?_ (fun b => slc_new b _ _ _ (Nat.le_refl _))
          rcases Nat.eq_zero_or_pos len with hl | hl
          · subst hl
            have hz0 : (zeros z.cells.toList 0).toArray = #[] := rfl
            rw [hz0] at e1
            have hr : ∀ f : Nat → Value, Array.map f (Array.range 0) = #[] := fun f => by simp
            simp only [Instr.buildSlice, Sem.run_bind, ok.run_und hu w, ok.run_size hs w, Result.andThen_ok, Nat.zero_mul]
            rw [if_neg (by simp), if_pos trivial]
            simp only [Sem.run_bind, Sem.run_pure, Result.andThen_ok, hr, e1]
            simp [newRow]
          · have hne : ¬ (len * s = 0) := by
              intro g; rcases Nat.mul_eq_zero.1 g with g | g <;> omega
            have hbig' : ¬ (2 ^ 24 < len * s) := by omega
            simp only [Instr.buildSlice, Sem.run_bind, ok.run_und hu w, ok.run_size hs w, Result.andThen_ok]
            rw [if_neg (by simpa using hbig'), if_neg hne]
            simp only [Sem.run_bind, ok.run_zero hz w, Result.andThen_ok, Sem.run_pure]
            have hze := zeros_eq z.cells len s hzs
            simp only [hze, e1]
            simp [newRow]
        · cases hx
    · cases hx
  · cases hx

theorem xMakeSlice_fresh (ok : EnvOk E P nm) (t : TypeId) (l c : Operand) (hl : VR nm φ (ρ l) (ρ' l)) (hc : VR nm φ (ρ c) (ρ' c)) (hx : xMakeSlice E A ρ t l c = some (nx, A')) :
    ∃ v o, nx = .val (v A.next) ∧ A' = { A with next := A.next + 1, h := A.h.set A.next (o A.next) } ∧
      Fresh P nm φ w (Instr.makeSlice t (ρ' l) (ρ' c) >>= fun x => pure (Next.value x)) v o := by
  unfold xMakeSlice at hx
  split at hx
  · rename_i e k1 ln k2 cp hu h1 h2
    split at hx
    · rename_i i hi
      split at hx
      · rename_i z hz
        split at hx
        · rename_i hcond
          obtain ⟨c1, c2, c3, c4, c5, c6⟩ := hcond
          rw [newRow_eq] at hx
          cases hx
          rw [h1] at hl; rw [h2] at hc
          have e1 := hl.int_inv
          have e2 := hc.int_inv
          obtain ⟨n, rfl⟩ := Int.eq_ofNat_of_zero_le c1
          obtain ⟨m, rfl⟩ := Int.eq_ofNat_of_zero_le (Int.le_trans c1 c2)
          have hs : E.size e = some i.size := by simp [Env.size, hi]
          refine ⟨fun b => .slice (some ⟨b, 0, none⟩) n m, rowObj e (zeros z.cells.toList m), rfl, rfl, ?_⟩
          refine fresh_row (zeros_rel (zero_cells hz φ) m) (v' := .slice (some ⟨w.heap.size, 0, none⟩) n m) ?_ (fun b => slc_new b _ _ _ (by omega))
          have w1 : IntKind.i64.wrap (n : Int) = n := by unfold IntKind.wrap; simp [IntKind.bits, IntKind.signed]; omega
          have w2 : IntKind.i64.wrap (m : Int) = m := by unfold IntKind.wrap; simp [IntKind.bits, IntKind.signed]; omega
          have hze := zeros_eq z.cells m i.size c6
          have big : ¬ ((2 : Int) ^ 48 < (i.bytes : Int) * m) := by
            have : (i.bytes : Int) * m = m * i.bytes := Int.mul_comm _ _
            omega
          have room : ¬ (roomBytes < m * i.bytes) := by
            unfold roomBytes
            have : ((m * i.bytes : Nat) : Int) ≤ 140737488355328 := by simpa using c3
            omega
          simp only [Instr.makeSlice, Sem.run_bind, ok.run_und hu w, Result.andThen_ok, e1, e2, asInt, asIntOf, Sem.run_pure, ok.run_inf hi w, w1, w2]
          have hcond2 : (((decide ((m : Int) < 0) || decide ((i.bytes : Int) * m > 2 ^ 48)) || decide ((n : Int) < 0)) || decide ((n : Int) > m)) = false := by
            simp only [Bool.or_eq_false_iff, decide_eq_false_iff_not]
            refine ⟨⟨⟨by omega, by simpa using big⟩, by omega⟩, by omega⟩
          rw [if_neg (by rw [hcond2]; simp)]
          simp only [Int.toNat_natCast, askRoom]
          rw [if_neg (by simpa using room)]
          simp only [Sem.run_bind, Sem.run_pure, Result.andThen_ok, ok.run_size hs w]
          rcases Nat.eq_zero_or_pos m with hm | hm
          · subst hm
            have hr : ∀ f : Nat → Value, Array.map f (Array.range 0) = #[] := fun f => by simp
            simp [newRow, zeros]
            rw [hr]
          · have hne : ¬ (m * i.size = 0) := by
              intro g; rcases Nat.mul_eq_zero.1 g with g | g <;> omega
            rw [if_neg hne]
            simp only [Sem.run_bind, ok.run_zero hz w, Result.andThen_ok, Sem.run_pure, hze]
            simp [newRow]
        · cases hx
      · cases hx
    · cases hx
  · cases hx

theorem xMakeMap_fresh (t : TypeId) (r : Option Operand) (hx : xMakeMap A ρ r = some (nx, A')) :
    ∃ v o, nx = .val (v A.next) ∧ A' = { A with next := A.next + 1, h := A.h.set A.next (o A.next) } ∧
      Fresh P nm φ w (Instr.makeMap t (r.map ρ') >>= fun x => pure (Next.value x)) v o := by
  unfold xMakeMap at hx
  split at hx
  · cases hx
    refine ⟨fun b => .map (some b), fun _ => .map [] 0, rfl, rfl, ?_⟩
    refine ⟨.map #[] 0, .map (some w.heap.size), plNew w 0, by simp [Instr.makeMap, newObj, Sem.run], rfl, fun b hb => ⟨⟨#[], by simp [plNew], rfl, fun i e c h => by simp at h⟩, rfl, ?_⟩⟩
    exact .map b (plNew w 0) (Emb.upd_same _ _ _)
  · cases hx
end
end Go.AM

namespace Go.AM
section
variable {E : Env} {P : Program} {nm : Nm} {K : Kp} {base : World} {φ : Emb} {A A' : St} {w : World} {ρ ρ' : Operand → Value} {nx : Nx}

theorem nilDeref_plain : plainV (nilDeref E) = true := rfl
theorem run_nilDeref {α : Type} (ok : EnvOk E P nm) : (runtimePanic (α := α) .nilDeref).run P w = .halt (.panic (nilDeref E)) w := by
  simp [runtimePanic, program, Sem.run, goPanic, nilDeref, ok.prog]

theorem xNilCheck_ok (ok : EnvOk E P nm) (h : WR nm K base φ A w) (x : Operand) (hv : VR nm φ (ρ x) (ρ' x)) (hx : xNilCheck E A ρ x = some (nx, A')) (o : Oper) (ho : o.op = .nilCheck x) :
    Goal P nm K base φ A w (execOp ρ' o) nx A' := by
  unfold xNilCheck at hx
  unfold execOp
  simp only [ho]
  revert hv hx
  generalize ρ' x = c
  generalize ρ x = v
  intro hv hx
  split at hx
  · cases hx; cases hv; exact goal_pan h (.of_plainV nilDeref_plain) (run_nilDeref ok)
  · cases hx; cases hv; exact goal_pan h (.of_plainV nilDeref_plain) (run_nilDeref ok)
  · cases hx; cases hv; exact goal_pan h (.of_plainV nilDeref_plain) (run_nilDeref ok)
  · rename_i f fi ca
    cases hx
    obtain ⟨f', a', b', rfl, h1, h2, h3⟩ := hv.func_inv
    cases h1
    exact goal_now h hv
  · rename_i f fi ca
    cases hx
    obtain ⟨f', a', b', rfl, h1, h2, h3⟩ := hv.func_inv
    cases h1 with
    | yield l l' p g1 g2 => exact goal_now h (.func' (.yield _ _ p g1 g2) h2 h3)
  · cases hx
  · rename_i n1 n2 n3 n4 n5 n6
    cases hx
    cases hv with
    | nilp => exact absurd rfl n1
    | nili => exact absurd rfl n2
    | nilf => exact absurd rfl n3
    | func f f' a a' c c' g1 g2 g3 g4 g5 => exact absurd rfl (n6 _ _ _)
    | bool b => exact goal_now h (.bool b)
    | int k n => exact goal_now h (.int k n)
    | str s => exact goal_now h (.str s)
    | sym => exact goal_now h .sym
    | ptr a p g1 g2 => exact goal_now h (.ptr a p g1 g2)
    | nils l c => exact goal_now h (.nils l c)
    | slc a a' l c c' p h1 h2 h3 h4 h5 h6 h7 h8 => exact goal_now h (.slc a a' l c c' p h1 h2 h3 h4 h5 h6 h7 h8)
    | nilm => exact goal_now h .nilm
    | map r p g1 => exact goal_now h (.map r p g1)
    | iface t v v' g => exact goal_now h (.iface t v v' g)
    | agg a a' g1 g2 => exact goal_now h (.agg a a' g1 g2)
    | tuple a a' g1 g2 => exact goal_now h (.tuple a a' g1 g2)

theorem wrapF_eq (k : IntKind) (n : Int) : wrapF k n = k.wrap n := by
  unfold wrapF
  split
  · rename_i h
    cases k <;> simp only [lo, hi] at h <;> unfold IntKind.wrap <;> simp [IntKind.bits, IntKind.signed] <;> omega
  · rfl

def quietV : Value → Bool
  | .agg _ | .nilIface => false
  | _ => true
theorem guard_left {op : BinOp} {t : TypeId} {x y : Operand} {a b : Value} (h : quietV a = true) : (eqGuard op t x y a b).run P w = .ok () w := by
  cases op <;> first | rfl | (cases a <;> first | rfl | (simp [quietV] at h))
theorem guard_right {op : BinOp} {t : TypeId} {x y : Operand} {a b : Value} (h : quietV b = true) : (eqGuard op t x y a b).run P w = .ok () w := by
  cases op <;> first | rfl | (cases b <;> first | (simp [quietV] at h; done) | (cases a <;> rfl))

theorem fast_ok (ok : EnvOk E P nm) (op : BinOp) (t : TypeId) {x y x' y' v : Value} (hx : VR nm φ x x') (hy : VR nm φ y y') (hf : fast E.sl op x y = some v) :
    (binOp op t x' y').run P w = .ok v w ∧ plainV v = true ∧ quietV x' = true := by
  unfold fast at hf
  split at hf
  · rename_i k a k' b
    rw [hx.int_inv, hy.int_inv]
    refine ⟨?_, ?_, rfl⟩
    · split at hf
      · rename_i e
        subst e
        split at hf <;> cases hf <;> simp [binOp, Op.intArith, Op.intCmp, wrapF_eq]
      · cases hf
    · split at hf
      · split at hf <;> cases hf <;> rfl
      · cases hf
  · rename_i a b
    rw [hx.str_inv, hy.str_inv]
    refine ⟨?_, ?_, rfl⟩
    · split at hf <;> cases hf <;> simp [binOp, Op.stringOp, ByteArray.toList_eq]
    · split at hf <;> cases hf <;> rfl
  · rename_i b
    have hy' := hy.str_inv
    cases hx
    rw [hy']
    refine ⟨?_, ?_, rfl⟩
    · split at hf
      · split at hf
        · rename_i hc
          cases hf
          have hne : nm.data ≠ b.data := fun e => ok.sl _ hc (by rw [e])
          simp [binOp, Op.stringOp, ByteArray.toList_eq, hne]
        · cases hf
      · split at hf
        · rename_i hc
          cases hf
          have hne : nm.data ≠ b.data := fun e => ok.sl _ hc (by rw [e])
          simp [binOp, Op.stringOp, ByteArray.toList_eq, hne]
        · cases hf
      · cases hf
    · split at hf
      · split at hf
        · cases hf; rfl
        · cases hf
      · split at hf
        · cases hf; rfl
        · cases hf
      · cases hf
  · rename_i b
    have hx' := hx.str_inv
    cases hy
    rw [hx']
    refine ⟨?_, ?_, rfl⟩
    · split at hf
      · split at hf
        · rename_i hc
          cases hf
          have hne : nm.data ≠ b.data := fun e => ok.sl _ hc (by rw [e])
          simp [binOp, Op.stringOp, ByteArray.toList_eq, Ne.symm hne]
        · cases hf
      · split at hf
        · rename_i hc
          cases hf
          have hne : nm.data ≠ b.data := fun e => ok.sl _ hc (by rw [e])
          simp [binOp, Op.stringOp, ByteArray.toList_eq, Ne.symm hne]
        · cases hf
      · cases hf
    · split at hf
      · split at hf
        · cases hf; rfl
        · cases hf
      · split at hf
        · cases hf; rfl
        · cases hf
      · cases hf
  · cases hf

theorem eqNil_in (ok : EnvOk E P nm) (n : Nat) (t : TypeId) (d : TypeDesc) {x y x' y' : Value} {b : Bool} (hd : E.und t = some d) (hx : VR nm φ x x') (hy : VR nm φ y y') (hf : eqNil E d x y = some b) :
    (Op.equalIn (n + 1) t x' y').run P w = .ok b w ∧ binOp .eql t x' y' = (Op.equal t x' y' >>= fun b => pure (.bool b)) ∧ binOp .neq t x' y' = (Op.equal t x' y' >>= fun b => pure (.bool !b)) ∧
      (quietV x' = true ∨ quietV y' = true) := by
  unfold eqNil at hf
  split at hf
  · cases hf
    obtain ⟨p, _, _, rfl⟩ := hx.ptr_inv; cases hy
    exact ⟨by simp [Op.equalIn, ok.run_und hd w], rfl, rfl, by simp [quietV]⟩
  · cases hf
    obtain ⟨p, _, _, rfl⟩ := hy.ptr_inv; cases hx
    exact ⟨by simp [Op.equalIn, ok.run_und hd w], rfl, rfl, by simp [quietV]⟩
  · cases hf
    obtain ⟨a', k', p, rfl, _⟩ := hx.slc_inv; cases hy
    exact ⟨by simp [Op.equalIn, ok.run_und hd w], rfl, rfl, by simp [quietV]⟩
  · cases hf
    obtain ⟨a', k', p, rfl, _⟩ := hy.slc_inv; cases hx
    exact ⟨by simp [Op.equalIn, ok.run_und hd w], rfl, rfl, by simp [quietV]⟩
  · cases hf
    obtain ⟨p, _, rfl⟩ := hx.map_inv; cases hy
    exact ⟨by simp [Op.equalIn, ok.run_und hd w], rfl, rfl, by simp [quietV]⟩
  · cases hf
    obtain ⟨p, _, rfl⟩ := hy.map_inv; cases hx
    exact ⟨by simp [Op.equalIn, ok.run_und hd w], rfl, rfl, by simp [quietV]⟩
  · cases hf
    obtain ⟨f', a', b', rfl, _⟩ := hx.func_inv; cases hy
    exact ⟨by simp [Op.equalIn, ok.run_und hd w], rfl, rfl, by simp [quietV]⟩
  · cases hf
    obtain ⟨f', a', b', rfl, _⟩ := hy.func_inv; cases hx
    exact ⟨by simp [Op.equalIn, ok.run_und hd w], rfl, rfl, by simp [quietV]⟩
  · cases hf
    obtain ⟨v', rfl, _⟩ := hx.iface_inv; cases hy
    exact ⟨by simp [Op.equalIn, ok.run_und hd w], rfl, rfl, by simp [quietV]⟩
  · cases hf
    obtain ⟨v', rfl, _⟩ := hy.iface_inv; cases hx
    exact ⟨by simp [Op.equalIn, ok.run_und hd w], rfl, rfl, by simp [quietV]⟩
  · rename_i e a c
    split at hf
    · rename_i hab
      cases hf
      obtain ⟨p, h1, h2, rfl⟩ := hx.ptr_inv
      obtain ⟨q, h3, h4, rfl⟩ := hy.ptr_inv
      rw [hab.1, h3] at h1; cases h1
      obtain ⟨m, hn⟩ := Option.isSome_iff_exists.1 hab.2.2
      rw [hab.2.1]
      exact ⟨by simp [Op.equalIn, ok.run_und hd w, ok.run_size hn w, sameAddr], rfl, rfl, by simp [quietV]⟩
    · cases hf
  · rename_i tx v ty u
    split at hf
    · cases hf
    · rename_i hne
      cases hf
      obtain ⟨v', rfl, _⟩ := hx.iface_inv
      obtain ⟨u', rfl, _⟩ := hy.iface_inv
      exact ⟨by simp [Op.equalIn, ok.run_und hd w, hne], rfl, rfl, by simp [quietV]⟩
  · cases hf

theorem eqNil_ok (ok : EnvOk E P nm) (t : TypeId) (d : TypeDesc) {x y x' y' : Value} {b : Bool} (hd : E.und t = some d) (hx : VR nm φ x x') (hy : VR nm φ y y') (hf : eqNil E d x y = some b) :
    (binOp .eql t x' y').run P w = .ok (.bool b) w ∧ (binOp .neq t x' y').run P w = .ok (.bool !b) w ∧ (quietV x' = true ∨ quietV y' = true) := by
  obtain ⟨h1, h2, h3, h4⟩ := eqNil_in (w := w) ok 9999 t d hd hx hy hf
  have h1' : (Op.equal t x' y').run P w = .ok b w := h1
  refine ⟨?_, ?_, h4⟩
  · rw [h2]; simp only [Sem.run_bind, h1', Result.andThen_ok, Sem.run_pure]
  · rw [h3]; simp only [Sem.run_bind, h1', Result.andThen_ok, Sem.run_pure]

theorem xBinOp_ok (ok : EnvOk E P nm) (h : WR nm K base φ A w) (o : Oper) (op : BinOp) (t : TypeId) (x y : Operand) (u : TypeId) (ho : o.op = .binOp op t x y u)
    (hρ : ∀ x, x ∈ o.op.operands.toList → VR nm φ (ρ x) (ρ' x)) (hx : xBinOp E A ρ o op t x y = some (nx, A')) : Goal P nm K base φ A w (execOp ρ' o) nx A' := by
  have h1 : VR nm φ (ρ x) (ρ' x) := hρ x (by rw [ho]; simp [Op.operands])
  have h2 : VR nm φ (ρ y) (ρ' y) := hρ y (by rw [ho]; simp [Op.operands])
  have he : execOp ρ' o = ((do eqGuard op t x y (ρ' x) (ρ' y); binOp op t (ρ' x) (ρ' y)) >>= fun v => pure (Next.value v)) := by unfold execOp; simp only [ho]
  unfold xBinOp at hx
  split at hx
  · rename_i v hf
    cases hx
    obtain ⟨g1, g2, g3⟩ := fast_ok (w := w) ok op t h1 h2 hf
    rw [he]
    exact goal_here h (.of_plainV g2) (by simp only [Sem.run_bind, guard_left g3, Result.andThen_ok]; exact g1)
  · split at hx
    · rename_i r hr
      cases hx
      exact viaPure_ok ok h o hρ hr
    · split at hx
      · split at hx
        · rename_i b hb
          cases hx
          obtain ⟨d, hd, hn⟩ := Option.bind_eq_some_iff.1 hb
          obtain ⟨g1, g2, g3⟩ := eqNil_ok (w := w) ok t d hd h1 h2 hn
          rw [he]
          refine goal_here h (.bool b) ?_
          simp only [Sem.run_bind]
          rcases g3 with g3 | g3
          · simp only [guard_left g3, Result.andThen_ok]; exact g1
          · simp only [guard_right g3, Result.andThen_ok]; exact g1
        · cases hx
      · split at hx
        · rename_i b hb
          cases hx
          obtain ⟨d, hd, hn⟩ := Option.bind_eq_some_iff.1 hb
          obtain ⟨g1, g2, g3⟩ := eqNil_ok (w := w) ok t d hd h1 h2 hn
          rw [he]
          refine goal_here h (.bool _) ?_
          simp only [Sem.run_bind]
          rcases g3 with g3 | g3
          · simp only [guard_left g3, Result.andThen_ok]; exact g2
          · simp only [guard_right g3, Result.andThen_ok]; exact g2
        · cases hx
      · cases hx

/-- Bounds. -/
theorem bound_ok {v v' : Value} {hi n m : Nat} {c : BoundsCode} (hv : VR nm φ v v') (hb : bound v hi = some n) (hm : hi ≤ m) : (Instr.sliceBound v' m c).run P w = .ok n w ∧ n ≤ hi := by
  unfold bound at hb
  split at hb
  · rename_i k i
    split at hb
    · rename_i hc
      cases hb
      rw [hv.int_inv]
      refine ⟨?_, by omega⟩
      simp only [Instr.sliceBound, asIntOf, Sem.run_bind, Sem.run_pure, Result.andThen_ok]
      rw [if_pos (by omega)]
      rfl
    · cases hb
  · cases hb
/-- Optional operands. -/
def OVR (nm : Nm) (φ : Emb) : Option Value → Option Value → Prop
  | none, none => True
  | some v, some v' => VR nm φ v v'
  | _, _ => False
theorem OVR.map (x : Option Operand) (h : ∀ y, x = some y → VR nm φ (ρ y) (ρ' y)) : OVR nm φ (x.map ρ) (x.map ρ') := by
  cases x with
  | none => trivial
  | some y => exact h y rfl

/-- The three bounds of a slice: cap' is what the model has, cap what is known of it. -/
theorem bounds_ok {lo hi mx lo' hi' mx' : Option Value} {len cap cap' m h l : Nat} {b : Bool} (h1 : OVR nm φ lo lo') (h2 : OVR nm φ hi hi') (h3 : OVR nm φ mx mx')
    (hcap : cap ≤ cap') (hlen : len ≤ cap) (hmx : mx.isSome = true → hi.isSome = true) (bm : optBound mx cap cap = some m) (bh : optBound hi m len = some h) (bl : optBound lo h 0 = some l) :
    ∃ m', (Instr.sliceBounds b len cap' lo' hi' mx').run P w = .ok (l, h, m') w ∧ (mx = none → m' = cap' ∧ m = cap) ∧ (mx ≠ none → m' = m) ∧ l ≤ h ∧ h ≤ m := by
  cases mx with
  | some vm =>
    cases mx' with
    | none => exact h3.elim
    | some vm' =>
      have e1 := hmx rfl
      simp only [optBound] at bm
      have gm := bound_ok (P := P) (w := w) (c := if b then .slice3Acap else .slice3Alen) (show VR nm φ vm vm' from h3) bm hcap
      cases hi with
      | none => cases e1
      | some vh =>
        cases hi' with
        | none => exact h2.elim
        | some vh' =>
          simp only [optBound] at bh
          have gh := bound_ok (P := P) (w := w) (c := .slice3B) (show VR nm φ vh vh' from h2) bh (Nat.le_refl _)
          refine ⟨m, ?_, (fun e => by cases e), fun _ => rfl, ?_, gh.2⟩
          · simp only [Instr.sliceBounds, Sem.run_bind, gm.1, gh.1, Result.andThen_ok]
            cases lo with
            | none =>
              cases lo' with
              | some _ => exact h1.elim
              | none => simp only [optBound, Option.some.injEq] at bl; subst bl; rfl
            | some vl =>
              cases lo' with
              | none => exact h1.elim
              | some vl' =>
                simp only [optBound] at bl
                have gl := bound_ok (P := P) (w := w) (c := if (some vm').isSome then .slice3C else .sliceB) (show VR nm φ vl vl' from h1) bl (Nat.le_refl _)
                simp only [gl.1, Sem.run_bind, Result.andThen_ok]; rfl
          · cases lo with
            | none => simp only [optBound, Option.some.injEq] at bl; omega
            | some vl =>
              cases lo' with
              | none => exact h1.elim
              | some vl' => simp only [optBound] at bl; exact (bound_ok (P := P) (w := w) (c := .sliceB) (show VR nm φ vl vl' from h1) bl (Nat.le_refl _)).2
  | none =>
    cases mx' with
    | some _ => exact h3.elim
    | none =>
      simp only [optBound, Option.some.injEq] at bm
      subst bm
      have low : ∀ h, optBound lo h 0 = some l → (match lo' with
            | some v => Instr.sliceBound v h (if (none : Option Value).isSome = true then .slice3C else .sliceB)
            | none => pure 0).run P w = .ok l w ∧ l ≤ h := by
        intro h bl
        cases lo with
        | none =>
          cases lo' with
          | some _ => exact h1.elim
          | none => simp only [optBound, Option.some.injEq] at bl; subst bl; exact ⟨rfl, Nat.zero_le _⟩
        | some vl =>
          cases lo' with
          | none => exact h1.elim
          | some vl' =>
            simp only [optBound] at bl
            exact bound_ok (P := P) (w := w) (c := if (none : Option Value).isSome then .slice3C else .sliceB) (show VR nm φ vl vl' from h1) bl (Nat.le_refl _)
      have gl := low h bl
      cases hi with
      | none =>
        cases hi' with
        | some _ => exact h2.elim
        | none =>
          simp only [optBound, Option.some.injEq] at bh
          subst bh
          refine ⟨cap', ?_, fun _ => ⟨rfl, rfl⟩, fun e => absurd rfl e, gl.2, hlen⟩
          cases lo' with
          | none => have := gl.1; simp only [Sem.run_pure, Result.ok.injEq, and_true] at this; subst this; rfl
          | some v => simp only [Instr.sliceBounds, Sem.run_bind, Sem.run_pure, Result.andThen_ok]; simp only [] at gl; rw [gl.1]; rfl
      | some vh =>
        cases hi' with
        | none => exact h2.elim
        | some vh' =>
          simp only [optBound] at bh
          have gh := bound_ok (P := P) (w := w) (c := if b then .sliceAcap else .sliceAlen) (show VR nm φ vh vh' from h2) bh hcap
          refine ⟨cap', ?_, fun _ => ⟨rfl, rfl⟩, fun e => absurd rfl e, gl.2, gh.2⟩
          cases lo' with
          | none =>
            have := gl.1; simp only [Sem.run_pure, Result.ok.injEq, and_true] at this; subst this
            simp only [Instr.sliceBounds, Sem.run_bind, Sem.run_pure, Result.andThen_ok, gh.1]
          | some v => simp only [Instr.sliceBounds, Sem.run_bind, Sem.run_pure, Result.andThen_ok, gh.1]; simp only [] at gl; rw [gl.1]; rfl
end
end Go.AM
