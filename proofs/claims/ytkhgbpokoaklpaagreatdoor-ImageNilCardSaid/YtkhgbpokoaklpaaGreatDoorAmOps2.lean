/- The operations, second part: what looks at no memory; loads, stores, what is made new. -/
import Derived.Test.YtkhgbpokoaklpaaGreatDoorAmOps1
namespace Go.AM
section
variable {E : Env} {P : Program} {nm : Nm} {K : Kp} {base : World} {φ : Emb} {A A' : St} {w : World} {ρ ρ' : Operand → Value} {nx : Nx}

theorem pureRun_ok {α : Type} : ∀ (s : Sem α) (a : α), pureRun P s = some (.ok a) → ∀ w, s.run P w = .ok a w := by
  intro s
  induction s with
  | pure b => intro a h w; simp only [pureRun, Option.some.injEq, Except.ok.injEq] at h; subst h; rfl
  | program k ih => intro a h w; simp only [pureRun] at h; simp only [Sem.run]; exact ih P a h w
  | halt x => intro a h w; cases x <;> simp [pureRun] at h
  | _ => intro a h w; simp [pureRun] at h
theorem pureRun_pan {α : Type} : ∀ (s : Sem α) (v : Value), pureRun P s = some (.error v) → ∀ w, s.run P w = .halt (.panic v) w := by
  intro s
  induction s with
  | pure b => intro a h w; simp [pureRun] at h
  | program k ih => intro a h w; simp only [pureRun] at h; simp only [Sem.run]; exact ih P a h w
  | halt x => intro a h w; cases x <;> simp [pureRun] at h; subst h; rfl
  | _ => intro a h w; simp [pureRun] at h

theorem map_congr_opt {f g : Operand → Value} (x : Option Operand) (h : ∀ y, x = some y → f y = g y) : x.map f = x.map g := by
  cases x with
  | none => rfl
  | some y => simp [h y rfl]

theorem execOp_congr (o : Oper) (hp : pureOp o = true) (h : ∀ x, x ∈ o.op.operands.toList → ρ' x = ρ x) : execOp ρ' o = execOp ρ o := by
  unfold pureOp at hp
  unfold execOp
  cases hop : o.op <;> simp only [hop] at hp h ⊢ <;> first
    | (cases hp; done)
    | skip
  case binOp op t x y u => rw [h x (by simp [Op.operands]), h y (by simp [Op.operands])]
  case unOp op t x => rw [h x (by simp [Op.operands])]
  case convert a b x => rw [h x (by simp [Op.operands])]
  case makeInterface t x => rw [h x (by simp [Op.operands])]
  case field t x f => rw [h x (by simp [Op.operands])]
  case index t x i => rw [h x (by simp [Op.operands]), h i (by simp [Op.operands])]
  case typeAssert x a b c => rw [h x (by simp [Op.operands])]
  case extract x i => rw [h x (by simp [Op.operands])]
  case slice t x lo hi mx =>
    rw [h x (by simp [Op.operands]), map_congr_opt lo (fun y e => h y (by simp [Op.operands, e])), map_congr_opt hi (fun y e => h y (by simp [Op.operands, e])), map_congr_opt mx (fun y e => h y (by simp [Op.operands, e]))]
  case build t parts =>
    have : (parts.map fun (x : Nat × Operand) => (x.1, ρ' x.2)) = (parts.map fun (x : Nat × Operand) => (x.1, ρ x.2)) := by
      apply Array.map_congr_left
      intro p hpm
      rw [h p.2 (by simp only [Op.operands, List.mem_map]; exact ⟨p, by simpa using hpm, rfl⟩)]
    rw [this]

theorem viaPure_ok (ok : EnvOk E P nm) (h : WR nm K base φ A w) (o : Oper) (hρ : ∀ x, x ∈ o.op.operands.toList → VR nm φ (ρ x) (ρ' x)) (hx : viaPure E A ρ o = some (nx, A')) :
    Goal P nm K base φ A w (execOp ρ' o) nx A' := by
  unfold viaPure at hx
  split at hx
  · rename_i hc
    rw [Bool.and_eq_true, List.all_eq_true] at hc
    have hcong : execOp ρ' o = execOp ρ o := execOp_congr o hc.1 fun x hm => (hρ x hm).plainV_eq (hc.2 _ (List.mem_map_of_mem hm))
    rw [hcong]
    rw [ok.prog] at hx
    split at hx
    · rename_i v hr
      split at hx
      · rename_i hpv
        cases hx
        exact ⟨φ, w, Emb.ext_refl _ _, Nat.le_refl _, h, v, .of_plainV hpv, pureRun_ok _ _ hr w⟩
      · cases hx
    · rename_i v hr
      split at hx
      · rename_i hpv
        cases hx
        exact goal_pan h (.of_plainV hpv) (pureRun_pan _ _ hr w)
      · cases hx
    · cases hx
  · cases hx

theorem VR.bool_inv {b : Bool} {c : Value} (h : VR nm φ (.bool b) c) : c = .bool b := by cases h; rfl
theorem VR.int_inv {k : IntKind} {n : Int} {c : Value} (h : VR nm φ (.int k n) c) : c = .int k n := by cases h; rfl
theorem VR.str_inv {s : ByteArray} {c : Value} (h : VR nm φ (.string s) c) : c = .string s := by cases h; rfl
theorem VR.ptr_inv {a : Addr} {c : Value} (h : VR nm φ (.pointer (some a)) c) : ∃ p, φ a.block = some p ∧ a.spot = none ∧ c = .pointer (some ⟨p.blk, p.off + a.off, none⟩) := by
  cases h with
  | ptr a p h1 h2 => exact ⟨p, h1, h2, rfl⟩
theorem VR.map_inv {r : Nat} {c : Value} (h : VR nm φ (.map (some r)) c) : ∃ p, φ r = some p ∧ c = .map (some p.blk) := by
  cases h with
  | map r p h1 => exact ⟨p, h1, rfl⟩
theorem VR.iface_inv {t : TypeId} {v c : Value} (h : VR nm φ (.iface t v) c) : ∃ v', c = .iface t v' ∧ VR nm φ v v' := by
  cases h with
  | iface t v v' h1 => exact ⟨v', rfl, h1⟩
theorem VR.nils_inv {l k : Nat} {c : Value} (h : VR nm φ (.slice none l k) c) : c = .slice none l k := by cases h; rfl
theorem VR.slc_inv {a : Addr} {l k : Nat} {c : Value} (h : VR nm φ (.slice (some a) l k) c) : ∃ a' k' p, c = .slice (some a') l k' ∧ φ a.block = some p ∧ a.spot = none ∧ a'.block = p.blk ∧ a'.spot = none ∧
    (k' = 0 ∨ a'.off = p.off + a.off) ∧ (p.opn = false → k' = k) ∧ (p.opn = true → k ≤ k' ∧ a'.off + k' * p.esz ≤ p.csz) ∧ l ≤ k := by
  cases h with
  | slc a a' l c c' p h1 h2 h3 h4 h5 h6 h7 h8 => exact ⟨a', c', p, rfl, h1, h2, h3, h4, h5, h6, h7, h8⟩

theorem xPick_ok (h : WR nm K base φ A w) (c a b : Operand) (hc : VR nm φ (ρ c) (ρ' c)) (ha : VR nm φ (ρ a) (ρ' a)) (hb : VR nm φ (ρ b) (ρ' b))
    (hx : xPick A ρ c a b = some (nx, A')) : Goal P nm K base φ A w (asBool (ρ' c) >>= fun t => pure (Next.value (if t then ρ' a else ρ' b))) nx A' := by
  unfold xPick at hx
  split at hx
  · rename_i t ht
    cases hx
    rw [ht] at hc
    rw [hc.bool_inv]
    refine ⟨φ, w, Emb.ext_refl _ _, Nat.le_refl _, h, (if t then ρ' a else ρ' b), ?_, by simp [asBool]⟩
    cases t
    · exact hb
    · exact ha
  · cases hx

theorem xLoad_ok (ok : EnvOk E P nm) (h : WR nm K base φ A w) (t : TypeId) (a : Operand) (ha : VR nm φ (ρ a) (ρ' a)) (hx : xLoad E A ρ t a = some (nx, A')) :
    Goal P nm K base φ A w (Instr.loadAt t (ρ' a) >>= fun x => pure (Next.value x)) nx A' := by
  unfold xLoad at hx
  split at hx
  · rename_i ad hd
    split at hx
    · rename_i v hv
      cases hx
      rw [hd] at ha
      obtain ⟨p, h1, h2, h3⟩ := ha.ptr_inv
      obtain ⟨v', g1, g2⟩ := loadV_ok ok h hv h1
      refine goal_here h g1 ?_
      rw [h3]
      simp only [Instr.loadAt, Instr.sureAddr, Sem.run_bind, Sem.run_pure, Result.andThen_ok]
      exact g2
    · cases hx
  · cases hx

theorem xStore_ok (ok : EnvOk E P nm) (h : WR nm K base φ A w) (t : TypeId) (a x : Operand) (ha : VR nm φ (ρ a) (ρ' a)) (hv : VR nm φ (ρ x) (ρ' x)) (hx : xStore E A ρ t a x = some (nx, A')) :
    Goal P nm K base φ A w (Instr.storeAt t (ρ' a) (ρ' x) >>= fun _ => pure Next.skip) nx A' := by
  unfold xStore at hx
  split at hx
  · rename_i ad hd
    split at hx
    · rename_i A1 hs
      cases hx
      rw [hd] at ha
      obtain ⟨p, h1, h2, h3⟩ := ha.ptr_inv
      obtain ⟨w', g1, g2, g3⟩ := storeV_ok (P := P) ok h hs hv h1
      refine goal_skip g3 g2 ?_
      rw [h3]
      simp only [Instr.storeAt, Instr.sureAddr, Sem.run_bind, Sem.run_pure, Result.andThen_ok]
      exact g1
    · cases hx
  · cases hx

/-- What a new block comes to: at whatever place of the abstract machine. -/
def Fresh (P : Program) (nm : Nm) (φ : Emb) (w : World) (s : Sem Next) (v : Nat → Value) (o : Nat → AObj) : Prop :=
  ∃ (c : Obj) (v' : Value) (p : Pl), s.run P w = .ok (.value v') (w.alloc c) ∧ p.blk = w.heap.size ∧
    ∀ b, φ b = none → OR nm (φ.upd b p) (w.heap.push c) p (o b) ∧ (o b).own = true ∧ VR nm (φ.upd b p) (v b) v'

theorem Fresh.goal {s : Sem Next} {v : Nat → Value} {o : Nat → AObj} (h : WR nm K base φ A w) (f : Fresh P nm φ w s v o) :
    Goal P nm K base φ A w s (.val (v A.next)) { A with next := A.next + 1, h := A.h.set A.next (o A.next) } := by
  obtain ⟨c, v', p, h1, h2, h3⟩ := f
  have hn := h.dom A.next (Nat.le_refl _)
  obtain ⟨g1, g2, g3⟩ := h3 A.next hn
  exact ⟨φ.upd A.next p, w.alloc c, Emb.upd_ext _ _ _, Nat.le_succ _, h.new A.next p _ c (A.next + 1) hn (Nat.le_succ _) (Nat.lt_succ_self _) h2 g1 g2, v', g3, h1⟩

theorem fresh_row {e : TypeId} {cells cvs : List Value} {s : Sem Next} {v : Nat → Value} {v' : Value} (hc : LR nm φ cells cvs)
    (hs : s.run P w = .ok (.value v') (w.alloc (.cells cvs.toArray e)))
    (hv : ∀ b, VR nm (φ.upd b (plNew w cvs.length)) (v b) v') : Fresh P nm φ w s v (rowObj e cells) :=
  ⟨_, v', plNew w cvs.length, hs, rfl, fun b hb => ⟨rowObj_or b (hc.mono (Emb.upd_le _ hb)), rfl, hv b⟩⟩

theorem newRow_eq (e : TypeId) (cells : List Value) : A.newRow e cells = (⟨A.next, 0, none⟩, { A with next := A.next + 1, h := A.h.set A.next (rowObj e cells A.next) }) := rfl

theorem ptr_new (b n : Nat) : VR nm (φ.upd b (plNew w n)) (.pointer (some ⟨b, 0, none⟩)) (.pointer (some ⟨w.heap.size, 0, none⟩)) :=
  .ptr ⟨b, 0, none⟩ (plNew w n) (Emb.upd_same _ _ _) rfl
theorem slc_new (b n l c : Nat) (hl : l ≤ c) : VR nm (φ.upd b (plNew w n)) (.slice (some ⟨b, 0, none⟩) l c) (.slice (some ⟨w.heap.size, 0, none⟩) l c) :=
  .slc ⟨b, 0, none⟩ ⟨w.heap.size, 0, none⟩ l c c (plNew w n) (Emb.upd_same _ _ _) rfl rfl rfl (.inr rfl) (fun _ => rfl) (fun h => by simp [plNew] at h) hl

theorem xAlloc_fresh (ok : EnvOk E P nm) (t : TypeId) (hx : xAlloc E A ρ t = some (nx, A')) :
    ∃ v o, nx = .val (v A.next) ∧ A' = { A with next := A.next + 1, h := A.h.set A.next (o A.next) } ∧ Fresh P nm φ w (Instr.alloc t true (.tuple #[]) >>= fun x => pure (Next.value x)) v o := by
  unfold xAlloc at hx
  split at hx
  · rename_i z hzz
    rw [newRow_eq] at hx
    cases hx
    refine ⟨fun b => .pointer (some ⟨b, 0, none⟩), rowObj t z.cells.toList, rfl, rfl, ?_⟩
    refine fresh_row (zero_cells hzz φ) (v' := .pointer (some ⟨w.heap.size, 0, none⟩)) ?_ (fun b => ptr_new b _)
    simp [Instr.alloc, ok.run_zero hzz w, newVar, newRow]
  · cases hx

theorem xBox_fresh (t : TypeId) (x : Operand) (hr : VR nm φ (ρ x) (ρ' x)) (hx : xBox A ρ t x = some (nx, A')) :
    ∃ v o, nx = .val (v A.next) ∧ A' = { A with next := A.next + 1, h := A.h.set A.next (o A.next) } ∧ Fresh P nm φ w (Instr.box t (ρ' x) >>= fun x => pure (Next.value x)) v o := by
  unfold xBox at hx
  rw [newRow_eq] at hx
  cases hx
  refine ⟨fun b => .pointer (some ⟨b, 0, none⟩), rowObj t (ρ x).cells.toList, rfl, rfl, ?_⟩
  refine fresh_row hr.cells (v' := .pointer (some ⟨w.heap.size, 0, none⟩)) ?_ (fun b => ptr_new b _)
  simp [Instr.box, newVar, newRow]
end
end Go.AM
