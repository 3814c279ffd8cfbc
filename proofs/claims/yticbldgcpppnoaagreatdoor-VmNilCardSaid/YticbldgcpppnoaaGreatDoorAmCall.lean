/- Calls: what is called, and with what. -/
import Derived.Test.YticbldgcpppnoaaGreatDoorAmBuilt
namespace Go.AM
section
variable {E : Env} {P : Program} {nm : Nm} {K : Kp} {base : World} {φ : Emb} {A A' : St} {w : World} {ρ ρ' : Operand → Value} {nx : Nx}

theorem builtin_ok (ok : EnvOk E P nm) (h : WR nm K base φ A w) {b : Builtin} {ts : List TypeId} {args : List Value} {args' : Array Value} {ty : TypeId} {cs : Array Bool} (ha : LR nm φ args args'.toList)
    (hf : builtinOp E A b ts ty args = some (nx, A')) : Goal P nm K base φ A w (builtin b ts.toArray ty cs args') nx A' := by
  unfold builtinOp at hf
  split at hf
  · exact bLen_ok ok h ha hf
  · exact bCap_ok ok h ha hf
  · exact bAppend_ok ok h ha hf
  · exact bCopy_ok ok h ha hf
  · exact bDelete_ok ok h ha hf
  · exact bClear_ok ok h ha hf
  · exact bMin_ok ok h ha (.inl rfl) hf
  · exact bMin_ok ok h ha (.inr rfl) hf
  · cases hf
    exact ⟨φ, w, Emb.ext_refl _ _, Nat.le_refl _, h, rfl⟩
  · exact bPanic_ok h ha hf
  · exact bUnsafeSliceData_ok h ha hf
  · split at hf
    · cases hf
    · exact bUnsafeString_ok ok h ha (by simp) hf
  · cases hf

theorem callF_ok (ok : EnvOk E P nm) (h : WR nm K base φ A w) {f : FuncId} {args : List Value} {args' : Array Value} (ha : LR nm φ args args'.toList)
    (hf : callF E A f args = some (nx, A')) : Goal P nm K base φ A w (callFunc f args') nx A' := by
  unfold callF at hf
  split at hf
  · rename_i fn hfn
    have hfn' := ok.fn _ _ hfn
    have hname := ok.names _ _ hfn'
    split at hf
    · rename_i c hb
      cases hf
      have h1 : fn.name ≠ "runtime.NumGoroutine" := by simpa using hname
      refine ⟨φ, w, Emb.ext_refl _ _, Nat.le_refl _, h, args', ha, ?_, fn, hfn', by simp [hb]⟩
      simp [callFunc, hfn', h1, hb]
    · rename_i hb
      split at hf
      · rename_i v A1 hv
        cases hf
        obtain ⟨g1, rfl, v', g2, g3⟩ := extern_ok (P := P) h ha hv
        obtain ⟨e1, e2⟩ := ok.ext f fn hfn' hb g1
        refine ⟨φ, w, Emb.ext_refl _ _, Nat.le_refl _, h, v', g2, ?_⟩
        rw [run_callFunc_extern hfn' hname (by simp [hb]) e1 e2, g3]
        rfl
      · cases hf
  · cases hf

theorem run_method_own (ok : EnvOk E P nm) {t : TypeId} {i : TypeInfo} {m : Method} {f : FuncId} {ptr : Bool} {d : TypeDesc} {name : String} {v : Value} (hi : E.inf t = some i) (hm : i.methods.find? (·.name == name) = some m)
    (hp : m.path.isEmpty = true) (hf : m.func = some (f, ptr)) (hu : E.und t = some d) (hd : (∃ e, d = .pointer e) ∧ ptr = true ∨ (∀ e, d ≠ .pointer e) ∧ ptr = false) (n : Nat) :
    (Go.method (n + 1) t v name).run P w = .ok (f, v) w := by
  have hpath : m.path.toList = [] := by simpa using hp
  rcases hd with ⟨⟨e, rfl⟩, rfl⟩ | ⟨hne, rfl⟩
  · simp only [Go.method, Sem.run_bind, ok.run_inf hi w, Result.andThen_ok, hm, hpath, follow, Sem.run_pure, hf, receiverAt, ok.run_und hu w, Place.get]
  · cases d <;> first | exact absurd rfl (hne _) | simp only [Go.method, Sem.run_bind, ok.run_inf hi w, Result.andThen_ok, hm, hpath, follow, Sem.run_pure, hf, receiverAt, ok.run_und hu w, Place.get]

theorem callM_ok (ok : EnvOk E P nm) (h : WR nm K base φ A w) {recv recv' : Value} {name : String} {args : List Value} {args' : Array Value} (hr : VR nm φ recv recv') (ha : LR nm φ args args'.toList)
    (hf : callM E A recv name args = some (nx, A')) : Goal P nm K base φ A w (callMethod recv' name args') nx A' := by
  unfold callM at hf
  split at hf
  · rename_i t v
    cases hr with
    | iface t v v' hv =>
      split at hf
      · rename_i i hi
        split at hf
        · rename_i m hm
          split at hf
          · rename_i hp
            have go : ∀ (f : FuncId) (ptr : Bool) (d : TypeDesc), m.func = some (f, ptr) → E.und t = some d → ((∃ e, d = .pointer e) ∧ ptr = true ∨ (∀ e, d ≠ .pointer e) ∧ ptr = false) →
                callF E A f (v :: args) = some (nx, A') → Goal P nm K base φ A w (callMethod (.iface t v') name args') nx A' := by
              intro f ptr d hmf hu hd hc
              obtain ⟨φ', w', g1, g2, g3, g4⟩ := callF_ok (args' := #[v'] ++ args') ok h (by simpa using LR.cons hv ha) hc
              refine ⟨φ', w', g1, g2, g3, ?_⟩
              have hrun : ∀ w2 : World, (Go.method (P.types.size + Made.depth) t v' name).run P w2 = .ok (f, v') w2 := fun w2 => by
                have hdep : P.types.size + Made.depth = (P.types.size + (Made.depth - 1)) + 1 := rfl
                rw [hdep]
                exact run_method_own ok hi hm hp hmf hu hd _
              have e : (callMethod (.iface t v') name args').run P w = (callFunc f (#[v'] ++ args')).run P w := by
                simp only [callMethod, Sem.run_bind, run_program, Result.andThen_ok, hrun]
              cases nx <;> simp only [NxR] at g4 ⊢ <;> simpa [e] using g4
            split at hf
            · rename_i f ptr hmf
              split at hf
              · rename_i hu; exact go f _ _ hmf hu (.inl ⟨⟨_, rfl⟩, rfl⟩) hf
              · cases hf
              · rename_i d hd hu; exact go f _ _ hmf hu (.inr ⟨fun e he => hd e he, rfl⟩) hf
              · cases hf
            · cases hf
          · cases hf
        · cases hf
      · cases hf
  · cases hr
    cases hf
    exact goal_pan h (.of_plainV nilDeref_plain) (run_nilDeref ok)
  · cases hf

theorem invokeT_ok (ok : EnvOk E P nm) (h : WR nm K base φ A w) {t t' : Target} {args : List Value} {args' : Array Value} (ht : TR nm φ t t') (ha : LR nm φ args args'.toList)
    (hf : invokeT E A t args = some (nx, A')) : Goal P nm K base φ A w (invoke t' args') nx A' := by
  unfold invokeT at hf
  split at hf
  · cases ht
    cases hf
    exact goal_pan h (.of_plainV nilDeref_plain) (run_nilDeref ok)
  · cases ht with
    | fn f f' c c' h1 h2 =>
      cases h1
      exact callF_ok ok h (by simpa using LR.append ha h2) hf
  · cases ht with
    | fn f f' c c' h1 h2 =>
      cases h1
      split at hf
      · rename_i recv rest
        obtain ⟨r', l, e, g1, g2⟩ := ha.cons_inv
        have hargs : args' = #[r'] ++ l.toArray := by
          apply Array.ext'
          simp [e]
        subst hargs
        have h0 : (#[r'] ++ l.toArray)[0]? = some r' := by simp
        have hx : (#[r'] ++ l.toArray).extract 1 (#[r'] ++ l.toArray).size = l.toArray := by
          apply Array.ext'
          simp
        unfold invoke
        simp only [h0, hx]
        exact callM_ok (args' := l.toArray) ok h g1 (by simpa using g2) hf
      · cases hf
  · cases ht with
    | fn f f' c c' h1 h2 =>
      cases hf
      cases h1 with
      | yield l l' p g1 g2 =>
        subst g2
        exact ⟨φ, w, Emb.ext_refl _ _, Nat.le_refl _, h, args', p, g1, ha, rfl⟩
  · rename_i b ts ty cs
    cases ht
    have := builtin_ok (ts := ts.toList) (cs := cs) (ty := ty) ok h ha hf
    simpa [invoke] using this
  · cases hf

theorem VR.nilf_inv {c : Value} (h : VR nm φ .nilFunc c) : c = .nilFunc := by cases h; rfl

theorem map_rel {α : Type} (xs : Array α) (f g : α → Value) (h : ∀ x, x ∈ xs → VR nm φ (f x) (g x)) : AR nm φ (xs.map f) (xs.map g) := by
  have := LR.map (nm := nm) (φ := φ) (f := f) (g := g) xs.toList (fun x hx => h x (by simpa using hx))
  simpa [AR] using this

theorem resolveT_ok {c : Call} {ty : TypeId} {d : Deferred} (hρ : ∀ x, x ∈ (Op.call c).operands.toList → VR nm φ (ρ x) (ρ' x)) (hf : resolveT ρ c ty = some d) :
    ∃ d', DR nm φ d d' ∧ ∀ w : World, (resolve ρ' c ty).run P w = .ok d' w := by
  have hargs : AR nm φ (c.args.map ρ) (c.args.map ρ') := map_rel _ _ _ fun x hx => hρ x (by simp [Op.operands, Call.operands, hx])
  unfold resolveT at hf
  split at hf
  · rename_i b hc
    cases hf
    exact ⟨_, ⟨.builtin _ _ _ _, hargs⟩, fun w => by simp only [resolve, hc]; rfl⟩
  · rename_i recv name hc
    cases hf
    have hr := hρ recv (by simp [Op.operands, Call.operands, hc])
    refine ⟨_, ⟨.fn _ _ _ _ (.method name) .nil, ?_⟩, fun w => by simp only [resolve, hc]; rfl⟩
    simpa [AR] using LR.cons hr hargs
  · rename_i f hc
    have hr := hρ f (by simp [Op.operands, Call.operands, hc])
    split at hf
    · rename_i fn first cap hv
      cases hf
      rw [hv] at hr
      obtain ⟨f', a', b', e, h1, h2, h3⟩ := hr.func_inv
      refine ⟨_, ⟨.fn _ _ _ _ h1 h3, ?_⟩, fun w => by simp only [resolve, hc, e]; rfl⟩
      simpa [AR] using LR.append h2 hargs
    · rename_i hv
      cases hf
      rw [hv] at hr
      have e : ρ' f = .nilFunc := hr.nilf_inv
      exact ⟨_, ⟨.nil, hargs⟩, fun w => by simp only [resolve, hc, e]; rfl⟩
    · cases hf

theorem xCall_ok (ok : EnvOk E P nm) (h : WR nm K base φ A w) {o : Oper} {c : Call} (ho : o.op = .call c) (hρ : ∀ x, x ∈ (Op.call c).operands.toList → VR nm φ (ρ x) (ρ' x))
    (hf : xCall E A ρ o c = some (nx, A')) : Goal P nm K base φ A w (execOp ρ' o) nx A' := by
  unfold xCall at hf
  split at hf
  · rename_i d hd
    obtain ⟨d', h1, h2⟩ := resolveT_ok (P := P) hρ hd
    obtain ⟨φ', w', g1, g2, g3, g4⟩ := invokeT_ok ok h h1.target h1.args hf
    refine ⟨φ', w', g1, g2, g3, ?_⟩
    have e : (execOp ρ' o).run P w = (invoke d'.target d'.args).run P w := by
      unfold execOp
      simp only [ho, Sem.run_bind, h2, Result.andThen_ok]
    cases nx <;> simp only [NxR] at g4 ⊢ <;> simpa [e] using g4
  · cases hf

theorem xDefer_ok (h : WR nm K base φ A w) {o : Oper} {c : Call} (ho : o.op = .defer c) (hρ : ∀ x, x ∈ (Op.call c).operands.toList → VR nm φ (ρ x) (ρ' x))
    (hf : xDefer A ρ o c = some (nx, A')) : Goal P nm K base φ A w (execOp ρ' o) nx A' := by
  unfold xDefer at hf
  split at hf
  · rename_i d hd
    cases hf
    obtain ⟨d', h1, h2⟩ := resolveT_ok (P := P) hρ hd
    refine ⟨φ, w, Emb.ext_refl _ _, Nat.le_refl _, h, d', h1, ?_⟩
    unfold execOp
    simp only [ho, Sem.run_bind, h2, Result.andThen_ok, Sem.run_pure]
  · cases hf

theorem xPanic_ok (h : WR nm K base φ A w) {x : Operand} (hv : VR nm φ (ρ x) (ρ' x)) (hf : xPanic A ρ x = some (nx, A')) : Goal P nm K base φ A w (Instr.panic (ρ' x) >>= fun y => pure (Next.value y)) nx A' := by
  unfold xPanic at hf
  split at hf
  · rename_i t v e
    cases hf
    rw [e] at hv
    generalize ρ' x = c at hv
    cases hv with
    | iface t v v' hv => exact goal_pan h (.iface t v v' hv) rfl
  · cases hf
end
end Go.AM

namespace Go.AM
section
variable {E : Env} {P : Program} {nm : Nm} {K : Kp} {base : World} {φ : Emb} {A A' : St} {w : World} {ρ ρ' : Operand → Value} {nx : Nx}

theorem VR.nili_inv {c : Value} (h : VR nm φ .nilIface c) : c = .nilIface := by cases h; rfl
theorem VR.nilp_inv {c : Value} (h : VR nm φ (.pointer none) c) : c = .pointer none := by cases h; rfl

theorem tup2 {a a' : Value} (h : VR nm φ a a') (b : Bool) : VR nm φ (.tuple #[a, .bool b]) (.tuple #[a', .bool b]) := .tuple' (.cons h (.cons (.bool b) .nil))

theorem xTypeAssert_ok (ok : EnvOk E P nm) (h : WR nm K base φ A w) (x : Operand) (xt t : TypeId) (cok : Bool) (hv : VR nm φ (ρ x) (ρ' x)) (hf : xTypeAssert E A ρ x t cok = some (nx, A')) :
    Goal P nm K base φ A w (Instr.typeAssert (ρ' x) xt t cok >>= fun y => pure (Next.value y)) nx A' := by
  unfold xTypeAssert at hf
  revert hv hf
  generalize ρ' x = c
  generalize ρ x = v
  intro hv hf
  split at hf
  · rename_i z hu hz
    split at hf
    · cases hf
      rw [hv.nili_inv]
      refine goal_here h (tup2 (.of_plainV (zero_plain hz)) false) ?_
      simp_all [Instr.typeAssert, ok.run_und hu w, ok.run_zero hz w]
    · cases hf
  · rename_i want ty v z hu hz
    obtain ⟨v', rfl, hv'⟩ := hv.iface_inv
    split at hf
    · rename_i i hi
      split at hf
      · rename_i hm
        cases hf
        cases cok with
        | true => exact goal_here h (tup2 (.iface _ _ _ hv') true) (by simp [Instr.typeAssert, ok.run_und hu w, ok.run_inf hi w, hm])
        | false => exact goal_here h (.iface _ _ _ hv') (by simp [Instr.typeAssert, ok.run_und hu w, ok.run_inf hi w, hm])
      · rename_i m hm
        split at hf
        · cases hf
          refine goal_here h (tup2 (.of_plainV (zero_plain hz)) false) ?_
          simp_all [Instr.typeAssert, ok.run_und hu w, ok.run_inf hi w, ok.run_zero hz w]
        · cases hf
    · cases hf
  · rename_i d z hni hu hz
    split at hf
    · cases hf
      rw [hv.nili_inv]
      refine goal_here h (tup2 (.of_plainV (zero_plain hz)) false) ?_
      cases d <;> first | exact absurd rfl (hni _) | simp_all [Instr.typeAssert, ok.run_und hu w, ok.run_zero hz w]
    · cases hf
  · rename_i d ty v z hni hu hz
    obtain ⟨v', rfl, hv'⟩ := hv.iface_inv
    split at hf
    · rename_i e
      subst e
      cases hf
      cases cok with
      | true =>
        refine goal_here h (tup2 hv' true) ?_
        cases d <;> first | exact absurd rfl (hni _) | simp [Instr.typeAssert, ok.run_und hu w]
      | false =>
        refine goal_here h hv' ?_
        cases d <;> first | exact absurd rfl (hni _) | simp [Instr.typeAssert, ok.run_und hu w]
    · rename_i e
      split at hf
      · cases hf
        refine goal_here h (tup2 (.of_plainV (zero_plain hz)) false) ?_
        cases d <;> first | exact absurd rfl (hni _) | simp_all [Instr.typeAssert, ok.run_und hu w, ok.run_zero hz w]
      · cases hf
  · cases hf

theorem run_appendCap {n o : Nat} {e : TypeId} : (choose (.appendCap n o e)).run P w = .ok (grownCap w n o e) w.drew := run_choose _ _ _ |>.trans rfl

theorem putO_push (o o' : Obj) : putO (w.alloc o) w.heap.size o' = w.alloc o' := by
  unfold putO World.alloc
  congr 1
  apply Array.ext_getElem?
  intro j
  rw [Array.getElem?_setIfInBounds]
  by_cases e : w.heap.size = j
  · subst e; simp
  · rw [if_neg e, Array.getElem?_push, Array.getElem?_push]
    simp [Ne.symm e]

/-- A text's bytes, or its runes, in a new array. -/
theorem newOpen_ok (h : WR nm K base φ A w) {e : TypeId} {vs cvs : List Value} {pad : Array Value} {fz : Nat × Nat} {sb : Bool} {cap : Nat} (hv : LR nm φ vs cvs) (hcap : vs.length ≤ cap) (hpad : cvs.length + pad.size = cap)
    (hfz : ∀ j, fz.1 ≤ j → j < fz.2 → cap ≤ j) (hsb : sb = false → fz.1 = fz.2) {n : Nat} (hn : n = vs.length) :
    ∃ φ', Emb.ext A.next φ φ' ∧
      WR nm K base φ' { A with next := A.next + 1, h := A.h.set A.next (.row { own := true, size := n, cells := T.ofList vs, elem := e, esz := 1, opn := true, grp := A.next, frz := 0, sb }) } (w.drew.alloc (.cells (cvs.toArray ++ pad) e fz)) ∧
      VR nm φ' (.slice (some ⟨A.next, 0, none⟩) n n) (.slice (some ⟨w.heap.size, 0, none⟩) n cap) := by
  subst hn
  have hnx := h.dom A.next (Nat.le_refl _)
  have hlen := hv.length
  let p := plGrow w cap 1
  refine ⟨φ.upd A.next p, Emb.upd_ext _ _ _, ?_, ?_⟩
  · refine (h.drew (w.drawn + 1)).new A.next p _ _ (A.next + 1) hnx (Nat.le_succ _) (Nat.lt_succ_self _) rfl ?_ rfl
    refine ⟨cvs.toArray ++ pad, fz, { blk := ?_, csz := ?_, opn := rfl, esz := fun _ => rfl, fit := ?_, cell := ?_, frz := ?_, sb := ?_, exact := fun g => by cases g }⟩
    · simp [p, plGrow]
    · simp [p, plGrow, hpad]
    · simp [p, plGrow, hpad]; omega
    · intro i hi
      have hi' : i < vs.length := hi
      refine ⟨_, (T.get_ofList _ _).trans (List.getElem?_eq_getElem hi'), ?_⟩
      obtain ⟨v', e1, e2⟩ := (hv.mono (Emb.upd_le p hnx)).get? (List.getElem?_eq_getElem hi')
      have : (cvs.toArray ++ pad).getD (p.off + i) undef = v' := by
        simp only [p, plGrow, Nat.zero_add]
        rw [Array.getD_eq_getD_getElem?, Array.getElem?_append_left (by simp; omega)]
        simp [e1]
      rw [this]; exact e2
    · intro _ j g1 g2 g3
      have := hfz j g1 g2
      simp [hpad] at g3
      omega
    · intro _ g; exact .inl (hsb g)
  · refine .slc ⟨A.next, 0, none⟩ ⟨w.heap.size, 0, none⟩ _ _ cap p (Emb.upd_same _ _ _) rfl rfl rfl (.inr rfl) (fun g => by cases g) (fun _ => ⟨hcap, ?_⟩) (Nat.le_refl _)
    show 0 + cap * 1 ≤ cap
    omega

theorem run_newO (o : Obj) (w : World) : (newObj o).run P w = .ok w.heap.size (w.alloc o) := rfl

theorem run_mark {cs : Array Value} {e : TypeId} (w : World) : (markStringish ⟨w.heap.size, 0, none⟩).run P (w.alloc (.cells cs e)) = .ok () (w.alloc (.cells cs e (cs.size, cs.size + 1))) := by
  have hb : (w.alloc (.cells cs e)).heap[w.heap.size]? = some (.cells cs e (0, 0)) := by
    show (w.heap.push _)[w.heap.size]? = _
    simp
  have hsh : (w.alloc (.cells cs e)).shape? w.heap.size = some (e, cs.size) := by unfold World.shape?; rw [hb]
  unfold markStringish
  simp only [Sem.run_bind, run_shape, hsh, Result.andThen_ok, run_freeze]
  rw [freeze_putO hb (by omega), putO_push]
  simp

theorem run_stringToBytes {e : TypeId} {s : ByteArray} : (Conv.stringToBytes e s).run P w = .ok (.slice (some ⟨w.heap.size, 0, none⟩) s.size (grownCap w s.size 0 e))
    (w.drew.alloc (.cells ((s.data.toList.map fun c : UInt8 => Value.int .u8 c.toNat).toArray ++ Array.replicate (grownCap w s.size 0 e - s.size) (.int .u8 0)) e (grownCap w s.size 0 e, grownCap w s.size 0 e + 1))) := by
  have hge := grownCap_ge w s.size 0 e
  have hcells : (s.data.map fun b : UInt8 => Value.int .u8 b.toNat) = (s.data.toList.map fun c : UInt8 => Value.int .u8 c.toNat).toArray := by
    apply Array.ext'; simp
  have hsz : ((s.data.toList.map fun c : UInt8 => Value.int .u8 c.toNat).toArray ++ Array.replicate (grownCap w s.size 0 e - s.size) (Value.int .u8 0)).size = grownCap w s.size 0 e := by
    have : s.data.size = s.size := rfl
    simp; omega
  have hm := run_mark (P := P) (cs := (s.data.toList.map fun c : UInt8 => Value.int .u8 c.toNat).toArray ++ Array.replicate (grownCap w s.size 0 e - s.size) (Value.int .u8 0)) (e := e) w.drew
  rw [hsz] at hm
  unfold Conv.stringToBytes
  simp only [Sem.run_bind, run_appendCap, Result.andThen_ok, newRow, run_newO, Sem.run_pure, hcells, hm]
  rfl

theorem runes_ints (s : ByteArray) : ∀ (b i : Nat) (acc : Array Value), (∃ ns : List Int, acc.toList = ns.map (Value.int .i32)) → ∃ ns : List Int, (Conv.runesFrom s b i acc).toList = ns.map (Value.int .i32) := by
  intro b
  induction b with
  | zero => intro i acc h; exact h
  | succ b ih =>
    intro i acc h
    unfold Conv.runesFrom
    split
    · obtain ⟨ns, e⟩ := h
      exact ih _ _ ⟨ns ++ [Int.ofNat (Utf8.decode s i).1], by rw [Array.toList_push, e, List.map_append]; rfl⟩
    · exact h

theorem ints_rel (ns : List Int) (k : IntKind) : LR nm φ (ns.map (Value.int k)) (ns.map (Value.int k)) := LR.map _ fun n _ => .int k n

theorem xConvert_ok (ok : EnvOk E P nm) (h : WR nm K base φ A w) {o : Oper} (src dst : TypeId) (x : Operand) (ho : o.op = .convert src dst x) (hv : VR nm φ (ρ x) (ρ' x)) (hf : xConvert E A ρ o src dst x = some (nx, A')) :
    Goal P nm K base φ A w (execOp ρ' o) nx A' := by
  have hexec : execOp ρ' o = (convert src dst (ρ' x) >>= fun y => pure (Next.value y)) := by unfold execOp; simp only [ho]
  have hpure : ∀ {nx}, viaPure E A ρ o = some (nx, A') → Goal P nm K base φ A w (execOp ρ' o) nx A' := fun hh => viaPure_ok ok h o (fun y hy => by
    rw [ho] at hy; simp [Op.operands] at hy; subst hy; exact hv) hh
  unfold xConvert at hf
  split at hf
  · rename_i e hs hd
    rw [hexec]
    split at hf
    · rename_i he
      split at hf
      · rename_i l hl
        cases hf
        rcases bytesL_cases h hl hv with ⟨s, g1, g2, rfl⟩ | ⟨m, c, g1, g2, rfl⟩ | ⟨a, a', n, c, c', ns, g1, g2, g3, g4, g5⟩
        · rw [g2]
          refine goal_here h (.str s) ?_
          have : mkStr s.data.toList = .string s := by unfold mkStr; rw [mk_data]
          simp [convert, ok.run_und hs w, ok.run_und hd w]
        · have := toString_ok (P := P) h hl hv (by rw [g1]; simp)
          rw [g2] at this ⊢
          refine goal_here h (.str _) ?_
          rw [run_convert_bytes_string w src dst e none m c (ok.und hs) (ok.und he) (ok.und hd)]
          exact this
        · have := toString_ok (P := P) h hl hv (by rw [g1]; simp)
          rw [g2] at this ⊢
          refine goal_here h (.str _) ?_
          rw [run_convert_bytes_string w src dst e (some a') n c' (ok.und hs) (ok.und he) (ok.und hd)]
          exact this
      · cases hf
    · cases hf
  · rename_i e s hs hd hx
    rw [hexec]
    rw [hx] at hv
    have hsv := hv.str_inv
    rw [hsv]
    split at hf
    · rename_i he
      cases hf
      have hge := grownCap_ge w s.size 0 e
      obtain ⟨φ', g1, g2, g3⟩ := newOpen_ok (e := e) (cap := grownCap w s.size 0 e) (fz := (grownCap w s.size 0 e, grownCap w s.size 0 e + 1)) (sb := true) h
        (vs := s.data.toList.map fun c => .int .u8 c.toNat) (cvs := s.data.toList.map fun c => .int .u8 c.toNat) (pad := Array.replicate (grownCap w s.size 0 e - s.size) (.int .u8 0)) (LR.map _ fun b _ => .int _ _) (by simpa using hge)
        (by simp; have : s.data.size = s.size := rfl; omega) (fun j k1 k2 => k1) (by simp) (n := s.size) (by simp)
      refine goal_val g1 (Nat.le_succ _) g2 g3 ?_
      have hconv : (convert src dst (.string s)).run P w = (Conv.stringToBytes e s).run P w := by
        simp [convert, ok.run_und hs w, ok.run_und hd w, ok.run_und he w]
      rw [hconv]
      exact run_stringToBytes
    · rename_i he
      cases hf
      obtain ⟨ns, hns⟩ := runes_ints s s.size 0 #[] ⟨[], rfl⟩
      have harr : Conv.runesFrom s s.size 0 #[] = (ns.map (Value.int .i32)).toArray := Array.ext' (by simpa using hns)
      rw [harr]
      have hge := grownCap_ge w ns.length 0 e
      obtain ⟨φ', g1, g2, g3⟩ := newOpen_ok (e := e) (cap := grownCap w ns.length 0 e) (fz := (0, 0)) (sb := false) h
        (vs := ns.map (Value.int .i32)) (cvs := ns.map (Value.int .i32)) (pad := Array.replicate (grownCap w ns.length 0 e - ns.length) (.int .i32 0)) (ints_rel ns .i32) (by simpa using hge)
        (by simp; omega) (fun j k1 k2 => by simp at k2) (by simp) (n := (ns.map (Value.int .i32)).length) rfl
      refine goal_val g1 (Nat.le_succ _) g2 g3 ?_
      have hconv : (convert src dst (.string s)).run P w = (Conv.stringToRunes e s).run P w := by
        simp [convert, ok.run_und hs w, ok.run_und hd w, ok.run_und he w]
      rw [hconv]
      simp only [Conv.stringToRunes, harr, List.size_toArray, List.length_map, Sem.run_bind, run_appendCap, Result.andThen_ok, newRow, run_newO, Sem.run_pure]
      rfl
    · cases hf
  · rename_i u a hs hd hx
    rw [hexec]
    rw [hx] at hv
    obtain ⟨p, hp, hsp, e⟩ := hv.ptr_inv
    rw [e]
    split at hf
    · rename_i r hr
      split at hf
      · rename_i hc
        simp only [Bool.and_eq_true, Bool.not_eq_true'] at hc
        obtain ⟨⟨hop, hsu⟩, hlies⟩ := hc
        cases hf
        obtain ⟨q, hq, ⟨cs, fz, hrow⟩, _⟩ := h.obj a.block _ (row?_some hr) rfl
        rw [hp] at hq; cases hq
        obtain ⟨hoff, hsize⟩ := hrow.exact hop
        obtain ⟨n, hn⟩ := Option.isSome_iff_exists.1 hsu
        refine goal_here h (.ptr a p hp hsp) ?_
        have hsh : w.shape? p.blk = some (r.elem, cs.size) := by simp [World.shape?, hrow.blk]
        have hvar : (variablesAt ⟨p.blk, p.off + a.off, none⟩ u 1).run P w = .ok true w := by
          rw [ok.prog, hsize] at hlies
          rw [hoff, Nat.zero_add]
          simp [variablesAt, hsh, hlies]
        simp [convert, ok.run_und hs w, ok.run_und hd w, Conv.unsafePointer, Conv.seenAt, viewAt, hsh, ok.run_size hn w, hvar]
      · cases hf
    · cases hf
  · rename_i t a hs hd hx
    rw [hexec]
    rw [hx] at hv
    obtain ⟨p, hp, hsp, e⟩ := hv.ptr_inv
    rw [e]
    split at hf
    · rename_i r n hr hn
      split at hf
      · rename_i hc
        simp only [Bool.and_eq_true, Bool.not_eq_true', bne_iff_ne] at hc
        obtain ⟨⟨hop, hn0⟩, hlt⟩ := hc
        cases hf
        obtain ⟨q, hq, ⟨cs, fz, hrow⟩, _⟩ := h.obj a.block _ (row?_some hr) rfl
        rw [hp] at hq; cases hq
        obtain ⟨hoff, hsize⟩ := hrow.exact hop
        refine goal_here h (.ptr a p hp hsp) ?_
        have hsh : w.shape? p.blk = some (r.elem, cs.size) := by simp [World.shape?, hrow.blk]
        have hlt' : a.off < cs.size := by
          rw [← hsize]; exact (by simpa using hlt)
        have hle : ¬ (cs.size ≤ p.off + a.off) := by omega
        simp [convert, ok.run_und hs w, ok.run_und hd w, Conv.unsafePointer, Conv.seenAt, viewAt, cellsIn, hsh, ok.run_size hn w, hn0, hle]
      · cases hf
    · cases hf
  · exact hpure hf
end
end Go.AM

namespace Go.AM
section
variable {E : Env} {P : Program} {nm : Nm} {K : Kp} {base : World} {φ : Emb} {A A' : St} {w : World} {ρ ρ' : Operand → Value} {nx : Nx}

theorem goal_fresh {s : Sem Next} (h : WR nm K base φ A w) (f : ∃ v o, nx = .val (v A.next) ∧ A' = { A with next := A.next + 1, h := A.h.set A.next (o A.next) } ∧ Fresh P nm φ w s v o) : Goal P nm K base φ A w s nx A' := by
  obtain ⟨v, o, rfl, rfl, f⟩ := f
  exact f.goal h

theorem opD_ok (ok : EnvOk E P nm) (h : WR nm K base φ A w) (o : Oper) (hρ : ∀ x, x ∈ o.op.operands.toList → VR nm φ (ρ x) (ρ' x)) (hx : opD E A ρ o = some (nx, A')) :
    Goal P nm K base φ A w (execOp ρ' o) nx A' := by
  unfold opD at hx
  cases hop : o.op <;> simp only [hop] at hx
  case move x =>
    cases hx
    have e : execOp ρ' o = pure (Next.value (ρ' x)) := by unfold execOp; simp only [hop]
    rw [e]; exact goal_now h (hρ x (by rw [hop]; simp [Op.operands]))
  case assign x =>
    cases hx
    have e : execOp ρ' o = pure (Next.value (ρ' x)) := by unfold execOp; simp only [hop]
    rw [e]; exact goal_now h (hρ x (by rw [hop]; simp [Op.operands]))
  case pick c a b =>
    have e : execOp ρ' o = (asBool (ρ' c) >>= fun t => pure (Next.value (if t then ρ' a else ρ' b))) := by unfold execOp; simp only [hop]
    rw [e]; exact xPick_ok h c a b (hρ c (by rw [hop]; simp [Op.operands])) (hρ a (by rw [hop]; simp [Op.operands])) (hρ b (by rw [hop]; simp [Op.operands])) hx
  case alloc t =>
    have e : execOp ρ' o = (Instr.alloc t true (.tuple #[]) >>= fun x => pure (Next.value x)) := by unfold execOp; simp only [hop]
    rw [e]; exact goal_fresh h (xAlloc_fresh ok t hx)
  case box t x =>
    have e : execOp ρ' o = (Instr.box t (ρ' x) >>= fun x => pure (Next.value x)) := by unfold execOp; simp only [hop]
    rw [e]; exact goal_fresh h (xBox_fresh t x (hρ x (by rw [hop]; simp [Op.operands])) hx)
  case build t parts =>
    have e : execOp ρ' o = (Instr.build t (parts.map fun (i, x) => (i, ρ' x)) >>= fun x => pure (Next.value x)) := by unfold execOp; simp only [hop]
    rw [e]; exact xBuild_ok ok h t parts (fun x hm => hρ x (by rw [hop]; simpa [Op.operands] using hm)) hx
  case buildSlice t len parts =>
    have e : execOp ρ' o = (Instr.buildSlice t len (parts.map fun (i, x) => (i, ρ' x)) >>= fun x => pure (Next.value x)) := by unfold execOp; simp only [hop]
    rw [e]; exact goal_fresh h (xBuildSlice_fresh ok t len parts (fun x hm => hρ x (by rw [hop]; simpa [Op.operands] using hm)) hx)
  case load t a =>
    have e : execOp ρ' o = (Instr.loadAt t (ρ' a) >>= fun x => pure (Next.value x)) := by unfold execOp; simp only [hop]
    rw [e]; exact xLoad_ok ok h t a (hρ a (by rw [hop]; simp [Op.operands])) hx
  case store t a x =>
    have e : execOp ρ' o = (Instr.storeAt t (ρ' a) (ρ' x) >>= fun _ => pure Next.skip) := by unfold execOp; simp only [hop]
    rw [e]; exact xStore_ok ok h t a x (hρ a (by rw [hop]; simp [Op.operands])) (hρ x (by rw [hop]; simp [Op.operands])) hx
  case nilCheck x => exact xNilCheck_ok ok h x (hρ x (by rw [hop]; simp [Op.operands])) hx o hop
  case binOp op t x y u => exact xBinOp_ok ok h o op t x y u hop hρ hx
  case unOp => exact viaPure_ok ok h o hρ hx
  case convert src dst x => exact xConvert_ok ok h src dst x hop (hρ x (by rw [hop]; simp [Op.operands])) hx
  case makeInterface t x =>
    have e : execOp ρ' o = (Instr.makeInterface t (ρ' x) >>= fun x => pure (Next.value x)) := by unfold execOp; simp only [hop]
    rw [e]; exact xMakeInterface_ok ok h t x (hρ x (by rw [hop]; simp [Op.operands])) hx
  case makeFunc fn first captured =>
    have e : execOp ρ' o = (Instr.makeFunc fn (first.map ρ') (captured.map ρ') >>= fun x => pure (Next.value x)) := by unfold execOp; simp only [hop]
    rw [e]
    have h1 : AR nm φ (first.map ρ) (first.map ρ') := map_rel _ _ _ fun x hm => hρ x (by rw [hop]; simp [Op.operands, hm])
    have h2 : AR nm φ (captured.map ρ) (captured.map ρ') := map_rel _ _ _ fun x hm => hρ x (by rw [hop]; simp [Op.operands, hm])
    unfold xMakeFunc at hx
    split at hx
    · cases hx; exact goal_now h (.func' (.func _) h1 h2)
    · cases hx; exact goal_now h (.func' (.method _) h1 h2)
    · cases hx
  case makeMap t r =>
    have e : execOp ρ' o = (Instr.makeMap t (r.map ρ') >>= fun x => pure (Next.value x)) := by unfold execOp; simp only [hop]
    rw [e]; exact goal_fresh h (xMakeMap_fresh t r hx)
  case makeSlice t l c =>
    have e : execOp ρ' o = (Instr.makeSlice t (ρ' l) (ρ' c) >>= fun x => pure (Next.value x)) := by unfold execOp; simp only [hop]
    rw [e]; exact goal_fresh h (xMakeSlice_fresh ok t l c (hρ l (by rw [hop]; simp [Op.operands])) (hρ c (by rw [hop]; simp [Op.operands])) hx)
  case slice t x lo hi mx =>
    have e : execOp ρ' o = (Instr.sliceAt t (ρ' x) (lo.map ρ') (hi.map ρ') (mx.map ρ') >>= fun x => pure (Next.value x)) := by unfold execOp; simp only [hop]
    rw [e]; exact xSlice_ok ok h t x lo hi mx (hρ x (by rw [hop]; simp [Op.operands])) (fun y hy => hρ y (by rw [hop]; simp [Op.operands, hy])) (fun y hy => hρ y (by rw [hop]; simp [Op.operands, hy])) (fun y hy => hρ y (by rw [hop]; simp [Op.operands, hy])) hx
  case fieldAddr s x f =>
    have e : execOp ρ' o = (Instr.fieldAt s (ρ' x) f >>= fun x => pure (Next.value x)) := by unfold execOp; simp only [hop]
    rw [e]; exact xFieldAddr_ok ok h s x f (hρ x (by rw [hop]; simp [Op.operands])) hx
  case field t x f =>
    have e : execOp ρ' o = (Instr.field t (ρ' x) f >>= fun x => pure (Next.value x)) := by unfold execOp; simp only [hop]
    rw [e]; exact xField_ok ok h t x f (hρ x (by rw [hop]; simp [Op.operands])) hx
  case indexAddr t x ix =>
    have e : execOp ρ' o = (Instr.indexAt t (ρ' x) (ρ' ix) >>= fun x => pure (Next.value x)) := by unfold execOp; simp only [hop]
    rw [e]; exact xIndexAddr_ok ok h t x ix (hρ x (by rw [hop]; simp [Op.operands])) (hρ ix (by rw [hop]; simp [Op.operands])) hx
  case index t x ix =>
    have e : execOp ρ' o = (Instr.index t (ρ' x) (ρ' ix) >>= fun x => pure (Next.value x)) := by unfold execOp; simp only [hop]
    rw [e]; exact xIndex_ok ok h t x ix (hρ x (by rw [hop]; simp [Op.operands])) (hρ ix (by rw [hop]; simp [Op.operands])) hx
  case lookup t m ix cok =>
    have e : execOp ρ' o = (Instr.lookup t (ρ' m) (ρ' ix) cok >>= fun x => pure (Next.value x)) := by unfold execOp; simp only [hop]
    rw [e]; exact xLookup_ok ok h t m ix cok (hρ m (by rw [hop]; simp [Op.operands])) (hρ ix (by rw [hop]; simp [Op.operands])) hx
  case mapUpdate t m k x =>
    have e : execOp ρ' o = (Instr.mapUpdate t (ρ' m) (ρ' k) (ρ' x) >>= fun _ => pure Next.skip) := by unfold execOp; simp only [hop]
    rw [e]; exact xMapUpdate_ok ok h t m k x (hρ m (by rw [hop]; simp [Op.operands])) (hρ k (by rw [hop]; simp [Op.operands])) (hρ x (by rw [hop]; simp [Op.operands])) hx
  case insert t m k x =>
    have e : execOp ρ' o = (Instr.mapUpdate t (ρ' m) (ρ' k) (ρ' x) >>= fun _ => pure Next.skip) := by unfold execOp; simp only [hop]
    rw [e]; exact xMapUpdate_ok ok h t m k x (hρ m (by rw [hop]; simp [Op.operands])) (hρ k (by rw [hop]; simp [Op.operands])) (hρ x (by rw [hop]; simp [Op.operands])) hx
  case mapEntry t m k =>
    have e : execOp ρ' o = (Instr.mapEntry t (ρ' m) (ρ' k) >>= fun x => pure (Next.value x)) := by unfold execOp; simp only [hop]
    rw [e]; exact xMapEntry_ok ok h t m k (hρ m (by rw [hop]; simp [Op.operands])) (hρ k (by rw [hop]; simp [Op.operands])) hx
  case entryStore t m s x =>
    have e : execOp ρ' o = (Instr.entryStore t (ρ' m) (ρ' s) (ρ' x) >>= fun _ => pure Next.skip) := by unfold execOp; simp only [hop]
    rw [e]; exact xEntryStore_ok h t m s x (hρ m (by rw [hop]; simp [Op.operands])) (hρ s (by rw [hop]; simp [Op.operands])) (hρ x (by rw [hop]; simp [Op.operands])) hx
  case range t x =>
    have e : execOp ρ' o = (Instr.range t (ρ' x) >>= fun x => pure (Next.value x)) := by unfold execOp; simp only [hop]
    rw [e]; exact xRange_ok ok h t x (hρ x (by rw [hop]; simp [Op.operands])) hx
  case next it isStr =>
    have e : execOp ρ' o = (Instr.next (ρ' it) isStr o.type >>= fun x => pure (Next.value x)) := by unfold execOp; simp only [hop]
    rw [e]; exact xNext_ok h o.type it isStr (hρ it (by rw [hop]; simp [Op.operands])) hx
  case typeAssert x xt t cok =>
    have e : execOp ρ' o = (Instr.typeAssert (ρ' x) xt t cok >>= fun x => pure (Next.value x)) := by unfold execOp; simp only [hop]
    rw [e]; exact xTypeAssert_ok ok h x xt t cok (hρ x (by rw [hop]; simp [Op.operands])) hx
  case extract t i =>
    have e : execOp ρ' o = (Instr.extract (ρ' t) i >>= fun x => pure (Next.value x)) := by unfold execOp; simp only [hop]
    rw [e]; exact xExtract_ok h t i (hρ t (by rw [hop]; simp [Op.operands])) hx
  case call c => exact xCall_ok ok h hop (fun x hm => hρ x (by rw [hop]; exact hm)) hx
  case defer c => exact xDefer_ok h hop (fun x hm => hρ x (by rw [hop]; simpa [Op.operands] using hm)) hx
  case panic x =>
    have e : execOp ρ' o = (Instr.panic (ρ' x) >>= fun x => pure (Next.value x)) := by unfold execOp; simp only [hop]
    rw [e]; exact xPanic_ok h (hρ x (by rw [hop]; simp [Op.operands])) hx
  all_goals cases hx

theorem alloc_fresh (ok : EnvOk E P nm) (o : Oper) (hal : isAlloc o = true) (hρ : ∀ x, x ∈ o.op.operands.toList → VR nm φ (ρ x) (ρ' x)) (hx : opD E A ρ o = some (nx, A')) :
    ∃ v u, nx = .val (v A.next) ∧ A' = { A with next := A.next + 1, h := A.h.set A.next (u A.next) } ∧ Fresh P nm φ w (execOp ρ' o) v u := by
  unfold opD at hx
  unfold isAlloc at hal
  cases hop : o.op <;> simp only [hop] at hx hal <;> first | (cases hal; done) | skip
  case alloc t =>
    have e : execOp ρ' o = (Instr.alloc t true (.tuple #[]) >>= fun x => pure (Next.value x)) := by unfold execOp; simp only [hop]
    rw [e]; exact xAlloc_fresh ok t hx
  case box t x =>
    have e : execOp ρ' o = (Instr.box t (ρ' x) >>= fun x => pure (Next.value x)) := by unfold execOp; simp only [hop]
    rw [e]; exact xBox_fresh t x (hρ x (by rw [hop]; simp [Op.operands])) hx
  case buildSlice t len parts =>
    have e : execOp ρ' o = (Instr.buildSlice t len (parts.map fun (i, x) => (i, ρ' x)) >>= fun x => pure (Next.value x)) := by unfold execOp; simp only [hop]
    rw [e]; exact xBuildSlice_fresh ok t len parts (fun x hm => hρ x (by rw [hop]; simpa [Op.operands] using hm)) hx
  case makeMap t r =>
    have e : execOp ρ' o = (Instr.makeMap t (r.map ρ') >>= fun x => pure (Next.value x)) := by unfold execOp; simp only [hop]
    rw [e]; exact xMakeMap_fresh t r hx
  case makeSlice t l c =>
    have e : execOp ρ' o = (Instr.makeSlice t (ρ' l) (ρ' c) >>= fun x => pure (Next.value x)) := by unfold execOp; simp only [hop]
    rw [e]; exact xMakeSlice_fresh ok t l c (hρ l (by rw [hop]; simp [Op.operands])) (hρ c (by rw [hop]; simp [Op.operands])) hx
end
end Go.AM
