/- Calls: what is called, and with what. -/
import Derived.Test.YtkhgbpokoaklpaaGreatDoorAmBuilt3
namespace Go.AM
section
variable {E : Env} {P : Program} {nm : Nm} {K : Kp} {base : World} {φ : Emb} {A A' : St} {w : World} {ρ ρ' : Operand → Value} {nx : Nx}

theorem builtin_ok (ok : EnvOk E P nm) (h : WR nm K base φ A w) {b : Builtin} {ts : List TypeId} {args : List Value} {args' : Array Value} {ty : TypeId} {cs : Array Bool} (ha : LR nm φ args args'.toList)
    (hf : builtinOp E A b ts ty args = some (nx, A')) : Goal P nm K base φ A w (builtin b ts.toArray ty cs args') nx A' := by
  unfold builtinOp at hf
  split at hf
  · exact bLen_ok ok h ha hf
  · exact bCap_ok ok h ha hf
  · exact bAppend_ok ok h ha hf
  · exact bCopy_ok ok h ha hf
  · exact bDelete_ok ok h ha hf
  · exact bClear_ok ok h ha hf
  · exact bMin_ok ok h ha (.inl rfl) hf
  · exact bMin_ok ok h ha (.inr rfl) hf
  · cases hf
    exact ⟨φ, w, Emb.ext_refl _ _, Nat.le_refl _, h, rfl⟩
  · exact bPanic_ok h ha hf
  · exact bUnsafeSliceData_ok h ha hf
  · split at hf
    · cases hf
    · exact bUnsafeString_ok ok h ha (by simp) hf
  · cases hf

theorem callF_ok (ok : EnvOk E P nm) (h : WR nm K base φ A w) {f : FuncId} {args : List Value} {args' : Array Value} (ha : LR nm φ args args'.toList)
    (hf : callF E A f args = some (nx, A')) : Goal P nm K base φ A w (callFunc f args') nx A' := by
  unfold callF at hf
  split at hf
  · rename_i fn hfn
    have hfn' := ok.fn _ _ hfn
    have hname := ok.names _ _ hfn'
    split at hf
    · rename_i c hb
      cases hf
      have h1 : fn.name ≠ "runtime.NumGoroutine" := by simpa using hname
      refine ⟨φ, w, Emb.ext_refl _ _, Nat.le_refl _, h, args', ha, ?_, fn, hfn', by simp [hb]⟩
      simp [callFunc, hfn', h1, hb]
    · rename_i hb
      split at hf
      · rename_i v A1 hv
        cases hf
        obtain ⟨g1, rfl, v', g2, g3⟩ := extern_ok (P := P) h ha hv
        obtain ⟨e1, e2⟩ := ok.ext f fn hfn' hb g1
        refine ⟨φ, w, Emb.ext_refl _ _, Nat.le_refl _, h, v', g2, ?_⟩
        rw [run_callFunc_extern hfn' hname (by simp [hb]) e1 e2, g3]
        rfl
      · cases hf
  · cases hf

theorem run_method_own (ok : EnvOk E P nm) {t : TypeId} {i : TypeInfo} {m : Method} {f : FuncId} {ptr : Bool} {d : TypeDesc} {name : String} {v : Value} (hi : E.inf t = some i) (hm : i.methods.find? (·.name == name) = some m)
    (hp : m.path.isEmpty = true) (hf : m.func = some (f, ptr)) (hu : E.und t = some d) (hd : (∃ e, d = .pointer e) ∧ ptr = true ∨ (∀ e, d ≠ .pointer e) ∧ ptr = false) (n : Nat) :
    (Go.method (n + 1) t v name).run P w = .ok (f, v) w := by
  have hpath : m.path.toList = [] := by simpa using hp
  rcases hd with ⟨⟨e, rfl⟩, rfl⟩ | ⟨hne, rfl⟩
  · simp only [Go.method, Sem.run_bind, ok.run_inf hi w, Result.andThen_ok, hm, hpath, follow, Sem.run_pure, hf, receiverAt, ok.run_und hu w, Place.get]
  · cases d <;> first | exact absurd rfl (hne _) | simp only [Go.method, Sem.run_bind, ok.run_inf hi w, Result.andThen_ok, hm, hpath, follow, Sem.run_pure, hf, receiverAt, ok.run_und hu w, Place.get]

theorem callM_ok (ok : EnvOk E P nm) (h : WR nm K base φ A w) {recv recv' : Value} {name : String} {args : List Value} {args' : Array Value} (hr : VR nm φ recv recv') (ha : LR nm φ args args'.toList)
    (hf : callM E A recv name args = some (nx, A')) : Goal P nm K base φ A w (callMethod recv' name args') nx A' := by
  unfold callM at hf
  split at hf
  · rename_i t v
    cases hr with
    | iface t v v' hv =>
      split at hf
      · rename_i i hi
        split at hf
        · rename_i m hm
          split at hf
          · rename_i hp
            have go : ∀ (f : FuncId) (ptr : Bool) (d : TypeDesc), m.func = some (f, ptr) → E.und t = some d → ((∃ e, d = .pointer e) ∧ ptr = true ∨ (∀ e, d ≠ .pointer e) ∧ ptr = false) →
                callF E A f (v :: args) = some (nx, A') → Goal P nm K base φ A w (callMethod (.iface t v') name args') nx A' := by
              intro f ptr d hmf hu hd hc
              obtain ⟨φ', w', g1, g2, g3, g4⟩ := callF_ok (args' := #[v'] ++ args') ok h (by simpa using LR.cons hv ha) hc
              refine ⟨φ', w', g1, g2, g3, ?_⟩
              have hrun : ∀ w2 : World, (Go.method (P.types.size + Made.depth) t v' name).run P w2 = .ok (f, v') w2 := fun w2 => by
                have hdep : P.types.size + Made.depth = (P.types.size + (Made.depth - 1)) + 1 := rfl
                rw [hdep]
                exact run_method_own ok hi hm hp hmf hu hd _
              have e : (callMethod (.iface t v') name args').run P w = (callFunc f (#[v'] ++ args')).run P w := by
                simp only [callMethod, Sem.run_bind, run_program, Result.andThen_ok, hrun]
              cases nx <;> simp only [NxR] at g4 ⊢ <;> simpa [e] using g4
            split at hf
            · rename_i f ptr hmf
              split at hf
              · rename_i hu; exact go f _ _ hmf hu (.inl ⟨⟨_, rfl⟩, rfl⟩) hf
              · cases hf
              · rename_i d hd hu; exact go f _ _ hmf hu (.inr ⟨fun e he => hd e he, rfl⟩) hf
              · cases hf
            · cases hf
          · cases hf
        · cases hf
      · cases hf
  · cases hr
    cases hf
    exact goal_pan h (.of_plainV nilDeref_plain) (run_nilDeref ok)
  · cases hf

theorem invokeT_ok (ok : EnvOk E P nm) (h : WR nm K base φ A w) {t t' : Target} {args : List Value} {args' : Array Value} (ht : TR nm φ t t') (ha : LR nm φ args args'.toList)
    (hf : invokeT E A t args = some (nx, A')) : Goal P nm K base φ A w (invoke t' args') nx A' := by
  unfold invokeT at hf
  split at hf
  · cases ht
    cases hf
    exact goal_pan h (.of_plainV nilDeref_plain) (run_nilDeref ok)
  · cases ht with
    | fn f f' c c' h1 h2 =>
      cases h1
      exact callF_ok ok h (by simpa using LR.append ha h2) hf
  · cases ht with
    | fn f f' c c' h1 h2 =>
      cases h1
      split at hf
      · rename_i recv rest
        obtain ⟨r', l, e, g1, g2⟩ := ha.cons_inv
        have hargs : args' = #[r'] ++ l.toArray := by
          apply Array.ext'
          simp [e]
        subst hargs
        have h0 : (#[r'] ++ l.toArray)[0]? = some r' := by simp
        have hx : (#[r'] ++ l.toArray).extract 1 (#[r'] ++ l.toArray).size = l.toArray := by
          apply Array.ext'
          simp
        unfold invoke
        simp only [h0, hx]
        exact callM_ok (args' := l.toArray) ok h g1 (by simpa using g2) hf
      · cases hf
  · cases ht with
    | fn f f' c c' h1 h2 =>
      cases hf
      cases h1 with
      | yield l l' p g1 g2 =>
        subst g2
        exact ⟨φ, w, Emb.ext_refl _ _, Nat.le_refl _, h, args', p, g1, ha, rfl⟩
  · rename_i b ts ty cs
    cases ht
    have := builtin_ok (ts := ts.toList) (cs := cs) (ty := ty) ok h ha hf
    simpa [invoke] using this
  · cases hf

theorem VR.nilf_inv {c : Value} (h : VR nm φ .nilFunc c) : c = .nilFunc := by cases h; rfl

theorem map_rel {α : Type} (xs : Array α) (f g : α → Value) (h : ∀ x, x ∈ xs → VR nm φ (f x) (g x)) : AR nm φ (xs.map f) (xs.map g) := by
  have := LR.map (nm := nm) (φ := φ) (f := f) (g := g) xs.toList (fun x hx => h x (by simpa using hx))
  simpa [AR] using this

theorem resolveT_ok {c : Call} {ty : TypeId} {d : Deferred} (hρ : ∀ x, x ∈ (Op.call c).operands.toList → VR nm φ (ρ x) (ρ' x)) (hf : resolveT ρ c ty = some d) :
    ∃ d', DR nm φ d d' ∧ ∀ w : World, (resolve ρ' c ty).run P w = .ok d' w := by
  have hargs : AR nm φ (c.args.map ρ) (c.args.map ρ') := map_rel _ _ _ fun x hx => hρ x (by simp [Op.operands, Call.operands, hx])
  unfold resolveT at hf
  split at hf
  · rename_i b hc
    cases hf
    exact ⟨_, ⟨.builtin _ _ _ _, hargs⟩, fun w => by simp only [resolve, hc]; rfl⟩
  · rename_i recv name hc
    cases hf
    have hr := hρ recv (by simp [Op.operands, Call.operands, hc])
    refine ⟨_, ⟨.fn _ _ _ _ (.method name) .nil, ?_⟩, fun w => by simp only [resolve, hc]; rfl⟩
    simpa [AR] using LR.cons hr hargs
  · rename_i f hc
    have hr := hρ f (by simp [Op.operands, Call.operands, hc])
    split at hf
    · rename_i fn first cap hv
      cases hf
      rw [hv] at hr
      obtain ⟨f', a', b', e, h1, h2, h3⟩ := hr.func_inv
      refine ⟨_, ⟨.fn _ _ _ _ h1 h3, ?_⟩, fun w => by simp only [resolve, hc, e]; rfl⟩
      simpa [AR] using LR.append h2 hargs
    · rename_i hv
      cases hf
      rw [hv] at hr
      have e : ρ' f = .nilFunc := hr.nilf_inv
      exact ⟨_, ⟨.nil, hargs⟩, fun w => by simp only [resolve, hc, e]; rfl⟩
    · cases hf

theorem xCall_ok (ok : EnvOk E P nm) (h : WR nm K base φ A w) {o : Oper} {c : Call} (ho : o.op = .call c) (hρ : ∀ x, x ∈ (Op.call c).operands.toList → VR nm φ (ρ x) (ρ' x))
    (hf : xCall E A ρ o c = some (nx, A')) : Goal P nm K base φ A w (execOp ρ' o) nx A' := by
  unfold xCall at hf
  split at hf
  · rename_i d hd
    obtain ⟨d', h1, h2⟩ := resolveT_ok (P := P) hρ hd
    obtain ⟨φ', w', g1, g2, g3, g4⟩ := invokeT_ok ok h h1.target h1.args hf
    refine ⟨φ', w', g1, g2, g3, ?_⟩
    have e : (execOp ρ' o).run P w = (invoke d'.target d'.args).run P w := by
      unfold execOp
      simp only [ho, Sem.run_bind, h2, Result.andThen_ok]
    cases nx <;> simp only [NxR] at g4 ⊢ <;> simpa [e] using g4
  · cases hf

theorem xDefer_ok (h : WR nm K base φ A w) {o : Oper} {c : Call} (ho : o.op = .defer c) (hρ : ∀ x, x ∈ (Op.call c).operands.toList → VR nm φ (ρ x) (ρ' x))
    (hf : xDefer A ρ o c = some (nx, A')) : Goal P nm K base φ A w (execOp ρ' o) nx A' := by
  unfold xDefer at hf
  split at hf
  · rename_i d hd
    cases hf
    obtain ⟨d', h1, h2⟩ := resolveT_ok (P := P) hρ hd
    refine ⟨φ, w, Emb.ext_refl _ _, Nat.le_refl _, h, d', h1, ?_⟩
    unfold execOp
    simp only [ho, Sem.run_bind, h2, Result.andThen_ok, Sem.run_pure]
  · cases hf

theorem xPanic_ok (h : WR nm K base φ A w) {x : Operand} (hv : VR nm φ (ρ x) (ρ' x)) (hf : xPanic A ρ x = some (nx, A')) : Goal P nm K base φ A w (Instr.panic (ρ' x) >>= fun y => pure (Next.value y)) nx A' := by
  unfold xPanic at hf
  split at hf
  · rename_i t v e
    cases hf
    rw [e] at hv
    generalize ρ' x = c at hv
    cases hv with
    | iface t v v' hv => exact goal_pan h (.iface t v v' hv) rfl
  · cases hf
end
end Go.AM
