/- Built-in functions. -/
import Derived.Test.YtkhgbpokoaklpaaGreatDoorAmBuilt
namespace Go.AM
section
variable {E : Env} {P : Program} {nm : Nm} {K : Kp} {base : World} {φ : Emb} {A A' : St} {w : World} {ρ ρ' : Operand → Value} {nx : Nx}

theorem und0_some {ts : List TypeId} {d : TypeDesc} (h : und0 E ts = some d) : ∃ t l, ts = t :: l ∧ E.und t = some d := by
  unfold und0 at h
  split at h
  · exact ⟨_, _, rfl, h⟩
  · cases h

theorem VR.mapn_inv {c : Value} (h : VR nm φ (.map none) c) : c = .map none := by cases h; rfl

theorem bLen_ok (ok : EnvOk E P nm) (h : WR nm K base φ A w) {ts : List TypeId} {args : List Value} {args' : Array Value} {ty : TypeId} (ha : LR nm φ args args'.toList)
    (hf : bLen E A ts args = some (nx, A')) : Goal P nm K base φ A w (Builtin.len_ ts.toArray ty args' >>= fun x => pure (Next.value x)) nx A' := by
  unfold bLen at hf
  split at hf
  · rename_i hu
    obtain ⟨t, l, rfl, hu⟩ := und0_some hu
    cases hf
    obtain ⟨x', rfl, hx⟩ := args1 ha
    refine goal_here h (.of_plainV rfl) ?_
    cases hx <;> simp [Builtin.len_, ok.run_und hu w]
  · rename_i hu
    obtain ⟨t, l, rfl, hu⟩ := und0_some hu
    cases hf
    obtain ⟨x', rfl, hx⟩ := args1 ha
    refine goal_here h (.of_plainV rfl) ?_
    rw [hx.str_inv]; simp [Builtin.len_, ok.run_und hu w]
  · rename_i hu
    obtain ⟨t, l, rfl, hu⟩ := und0_some hu
    cases hf
    obtain ⟨x', rfl, hx⟩ := args1 ha
    refine goal_here h (.of_plainV rfl) ?_
    rw [hx.mapn_inv]; simp [Builtin.len_, ok.run_und hu w]
  · rename_i r hu
    obtain ⟨t, l, rfl, hu⟩ := und0_some hu
    split at hf
    · rename_i es cl hr
      cases hf
      obtain ⟨x', rfl, hx⟩ := args1 ha
      obtain ⟨p, hp, rfl⟩ := hx.map_inv
      obtain ⟨q, hq, ⟨ces, ho, her⟩, _⟩ := h.obj r _ hr rfl
      rw [hp] at hq; cases hq
      refine goal_here h (.of_plainV rfl) ?_
      have hsz : es.length = ces.size := her.1
      simp only [Builtin.len_, List.getElem?_toArray, List.getElem?_cons_zero, Sem.run_bind, ok.run_und hu w, Result.andThen_ok, run_getObj ho (fun _ _ _ e => by cases e), Sem.run_pure, hsz]
    · cases hf
  · rename_i hu
    obtain ⟨t, l, rfl, hu⟩ := und0_some hu
    cases hf
    obtain ⟨x', rfl, hx⟩ := args1 ha
    refine goal_here h (.of_plainV rfl) ?_
    simp [Builtin.len_, ok.run_und hu w]
  · rename_i hu
    obtain ⟨t, l, rfl, hu⟩ := und0_some hu
    split at hf
    · rename_i hu2
      cases hf
      obtain ⟨x', rfl, hx⟩ := args1 ha
      refine goal_here h (.of_plainV rfl) ?_
      simp [Builtin.len_, ok.run_und hu w, ok.run_und hu2 w]
    · cases hf
  · cases hf

theorem bCap_ok (ok : EnvOk E P nm) (h : WR nm K base φ A w) {ts : List TypeId} {args : List Value} {args' : Array Value} {ty : TypeId} (ha : LR nm φ args args'.toList)
    (hf : bCap E A ts args = some (nx, A')) : Goal P nm K base φ A w (Builtin.cap_ ts.toArray ty args' >>= fun x => pure (Next.value x)) nx A' := by
  unfold bCap at hf
  split at hf
  · rename_i hu
    obtain ⟨t, l, rfl, hu⟩ := und0_some hu
    cases hf
    obtain ⟨x', rfl, hx⟩ := args1 ha
    refine goal_here h (.of_plainV rfl) ?_
    rw [hx.nils_inv]; simp [Builtin.cap_, ok.run_und hu w]
  · rename_i a _ n hu
    obtain ⟨t, l, rfl, hu⟩ := und0_some hu
    split at hf
    · rename_i r hr
      split at hf
      · cases hf
      · rename_i hop
        cases hf
        obtain ⟨x', rfl, hx⟩ := args1 ha
        obtain ⟨a', k', p, rfl, hp, _, _, _, _, q4, _⟩ := hx.slc_inv
        obtain ⟨q, hq, ⟨cs, fz, ho⟩, _⟩ := h.obj a.block _ (row?_some hr) rfl
        rw [hp] at hq; cases hq
        have := q4 (by rw [ho.opn]; simpa using hop)
        subst this
        refine goal_here h (.of_plainV rfl) ?_
        simp [Builtin.cap_, ok.run_und hu w]
    · cases hf
  · cases hf

theorem bAppend_ok (ok : EnvOk E P nm) (h : WR nm K base φ A w) {ts : List TypeId} {args : List Value} {args' : Array Value} {ty : TypeId} (ha : LR nm φ args args'.toList)
    (hf : bAppend E A ts args = some (nx, A')) : Goal P nm K base φ A w (Builtin.append_ ts.toArray ty args' >>= fun x => pure (Next.value x)) nx A' := by
  unfold bAppend at hf
  split at hf
  · rename_i v A1 hv
    cases hf
    obtain ⟨φ', w', v', h1, h2, h3, h4, h5⟩ := app_ok ok h ha hv (ty := ty)
    exact goal_val h1 h2 h3 h4 h5
  · cases hf

theorem lenV_ok {x x' : Value} {n : Nat} (hl : lenV x = some n) (hx : VR nm φ x x') (w2 : World) : (Builtin.lenOf x').run P w2 = .ok n w2 := by
  unfold lenV at hl
  split at hl
  · rename_i b l c
    cases hl
    cases b with
    | none => rw [hx.nils_inv]; rfl
    | some b => obtain ⟨a', k', p, rfl, _⟩ := hx.slc_inv; rfl
  · cases hl; rw [hx.str_inv]; rfl
  · cases hl

theorem bCopy_ok (ok : EnvOk E P nm) (h : WR nm K base φ A w) {ts : List TypeId} {args : List Value} {args' : Array Value} {ty : TypeId} (ha : LR nm φ args args'.toList)
    (hf : bCopy E A ts args = some (nx, A')) : Goal P nm K base φ A w (Builtin.copy_ ts.toArray ty args' >>= fun x => pure (Next.value x)) nx A' := by
  unfold bCopy at hf
  split at hf
  · rename_i e bs dl dc src hu
    obtain ⟨t, l, rfl, hu⟩ := und0_some hu
    split at hf
    · rename_i sz sl hs hl
      split at hf
      · rename_i cs hc
        obtain ⟨d', s', rfl, hd, hsr⟩ := args2 ha
        obtain ⟨cvs, h1, h2⟩ := firstN_ok (P := P) h hsr hc (fun a l c e => by subst e; simp [lenV] at hl; rw [hl]; exact Nat.min_le_left _ _)
        have h2w := h2 w rfl
        split at hf
        · cases hf
          refine goal_here h (.of_plainV rfl) ?_
          rw [hd.nils_inv]
          simp [Builtin.copy_, ok.run_und hu w, lenV_ok hl hsr, ok.run_size hs w, h2w]
        · rename_i a
          obtain ⟨a', k', p, rfl, hp, hsp, q1, q2, q3, q4, q5, q6⟩ := hd.slc_inv
          split at hf
          · rename_i h0
            cases hf
            have : cvs = [] := List.eq_nil_of_length_eq_zero (by rw [← h1.length]; exact h0)
            subst this
            refine goal_here h (.of_plainV rfl) ?_
            simp [Builtin.copy_, ok.run_und hu w, lenV_ok hl hsr, ok.run_size hs w, h2w, storeCells]
          · rename_i h0
            split at hf
            · rename_i A1 hst
              cases hf
              obtain ⟨w', r1, r2, r3⟩ := h.store (P := P) hst h1 hp
              by_cases hdl : dl = 0
              · exfalso
                apply h0
                subst hdl
                have hmin : Nat.min sl 0 = 0 := Nat.min_zero _
                rw [hmin] at hc
                unfold firstN at hc
                split at hc
                · unfold St.loadN at hc
                  split at hc
                  · cases hc
                  split at hc
                  · split at hc
                    · rw [(T.range_some _ _ _ _ hc).1]; simp
                    · cases hc
                  · cases hc
                · split at hc
                  · cases hc; rfl
                  · cases hc
                · cases hc; simp
                · cases hc
              · have hk : ¬ k' = 0 := by
                  intro e0
                  cases hop : p.opn with
                  | true => have := (q5 hop).1; omega
                  | false => have := q4 hop; omega
                have haddr : a' = ⟨p.blk, p.off + a.off, none⟩ := by
                  have hoff := q3.resolve_left hk
                  obtain ⟨ab, ao, as⟩ := a'
                  simp only [] at q1 q2 hoff
                  subst q1; subst q2; subst hoff
                  rfl
                subst haddr
                refine goal_val (Emb.ext_refl _ _) (by rw [r3]; exact Nat.le_refl _) r2 (.of_plainV rfl) ?_
                simp [Builtin.copy_, ok.run_und hu w, lenV_ok hl hsr, ok.run_size hs w, h2w, r1]
            · cases hf
      · cases hf
    · cases hf
  · cases hf

theorem bMin_ok (ok : EnvOk E P nm) (h : WR nm K base φ A w) {b : Builtin} {ts : List TypeId} {args : List Value} {args' : Array Value} {ty : TypeId} {cs : Array Bool} (ha : LR nm φ args args'.toList)
    (hb : b = .min ∨ b = .max) (hf : bMin E A b ts ty args = some (nx, A')) : Goal P nm K base φ A w (builtin b ts.toArray ty cs args') nx A' := by
  unfold bMin at hf
  split at hf
  · rename_i hp
    have : args' = args.toArray := by
      apply Array.ext'
      apply List.ext_getElem?
      intro i
      cases hx : args[i]? with
      | none =>
        have : args.length ≤ i := by
          rcases Nat.lt_or_ge i args.length with g | g
          · rw [List.getElem?_eq_getElem g] at hx; cases hx
          · exact g
        rw [List.getElem?_eq_none (by rw [← ha.1]; exact this)]
      | some x =>
        obtain ⟨y, hy, hr⟩ := ha.get? hx
        rw [hy]
        rw [hr.plainV_eq (List.all_eq_true.1 hp x (List.mem_of_getElem? hx))]
    subst this
    split at hf
    · rename_i v hr
      split at hf
      · rename_i hv
        cases hf
        rw [ok.prog] at hr
        refine ⟨φ, w, Emb.ext_refl _ _, Nat.le_refl _, h, v, .of_plainV hv, ?_⟩
        have := pureRun_ok _ _ hr w
        rcases hb with rfl | rfl <;> exact this
      · cases hf
    · cases hf
  · cases hf

theorem bPanic_ok (h : WR nm K base φ A w) {args : List Value} {args' : Array Value} (ha : LR nm φ args args'.toList)
    (hf : bPanic A args = some (nx, A')) : Goal P nm K base φ A w (Instr.panic (args'.getD 0 .nilIface) >>= fun x => pure (Next.value x)) nx A' := by
  unfold bPanic at hf
  split at hf
  · rename_i t v
    cases hf
    obtain ⟨x', rfl, hx⟩ := args1 ha
    cases hx with
    | iface t v v' hv => exact goal_pan h (.iface t v v' hv) rfl
  · cases hf

theorem bUnsafeSliceData_ok (h : WR nm K base φ A w) {ts : Array TypeId} {args : List Value} {args' : Array Value} {ty : TypeId} (ha : LR nm φ args args'.toList)
    (hf : bUnsafeSliceData A args = some (nx, A')) : Goal P nm K base φ A w (Builtin.unsafeSliceData_ ts ty args' >>= fun x => pure (Next.value x)) nx A' := by
  unfold bUnsafeSliceData at hf
  split at hf
  · cases hf
    obtain ⟨x', rfl, hx⟩ := args1 ha
    rw [hx.nils_inv]
    exact goal_here h .nilp rfl
  · rename_i a l c
    split at hf
    · cases hf
    · rename_i hc
      cases hf
      obtain ⟨x', rfl, hx⟩ := args1 ha
      obtain ⟨a', k', p, rfl, hp, hsp, q1, q2, q3, q4, q5, q6⟩ := hx.slc_inv
      have hk : ¬ k' = 0 := by
        intro e0
        cases hop : p.opn with
        | true => have := (q5 hop).1; omega
        | false => have := q4 hop; omega
      have haddr : a' = ⟨p.blk, p.off + a.off, none⟩ := by
        have hoff := q3.resolve_left hk
        obtain ⟨ab, ao, as⟩ := a'
        simp only [] at q1 q2 hoff
        subst q1; subst q2; subst hoff
        rfl
      subst haddr
      refine goal_here h (.ptr a p hp hsp) ?_
      show ((if k' ≠ 0 then pure (Value.pointer (some ⟨p.blk, p.off + a.off, none⟩)) else _ : Sem Value)).run P w = _
      rw [if_pos hk]; rfl
  · cases hf
end
end Go.AM
