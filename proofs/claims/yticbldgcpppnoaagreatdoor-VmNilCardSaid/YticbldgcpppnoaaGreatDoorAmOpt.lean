/- The operations, fifth part: slices, fields, elements. -/
import Derived.Test.YticbldgcpppnoaaGreatDoorAmOps
namespace Go.AM
section
variable {E : Env} {P : Program} {nm : Nm} {K : Kp} {base : World} {φ : Emb} {A A' : St} {w : World} {ρ ρ' : Operand → Value} {nx : Nx}

theorem add_eq {p : Pl} {a : Addr} (n : Nat) : (⟨p.blk, p.off + a.off, none⟩ : Addr).add n = ⟨p.blk, p.off + (addA a n).off, none⟩ := by
  rw [add_mk]; simp [addA, Nat.add_assoc]

theorem opn_of (h : WR nm K base φ A w) {b : Nat} {r : Row} {p : Pl} (hr : A.row? b = some r) (hp : φ b = some p) : p.opn = r.opn ∧ (r.opn = true → p.esz = r.esz) := by
  obtain ⟨q, hq, ⟨cs, fz, ho⟩, _⟩ := h.obj b _ (row?_some hr) rfl
  rw [hp] at hq; cases hq
  exact ⟨ho.opn, ho.esz⟩

theorem sliceOp_ok (ok : EnvOk E P nm) (h : WR nm K base φ A w) (t : TypeId) {x x' : Value} {lo hi mx lo' hi' mx' : Option Value} {v : Value} (hx : VR nm φ x x')
    (h1 : OVR nm φ lo lo') (h2 : OVR nm φ hi hi') (h3 : OVR nm φ mx mx') (hs : sliceOp E A t x lo hi mx = some v) :
    ∃ v', VR nm φ v v' ∧ (Instr.sliceAt t x' lo' hi' mx').run P w = .ok v' w := by
  unfold sliceOp at hs
  split at hs
  · cases hs
  rename_i hmh
  have hmh : mx.isSome = true → hi.isSome = true := by
    intro e
    cases hi with
    | some _ => rfl
    | none => exact absurd (by simp [e]) hmh
  split at hs
  · rename_i s hu
    split at hs
    · cases hs
    · split at hs
      · rename_i hh bh
        split at hs
        · rename_i l bl
          cases hs
          rw [hx.str_inv]
          obtain ⟨m', g1, _, _, g4, g5⟩ := bounds_ok (P := P) (w := w) (b := false) (mx := none) (mx' := mx') h1 h2 h3 (Nat.le_refl s.size) (Nat.le_refl _) (fun e => by cases e) rfl bh bl
          cases mx' with
          | some _ => exact h3.elim
          | none => exact ⟨_, .str _, by simp [Instr.sliceAt, Instr.slice, ok.run_und hu w, g1]⟩
        · cases hs
      · cases hs
  · rename_i e len cap hu
    split at hs
    · rename_i sz hsz hle
      split at hs
      · rename_i m bm
        split at hs
        · rename_i hh bh
          split at hs
          · rename_i l bl
            cases hs
            rw [hx.nils_inv]
            obtain ⟨m', g1, g2, g3, g4, g5⟩ := bounds_ok (P := P) (w := w) (b := true) h1 h2 h3 (Nat.le_refl cap) (Nat.le_of_ble_eq_true hle) hmh bm bh bl
            have hm' : m' = m := by
              cases mx with
              | none => obtain ⟨e1, e2⟩ := g2 rfl; omega
              | some _ => exact g3 (by simp)
            subst hm'
            refine ⟨.slice none (hh - l) (m' - l), .nils _ _, ?_⟩
            simp only [Instr.sliceAt, Sem.run_bind, ok.run_und hu w, Result.andThen_ok, Instr.slice, g1, ok.run_size hsz w, Sem.run_pure]
            split <;> rfl
          · cases hs
        · cases hs
      · cases hs
    · cases hs
  · rename_i e a len cap hu
    split at hs
    · rename_i r sz hr hsz
      split at hs
      · rename_i m bm
        split at hs
        · rename_i hh bh
          split at hs
          · rename_i l bl
            obtain ⟨a', k', p, rfl, hp, hsp, q1, q2, q3, q4, q5, q6⟩ := hx.slc_inv
            obtain ⟨ho1, ho2⟩ := opn_of h hr hp
            have haddr : a' = ⟨p.blk, a'.off, none⟩ := by cases a'; simp only [] at q1 q2; simp [q1, q2]
            split at hs
            · rename_i hopn
              rw [hopn] at ho1
              split at hs
              · cases hs
              · rename_i hc
                simp only [bne_iff_ne, ne_eq, Decidable.not_not] at hc
                have hc2 := hc
                cases hs
                obtain ⟨q5a, q5b⟩ := q5 ho1
                obtain ⟨m', g1, g2, g3, g4, g5⟩ := bounds_ok (P := P) (w := w) (b := true) h1 h2 h3 q5a q6 hmh bm bh bl
                have hmm : m ≤ m' ∧ m' ≤ k' := by
                  cases mx with
                  | none => obtain ⟨e1, e2⟩ := g2 rfl; omega
                  | some vm =>
                    have e1 := g3 (by simp)
                    simp only [optBound] at bm
                    have := (bound_ok (P := P) (w := w) (c := .index) (show VR nm φ vm (mx'.getD undef) from by cases mx' with | none => exact h3.elim | some v => exact h3) bm (Nat.le_refl _)).2
                    omega
                have hesz : p.esz = sz := (ho2 hopn).trans hc2
                refine ⟨.slice (some (if m' = l then a' else a'.add (l * sz))) (hh - l) (m' - l), ?_, ?_⟩
                · refine .slc (addA a (l * sz)) _ _ _ _ p (by simpa [addA] using hp) rfl ?_ ?_ ?_ (fun e => by rw [ho1] at e; cases e) (fun _ => ⟨by omega, ?_⟩) (by omega)
                  · split
                    · exact q1
                    · rw [haddr, add_mk]
                  · split
                    · exact q2
                    · rw [haddr, add_mk]
                  · split
                    · left; omega
                    · right
                      rcases q3 with q3 | q3
                      · omega
                      · rw [haddr, add_mk]; simp [addA, q3, Nat.add_assoc]
                  · rw [hesz] at q5b ⊢
                    have hmul := Nat.mul_le_mul_right sz hmm.2
                    split
                    · rename_i e2; subst e2; simp; omega
                    · have hl : l ≤ m' := by omega
                      rw [haddr, add_mk]
                      have : (m' - l) * sz + l * sz = m' * sz := by rw [← Nat.add_mul]; congr 1; omega
                      simp only []
                      omega
                · simp only [Instr.sliceAt, Sem.run_bind, ok.run_und hu w, Result.andThen_ok, Instr.slice, g1, ok.run_size hsz w, Sem.run_pure]
                  split <;> rfl
            · rename_i hopn
              rw [hopn] at ho1
              cases hs
              have hk := q4 ho1
              subst hk
              obtain ⟨m', g1, g2, g3, g4, g5⟩ := bounds_ok (P := P) (w := w) (b := true) h1 h2 h3 (Nat.le_refl k') q6 hmh bm bh bl
              have hm' : m' = m := by
                cases mx with
                | none => obtain ⟨e1, e2⟩ := g2 rfl; omega
                | some _ => exact g3 (by simp)
              subst hm'
              refine ⟨.slice (some (if m' = l then a' else a'.add (l * sz))) (hh - l) (m' - l), ?_, ?_⟩
              · split
                · rename_i e2
                  refine .slc a a' _ _ _ p hp hsp q1 q2 (.inl (by omega)) (fun _ => rfl) (fun e => by rw [ho1] at e; cases e) (by omega)
                · rename_i e2
                  refine .slc (addA a (l * sz)) _ _ _ _ p (by simpa [addA] using hp) rfl ?_ ?_ ?_ (fun _ => rfl) (fun e => by rw [ho1] at e; cases e) (by omega)
                  · rw [haddr, add_mk]
                  · rw [haddr, add_mk]
                  · right
                    rcases q3 with q3 | q3
                    · subst q3
                      have : l ≤ 0 := by
                        have : hh ≤ 0 := by
                          cases mx with
                          | none => obtain ⟨e3, e4⟩ := g2 rfl; omega
                          | some _ =>
                            simp only [optBound] at bm
                            have := (bound_ok (P := P) (w := w) (c := .index) (show VR nm φ _ (mx'.getD undef) from by cases mx' with | none => exact h3.elim | some v => exact h3) bm (Nat.le_refl _)).2
                            omega
                        omega
                      have hm0 : m' = 0 := by
                        cases mx with
                        | none => obtain ⟨e3, e4⟩ := g2 rfl; omega
                        | some _ =>
                          simp only [optBound] at bm
                          have := (bound_ok (P := P) (w := w) (c := .index) (show VR nm φ _ (mx'.getD undef) from by cases mx' with | none => exact h3.elim | some v => exact h3) bm (Nat.le_refl _)).2
                          omega
                      exact absurd (by omega) e2
                    · rw [haddr, add_mk]; simp [addA, q3, Nat.add_assoc]
              · simp only [Instr.sliceAt, Sem.run_bind, ok.run_und hu w, Result.andThen_ok, Instr.slice, g1, ok.run_size hsz w, Sem.run_pure]
                split <;> rfl
          · cases hs
        · cases hs
      · cases hs
    · cases hs
  · rename_i n e a hu
    split at hs
    · rename_i r sz hr hsz
      split at hs
      · cases hs
      · rename_i hopn
        split at hs
        · rename_i m bm
          split at hs
          · rename_i hh bh
            split at hs
            · rename_i l bl
              cases hs
              obtain ⟨p, hp, hsp, rfl⟩ := hx.ptr_inv
              obtain ⟨ho1, ho2⟩ := opn_of h hr hp
              rw [hopn] at ho1
              obtain ⟨m', g1, g2, g3, g4, g5⟩ := bounds_ok (P := P) (w := w) (b := false) h1 h2 h3 (Nat.le_refl n) (Nat.le_refl n) hmh bm bh bl
              have hm' : m' = m := by
                cases mx with
                | none => obtain ⟨e1, e2⟩ := g2 rfl; omega
                | some _ => exact g3 (by simp)
              subst hm'
              refine ⟨.slice (some (if m' = l then ⟨p.blk, p.off + a.off, none⟩ else (⟨p.blk, p.off + a.off, none⟩ : Addr).add (l * sz))) (hh - l) (m' - l), ?_, ?_⟩
              · split
                · refine .slc a ⟨p.blk, p.off + a.off, none⟩ _ _ _ p hp hsp rfl rfl (.inr rfl) (fun _ => rfl) (fun e => by rw [ho1] at e; cases e) (by omega)
                · rw [add_eq]
                  refine .slc (addA a (l * sz)) _ _ _ _ p (by simpa [addA] using hp) rfl rfl rfl (.inr rfl) (fun _ => rfl) (fun e => by rw [ho1] at e; cases e) (by omega)
              · simp only [Instr.sliceAt, Sem.run_bind, ok.run_und hu w, Result.andThen_ok, Instr.sureAddr, Sem.run_pure, g1, ok.run_size hsz w]
            · cases hs
          · cases hs
        · cases hs
    · cases hs
  · cases hs

theorem xSlice_ok (ok : EnvOk E P nm) (h : WR nm K base φ A w) (t : TypeId) (x : Operand) (lo hi mx : Option Operand) (hv : VR nm φ (ρ x) (ρ' x))
    (h1 : ∀ y, lo = some y → VR nm φ (ρ y) (ρ' y)) (h2 : ∀ y, hi = some y → VR nm φ (ρ y) (ρ' y)) (h3 : ∀ y, mx = some y → VR nm φ (ρ y) (ρ' y)) (hx : xSlice E A ρ t x lo hi mx = some (nx, A')) :
    Goal P nm K base φ A w (Instr.sliceAt t (ρ' x) (lo.map ρ') (hi.map ρ') (mx.map ρ') >>= fun x => pure (Next.value x)) nx A' := by
  unfold xSlice at hx
  split at hx
  · rename_i v hs
    cases hx
    obtain ⟨v', g1, g2⟩ := sliceOp_ok ok h t hv (OVR.map lo h1) (OVR.map hi h2) (OVR.map mx h3) hs
    exact goal_here h g1 g2
  · cases hx

theorem xFieldAddr_ok (ok : EnvOk E P nm) (h : WR nm K base φ A w) (s : TypeId) (x : Operand) (f : Nat) (hv : VR nm φ (ρ x) (ρ' x)) (hx : xFieldAddr E A ρ s x f = some (nx, A')) :
    Goal P nm K base φ A w (Instr.fieldAt s (ρ' x) f >>= fun x => pure (Next.value x)) nx A' := by
  unfold xFieldAddr at hx
  split at hx
  · rename_i fs a hu hr
    split at hx
    · rename_i fd hf
      split at hx
      · rename_i n hn
        split at hx
        · cases hx
        · rename_i hn0
          cases hx
          rw [hr] at hv
          obtain ⟨p, hp, hsp, e⟩ := hv.ptr_inv
          refine goal_here h (.ptr (addA a fd.offset) p (by simpa [addA] using hp) rfl) ?_
          simp only [Instr.fieldAt, Sem.run_bind, ok.run_und hu w, Result.andThen_ok, hf, e, Instr.sureAddr, Sem.run_pure, fieldPlace, ok.run_size hn w]
          rw [if_neg hn0, add_eq]
          rfl
      · cases hx
    · cases hx
  · cases hx

theorem xIndexAddr_ok (ok : EnvOk E P nm) (h : WR nm K base φ A w) (t : TypeId) (x ix : Operand) (hv : VR nm φ (ρ x) (ρ' x)) (hi : VR nm φ (ρ ix) (ρ' ix)) (hx : xIndexAddr E A ρ t x ix = some (nx, A')) :
    Goal P nm K base φ A w (Instr.indexAt t (ρ' x) (ρ' ix) >>= fun x => pure (Next.value x)) nx A' := by
  unfold xIndexAddr at hx
  split at hx
  · rename_i e a len cap k i hu hr hri
    split at hx
    · rename_i s hs
      split at hx
      · rename_i hc
        cases hx
        rw [hr] at hv; rw [hri] at hi
        obtain ⟨a', k', p, e1, hp, hsp, q1, q2, q3, q4, q5, q6⟩ := hv.slc_inv
        have haddr : a' = ⟨p.blk, p.off + a.off, none⟩ := by
          cases a'; simp only [] at q1 q2 q3
          have : ¬ k' = 0 := by
            intro e
            cases ho : p.opn with
            | true => have := (q5 ho).1; omega
            | false => have := q4 ho; omega
          simp [q1, q2, q3.resolve_left this]
        refine goal_here h (.ptr (addA a (i.toNat * s)) p (by simpa [addA] using hp) rfl) ?_
        simp only [Instr.indexAt, Sem.run_bind, ok.run_und hu w, Result.andThen_ok, e1, hi.int_inv, asIntOf, Sem.run_pure]
        rw [if_pos ⟨hc.1, hc.2.1⟩]
        simp only [Sem.run_bind, ok.run_size hs w, Result.andThen_ok, Sem.run_pure]
        rw [haddr, add_eq]
      · cases hx
    · cases hx
  · rename_i len e a k i hu hr hri
    split at hx
    · rename_i s hs
      split at hx
      · rename_i hc
        cases hx
        rw [hr] at hv; rw [hri] at hi
        obtain ⟨p, hp, hsp, e1⟩ := hv.ptr_inv
        refine goal_here h (.ptr (addA a (i.toNat * s)) p (by simpa [addA] using hp) rfl) ?_
        simp only [Instr.indexAt, Sem.run_bind, ok.run_und hu w, Result.andThen_ok, e1, hi.int_inv, asIntOf, Sem.run_pure, Instr.sureAddr]
        rw [if_pos ⟨hc.1, hc.2.1⟩]
        simp only [Sem.run_bind, ok.run_size hs w, Result.andThen_ok, Sem.run_pure]
        rw [add_eq]
      · cases hx
    · cases hx
  · cases hx

theorem bytes_get (s : ByteArray) (i : Nat) : s[i]? = s.data.toList[i]? := by
  rw [Array.getElem?_toList]
  rfl

theorem xIndex_ok (ok : EnvOk E P nm) (h : WR nm K base φ A w) (t : TypeId) (x ix : Operand) (hv : VR nm φ (ρ x) (ρ' x)) (hi : VR nm φ (ρ ix) (ρ' ix)) (hx : xIndex E A ρ t x ix = some (nx, A')) :
    Goal P nm K base φ A w (Instr.index t (ρ' x) (ρ' ix) >>= fun x => pure (Next.value x)) nx A' := by
  unfold xIndex at hx
  split at hx
  · rename_i s k i hu hr hri
    split at hx
    · rename_i hc
      split at hx
      · rename_i b hb
        cases hx
        rw [hr] at hv; rw [hri] at hi
        refine goal_here h (.int _ _) ?_
        simp only [Instr.index, Sem.run_bind, ok.run_und hu w, Result.andThen_ok, hv.str_inv, hi.int_inv, asIntOf, Sem.run_pure]
        rw [if_pos hc, bytes_get, hb]
        rfl
      · cases hx
    · cases hx
  · rename_i len e cs k i hu hr hri
    split at hx
    · rename_i s hs
      split at hx
      · rename_i hc
        split at hx
        · rename_i v hp
          cases hx
          rw [hr] at hv; rw [hri] at hi
          obtain ⟨cs', e1, e2⟩ := hv.agg_inv
          obtain ⟨v', g1, g2⟩ := getPart_ok (w := w) ok e2 hp
          refine goal_here h g1 ?_
          simp only [Instr.index, Sem.run_bind, ok.run_und hu w, Result.andThen_ok, e1, hi.int_inv, asIntOf, Sem.run_pure]
          rw [if_pos hc]
          simp only [Sem.run_bind, ok.run_size hs w, Result.andThen_ok]
          exact g2
        · cases hx
      · cases hx
    · cases hx
  · cases hx
end
end Go.AM

namespace Go.AM
section
variable {E : Env} {P : Program} {nm : Nm} {K : Kp} {base : World} {φ : Emb} {A A' : St} {w : World} {ρ ρ' : Operand → Value} {nx : Nx}

theorem EntR.nil : EntR nm φ [] [] := ⟨rfl, fun i e c h => by simp at h⟩
theorem EntR.cons_inv {e : MapEntry} {es ces : List MapEntry} (h : EntR nm φ (e :: es) ces) :
    ∃ c cs, ces = c :: cs ∧ plainV e.key = true ∧ c.key = e.key ∧ c.born = e.born ∧ VR nm φ e.val c.val ∧ EntR nm φ es cs := by
  cases ces with
  | nil => exact absurd h.1 (by simp)
  | cons c cs =>
    obtain ⟨a, b, d, f⟩ := h.2 0 e c (by simp) (by simp)
    exact ⟨c, cs, rfl, a, b, d, f, by simpa using h.1, fun i e' c' h1 h2 => h.2 (i + 1) e' c' (by simpa using h1) (by simpa using h2)⟩
theorem EntR.get? {es ces : List MapEntry} (h : EntR nm φ es ces) {i : Nat} {e : MapEntry} (he : es[i]? = some e) :
    ∃ c, ces[i]? = some c ∧ plainV e.key = true ∧ c.key = e.key ∧ c.born = e.born ∧ VR nm φ e.val c.val := by
  have hi : i < es.length := by
    rcases Nat.lt_or_ge i es.length with g | g
    · exact g
    · rw [List.getElem?_eq_none g] at he; cases he
  have hc := List.getElem?_eq_getElem (show i < ces.length by rw [← h.1]; exact hi)
  obtain ⟨a, b, d, f⟩ := h.2 i e _ he hc
  exact ⟨_, hc, a, b, d, f⟩

theorem bytes_beq (a b : ByteArray) : (a == b) = decide (a = b) := by
  show (a.data == b.data) = _
  by_cases h : a = b
  · subst h; simp
  · have : ¬ a.data = b.data := fun e => h (by cases a; cases b; simp only [] at e; rw [e])
    simp [h, this]

theorem findE_ok {kd : TypeDesc} {k : Value} (hk : keyOk kd k = true) : ∀ (es ces : List MapEntry) (i : Nat) (r : Option (Nat × Value)), EntR nm φ es ces → findE k es i = some r →
    ∃ r', Instr.findNow kd k ces i = some r' ∧
      (match r with
       | none => r' = none
       | some (j, v) => ∃ v', r' = some (j, v') ∧ VR nm φ v v' ∧ i ≤ j ∧ ∃ e, es[j - i]? = some e ∧ e.key = k ∧ e.val = v)
  | [], ces, i, r, h, hf => by
    have : ces = [] := by have := h.1; simpa using this.symm
    subst this
    simp only [findE, Option.some.injEq] at hf; subst hf
    exact ⟨none, rfl, rfl⟩
  | e :: es, ces, i, r, h, hf => by
    obtain ⟨c, cs, rfl, h1, h2, h3, h4, h5⟩ := h.cons_inv
    have next : ∀ r, findE k es (i + 1) = some r → Instr.sameNow kd k c.key = some false →
        ∃ r', Instr.findNow kd k (c :: cs) i = some r' ∧
          (match r with
           | none => r' = none
           | some (j, v) => ∃ v', r' = some (j, v') ∧ VR nm φ v v' ∧ i ≤ j ∧ ∃ e', (e :: es)[j - i]? = some e' ∧ e'.key = k ∧ e'.val = v) := by
      intro r hf hs
      obtain ⟨r', g1, g2⟩ := findE_ok hk es cs (i + 1) r h5 hf
      refine ⟨r', by simp [Instr.findNow, hs, g1], ?_⟩
      cases r with
      | none => exact g2
      | some q =>
        obtain ⟨j, v⟩ := q
        obtain ⟨v', e1, e2, e3, e', e4, e5, e6⟩ := g2
        refine ⟨v', e1, e2, by omega, e', ?_, e5, e6⟩
        rw [show j - i = (j - (i + 1)) + 1 from by omega, List.getElem?_cons_succ]
        exact e4
    have here : ∀ r, (some (some (i, e.val)) : Option (Option (Nat × Value))) = some r → e.key = k → Instr.sameNow kd k c.key = some true →
        ∃ r', Instr.findNow kd k (c :: cs) i = some r' ∧
          (match r with
           | none => r' = none
           | some (j, v) => ∃ v', r' = some (j, v') ∧ VR nm φ v v' ∧ i ≤ j ∧ ∃ e', (e :: es)[j - i]? = some e' ∧ e'.key = k ∧ e'.val = v) := by
      intro r hr hk' hs
      simp only [Option.some.injEq] at hr; subst hr
      refine ⟨some (i, c.val), by simp [Instr.findNow, hs], c.val, rfl, h4, Nat.le_refl _, e, by simp, hk', rfl⟩
    simp only [findE] at hf
    cases kd <;> cases k <;> simp only [keyOk] at hk <;> first | (cases hk; done) | skip
    · -- bool
      rename_i b
      cases hek : e.key <;> simp only [hek] at hf <;> first | (cases hf; done) | skip
      rename_i b'
      split at hf
      · rename_i hb; subst hb
        exact here r hf hek (by rw [h2, hek]; simp [Instr.sameNow])
      · rename_i hb
        exact next r hf (by rw [h2, hek]; simp [Instr.sameNow, hb])
    · -- int
      rename_i k0 kk n
      cases hek : e.key <;> simp only [hek] at hf <;> first | (cases hf; done) | skip
      rename_i kk' n'
      split at hf
      · rename_i hkk; subst hkk
        split at hf
        · rename_i hn; subst hn
          exact here r hf hek (by rw [h2, hek]; simp [Instr.sameNow])
        · rename_i hn
          exact next r hf (by rw [h2, hek]; simp [Instr.sameNow, hn])
      · cases hf
    · -- string
      rename_i s
      cases hek : e.key <;> simp only [hek] at hf <;> first | (cases hf; done) | skip
      rename_i s'
      split at hf
      · rename_i hs
        have hs' : s = s' := by
          cases s; cases s'; simp only [ByteArray.mk.injEq]; exact Array.ext' hs
        subst hs'
        exact here r hf hek (by rw [h2, hek]; simp only [Instr.sameNow]; rw [bytes_beq, decide_eq_true rfl])
      · rename_i hs
        have hs' : (s == s') = false := by
          rw [bytes_beq]; exact decide_eq_false (fun e => hs (by rw [e]))
        exact next r hf (by rw [h2, hek]; simp [Instr.sameNow, hs'])

theorem keyOk_plain {kd : TypeDesc} {k : Value} (hk : keyOk kd k = true) : plainV k = true := by
  cases kd <;> cases k <;> simp only [keyOk] at hk <;> first | (cases hk; done) | rfl

theorem run_checkKey (ok : EnvOk E P nm) {kt : TypeId} {kd : TypeDesc} {k : Value} (hu : E.und kt = some kd) (hk : keyOk kd k = true) (b : Bool) (n : Nat) : (Instr.checkKey b (n + 1) kt k).run P w = .ok () w := by
  simp only [Instr.checkKey, Sem.run_bind, ok.run_und hu w, Result.andThen_ok]
  cases kd <;> cases k <;> simp only [keyOk] at hk <;> first | (cases hk; done) | rfl
theorem run_checkKey' (ok : EnvOk E P nm) {kt : TypeId} {kd : TypeDesc} {k : Value} (hu : E.und kt = some kd) (hk : keyOk kd k = true) (b : Bool) : (Instr.checkKey b 10000 kt k).run P w = .ok () w :=
  run_checkKey ok hu hk b 9999

theorem run_findKey (ok : EnvOk E P nm) {kt : TypeId} {kd : TypeDesc} {k : Value} {ces : List MapEntry} {r : Option (Nat × Value)} (hu : E.und kt = some kd) (hf : Instr.findNow kd k ces 0 = some r) :
    (Instr.findKey kt k ces).run P w = .ok r w := by
  simp only [Instr.findKey, Sem.run_bind, ok.run_und hu w, Result.andThen_ok, hf, Sem.run_pure]

theorem run_getObj {r : Nat} {o : Obj} (h : w.heap[r]? = some o) (hn : ∀ a b c, o ≠ .cells a b c) : (getObj r).run P w = .ok o w := by
  cases o <;> first | (exact absurd rfl (hn _ _ _)) | simp [getObj, Sem.run, h]
theorem run_setObj {r : Nat} {o o' : Obj} (h : w.heap[r]? = some o) (hn : ∀ a b c, o ≠ .cells a b c) : (setObj r o').run P w = .ok () (putO w r o') := by
  cases o <;> first | (exact absurd rfl (hn _ _ _)) | (simp [setObj, Sem.run, h, putO])

theorem map_at (h : WR nm K base φ A w) {r : Nat} {es : List MapEntry} {c : Nat} {p : Pl} (hr : A.h.get r = some (.map es c)) (hp : φ r = some p) :
    ∃ ces : Array MapEntry, w.heap[p.blk]? = some (.map ces c) ∧ EntR nm φ es ces.toList := by
  obtain ⟨q, hq, ho, _⟩ := h.obj r _ hr rfl
  rw [hp] at hq; cases hq
  exact ho

theorem xLookup_ok (ok : EnvOk E P nm) (h : WR nm K base φ A w) (t : TypeId) (m ix : Operand) (cok : Bool) (hm : VR nm φ (ρ m) (ρ' m)) (hi : VR nm φ (ρ ix) (ρ' ix))
    (hx : xLookup E A ρ t m ix cok = some (nx, A')) : Goal P nm K base φ A w (Instr.lookup t (ρ' m) (ρ' ix) cok >>= fun x => pure (Next.value x)) nx A' := by
  unfold xLookup at hx
  split at hx
  · rename_i kt et hu
    split at hx
    · rename_i kd z hkd hz
      split at hx
      · rename_i hk
        have hix := hi.plainV_eq (keyOk_plain hk)
        have fin : ∀ (es : List MapEntry) (ces : Array MapEntry), EntR nm φ es ces.toList →
            (match findE (ρ ix) es 0 with
              | some (some (_, v)) => some (Nx.val (if cok then .tuple #[v, .bool true] else v), A)
              | some none => some (.val (if cok then .tuple #[z, .bool false] else z), A)
              | none => none) = some (nx, A') →
            A' = A ∧ ((∃ j v v', (Instr.findKey kt (ρ ix) ces.toList).run P w = .ok (some (j, v')) w ∧ VR nm φ v v' ∧ nx = .val (if cok then .tuple #[v, .bool true] else v)) ∨
              ((Instr.findKey kt (ρ ix) ces.toList).run P w = .ok none w ∧ nx = .val (if cok then .tuple #[z, .bool false] else z))) := by
          intro es ces hent hr
          cases hf : findE (ρ ix) es 0 with
          | none => simp [hf] at hr
          | some r =>
            obtain ⟨r', g1, g2⟩ := findE_ok hk es ces.toList 0 r hent hf
            have hfk := run_findKey (w := w) ok hkd g1
            simp only [hf] at hr
            cases r with
            | none =>
              simp only [] at hr g2
              cases hr
              subst g2
              exact ⟨rfl, .inr ⟨hfk, rfl⟩⟩
            | some q =>
              obtain ⟨j, u⟩ := q
              simp only [] at hr
              cases hr
              obtain ⟨v', e1, e2, _⟩ := g2
              subst e1
              exact ⟨rfl, .inl ⟨j, u, v', hfk, e2, rfl⟩⟩
        simp only [] at hx
        revert hx hm
        generalize ρ m = mv
        generalize ρ' m = mv'
        intro hm hx
        cases mv with
        | map r =>
          cases r with
          | none =>
            cases hm
            obtain ⟨g0, g⟩ := fin [] #[] .nil hx
            subst g0
            rcases g with ⟨j, v, v', g1, g2, rfl⟩ | ⟨g1, rfl⟩
            · refine goal_here h (v' := if cok then .tuple #[v', .bool true] else v') ?_ ?_
              · cases cok
                · exact g2
                · exact .tuple' (.cons g2 (.cons (.bool _) .nil))
              · simp only [] at g1
                simp [Instr.lookup, ok.run_und hu w, hix, run_checkKey' ok hkd hk, g1]
            · refine goal_here h (v' := if cok then .tuple #[z, .bool false] else z) ?_ ?_
              · cases cok
                · exact .of_plainV (zero_plain hz)
                · exact .tuple' (.cons (.of_plainV (zero_plain hz)) (.cons (.bool _) .nil))
              · simp only [] at g1
                simp [Instr.lookup, ok.run_und hu w, hix, run_checkKey' ok hkd hk, g1, ok.run_zero hz w]
          | some r =>
            obtain ⟨p, hp, rfl⟩ := hm.map_inv
            simp only [] at hx
            cases hr : A.h.get r with
            | none => simp [hr] at hx
            | some o =>
              cases o with
              | map es c =>
                simp only [hr] at hx
                obtain ⟨ces, hc, hent⟩ := map_at h hr hp
                obtain ⟨g0, g⟩ := fin es ces hent hx
                subst g0
                have hgo := run_getObj (P := P) hc (by simp)
                rcases g with ⟨j, v, v', g1, g2, rfl⟩ | ⟨g1, rfl⟩
                · refine goal_here h (v' := if cok then .tuple #[v', .bool true] else v') ?_ ?_
                  · cases cok
                    · exact g2
                    · exact .tuple' (.cons g2 (.cons (.bool _) .nil))
                  · simp [Instr.lookup, ok.run_und hu w, hix, run_checkKey' ok hkd hk, g1, hgo]
                · refine goal_here h (v' := if cok then .tuple #[z, .bool false] else z) ?_ ?_
                  · cases cok
                    · exact .of_plainV (zero_plain hz)
                    · exact .tuple' (.cons (.of_plainV (zero_plain hz)) (.cons (.bool _) .nil))
                  · simp [Instr.lookup, ok.run_und hu w, hix, run_checkKey' ok hkd hk, g1, hgo, ok.run_zero hz w]
              | _ => simp [hr] at hx
        | _ => simp at hx
      · cases hx
    · cases hx
  · cases hx

/-- Entries changed, or one more. -/
theorem EntR.modify {es ces : List MapEntry} (h : EntR nm φ es ces) (i : Nat) {v v' : Value} (hv : VR nm φ v v') (f : MapEntry → MapEntry) (hf : ∀ e c : MapEntry, es[i]? = some e → ces[i]? = some c → f c = { c with key := e.key, val := v' }) :
    EntR nm φ (es.modify i fun e => { e with val := v }) (ces.modify i f) := by
  refine ⟨by simp [h.1], fun j e c h1 h2 => ?_⟩
  rw [List.getElem?_modify] at h1 h2
  cases he : es[j]? with
  | none => simp [he] at h1
  | some e0 =>
    obtain ⟨c0, hc0, a, b, d, g⟩ := h.get? he
    by_cases hij : i = j
    · subst hij
      simp only [if_true, he, Option.map_some, Option.some.injEq, Functor.map] at h1
      simp only [if_true, hc0, Option.map_some, Option.some.injEq, Functor.map] at h2
      rw [hf e0 c0 he hc0] at h2
      subst h1; subst h2
      exact ⟨a, rfl, d, hv⟩
    · simp only [hij, if_false, he, Option.map_some, Option.some.injEq, Functor.map] at h1
      simp only [hij, if_false, hc0, Option.map_some, Option.some.injEq, Functor.map] at h2
      subst h1; subst h2
      exact ⟨a, b, d, g⟩
theorem EntR.push {es ces : List MapEntry} (h : EntR nm φ es ces) {k v v' : Value} (n : Nat) (hk : plainV k = true) (hv : VR nm φ v v') :
    EntR nm φ (es ++ [{ key := k, val := v, born := n }]) (ces ++ [{ key := k, val := v', born := n }]) := by
  refine ⟨by simp [h.1], fun j e c h1 h2 => ?_⟩
  rw [List.getElem?_append] at h1 h2
  rw [← h.1] at h2
  split at h1
  · rename_i hj
    rw [if_pos hj] at h2
    exact h.2 j e c h1 h2
  · rename_i hj
    rw [if_neg hj] at h2
    cases hq : j - es.length with
    | zero =>
      rw [hq] at h1 h2
      simp at h1 h2
      subst h1; subst h2
      exact ⟨hk, rfl, rfl, hv⟩
    | succ q => rw [hq] at h1; simp at h1

theorem sameBits_refl {kd : TypeDesc} {k : Value} (hk : keyOk kd k = true) (n : Nat) : Instr.sameBits n k k = true := by
  cases kd <;> cases k <;> simp only [keyOk] at hk <;> first | (cases hk; done) | skip
  · simp [Instr.sameBits]
  · simp [Instr.sameBits]
  · simp only [Instr.sameBits]; rw [bytes_beq]; simp

theorem run_keyThatStays {kd : TypeDesc} {k : Value} (hk : keyOk kd k = true) : (Instr.keyThatStays k k).run P w = .ok k w := by
  simp only [Instr.keyThatStays]
  rw [if_pos (sameBits_refl hk 10000)]
  rfl

theorem xMapUpdate_ok (ok : EnvOk E P nm) (h : WR nm K base φ A w) (t : TypeId) (m k x : Operand) (hm : VR nm φ (ρ m) (ρ' m)) (hk : VR nm φ (ρ k) (ρ' k)) (hv : VR nm φ (ρ x) (ρ' x))
    (hx : xMapUpdate E A ρ t m k x = some (nx, A')) : Goal P nm K base φ A w (Instr.mapUpdate t (ρ' m) (ρ' k) (ρ' x) >>= fun _ => pure Next.skip) nx A' := by
  unfold xMapUpdate at hx
  split at hx
  · rename_i kt et r hu hr
    split at hx
    · rename_i kd es c hkd hes
      split at hx
      · rename_i hkk
        split at hx
        · rename_i es' c' hput
          cases hx
          have hkx := hk.plainV_eq (keyOk_plain hkk)
          rw [hr] at hm
          obtain ⟨p, hp, e⟩ := hm.map_inv
          obtain ⟨ces, hc, hent⟩ := map_at h hes hp
          have hgo := run_getObj (P := P) hc (by simp)
          have hlt := h.lt _ _ hp
          have step : ∀ (o : Obj) (ces' : Array MapEntry), o = .map ces' c' → EntR nm φ es' ces'.toList → WR nm K base φ (A.setObj r (.map es' c')) (putO w p.blk o) := by
            intro o ces' ho he
            subst ho
            exact h.setObj (o := .map es c) (o' := .map es' c') hes rfl rfl (by simp) (by simp) rfl hp ⟨ces', putO_same w _ hlt, he⟩
          unfold mapPut at hput
          split at hput
          · rename_i i v hf
            cases hput
            obtain ⟨r', g1, g2⟩ := findE_ok hkk es ces.toList 0 _ hent hf
            obtain ⟨v', e1, e2, e3, e0, e4, e5, e6⟩ := g2
            subst e1
            have hfk := run_findKey (w := w) ok hkd g1
            rw [Nat.sub_zero] at e4
            obtain ⟨c0, hc0, _, hkey, _, _⟩ := hent.get? e4
            have hck : c0.key = ρ k := hkey.trans e5
            refine goal_skip (A' := A.setObj r (.map (es.modify i fun e => { e with val := ρ x }) c)) (w' := putO w p.blk (.map (ces.modify i fun e => { e with key := ρ k, val := ρ' x }) c)) rfl ?_ ?_
            · refine step _ _ rfl ?_
              rw [Array.toList_modify]
              exact hent.modify i hv _ (fun e1 c1 he1 hc1 => by rw [e4] at he1; cases he1; rw [e5])
            · have hc0' : ces[i]? = some c0 := by simpa using hc0
              simp [Instr.mapUpdate, ok.run_und hu w, e, hgo, hkx, run_checkKey' ok hkd hkk, hfk, hc0', hck, run_keyThatStays hkk, run_setObj hc (by simp)]
          · rename_i hf
            cases hput
            obtain ⟨r', g1, g2⟩ := findE_ok hkk es ces.toList 0 _ hent hf
            simp only [] at g2
            subst g2
            have hfk := run_findKey (w := w) ok hkd g1
            refine goal_skip (A' := A.setObj r (.map (es ++ [{ key := ρ k, val := ρ x, born := c }]) (c + 1))) (w' := putO w p.blk (.map (ces.push { key := ρ k, val := ρ' x, born := c }) (c + 1))) rfl ?_ ?_
            · refine step _ _ rfl ?_
              rw [Array.toList_push]
              exact hent.push c (keyOk_plain hkk) hv
            · simp [Instr.mapUpdate, ok.run_und hu w, e, hgo, hkx, run_checkKey' ok hkd hkk, hfk, run_setObj hc (by simp)]
          · cases hput
        · cases hx
      · cases hx
    · cases hx
  · cases hx
end
end Go.AM

namespace Go.AM
section
variable {E : Env} {P : Program} {nm : Nm} {K : Kp} {base : World} {φ : Emb} {A A' : St} {w : World} {ρ ρ' : Operand → Value} {nx : Nx}

theorem xMapEntry_ok (ok : EnvOk E P nm) (h : WR nm K base φ A w) (t : TypeId) (m k : Operand) (hm : VR nm φ (ρ m) (ρ' m)) (hk : VR nm φ (ρ k) (ρ' k))
    (hx : xMapEntry E A ρ t m k = some (nx, A')) : Goal P nm K base φ A w (Instr.mapEntry t (ρ' m) (ρ' k) >>= fun x => pure (Next.value x)) nx A' := by
  unfold xMapEntry at hx
  split at hx
  · rename_i kt et r hu hr
    split at hx
    · rename_i kd es c z hkd hes hz
      split at hx
      · rename_i hkk
        have hkx := hk.plainV_eq (keyOk_plain hkk)
        rw [hr] at hm
        obtain ⟨p, hp, e⟩ := hm.map_inv
        obtain ⟨ces, hc, hent⟩ := map_at h hes hp
        have hgo := run_getObj (P := P) hc (by simp)
        have hlt := h.lt _ _ hp
        split at hx
        · rename_i i v hf
          obtain ⟨r', g1, g2⟩ := findE_ok hkk es ces.toList 0 _ hent hf
          obtain ⟨v', e1, e2, e3, e0, e4, e5, e6⟩ := g2
          subst e1
          have hfk := run_findKey (w := w) ok hkd g1
          rw [Nat.sub_zero] at e4
          obtain ⟨c0, hc0, hpk, hkey, hborn, hval⟩ := hent.get? e4
          have hck : c0.key = ρ k := hkey.trans e5
          rw [e4] at hx
          simp only [] at hx
          cases hx
          have hc0' : ces[i]? = some c0 := by simpa using hc0
          have hsame : A = A.setObj r (.map es c) ∨ True := .inr trivial
          have hW : WR nm K base φ A (putO w p.blk (.map (ces.modify i fun e => { e with key := ρ k }) c)) := by
            have := h.setObj (o := .map es c) (o' := .map (es.modify i fun e => { e with val := e0.val }) c) (c := .map (ces.modify i fun e => { e with key := ρ k }) c) hes rfl rfl (by simp) (by simp) rfl hp
              ⟨_, putO_same w _ hlt, by
                rw [Array.toList_modify]
                refine hent.modify i (v' := c0.val) hval _ (fun e1 c1 he1 hc1 => ?_)
                rw [e4] at he1; cases he1
                rw [hc0] at hc1; cases hc1
                rw [e5]⟩
            have heq : es.modify i (fun e => { e with val := e0.val }) = es := by
              apply List.ext_getElem?
              intro j
              rw [List.getElem?_modify]
              cases hj : es[j]? with
              | none => simp
              | some ej =>
                by_cases hij : i = j
                · subst hij; rw [e4] at hj; cases hj; simp
                · simp [hij]
            rw [heq] at this
            -- the object is as it was
            refine { this with obj := fun b o hb => this.obj b o ?_, sep := fun b d o u p q hbd hb hd => this.sep b d o u p q hbd ?_ ?_, tip := fun g m ms hg b hb r1 s p q h1 h2 => this.tip g m ms hg b hb r1 s p q ?_ ?_, old := fun b o p hb => this.old b o p ?_ }
            all_goals
              simp only [St.setObj, T.get_set]
              split
              · rename_i e; subst e; first | (rw [hes] at hb; exact hb) | (rw [hes] at hd; exact hd) | (rw [hes] at h1; exact h1) | (rw [hes] at h2; exact h2)
              · assumption
          refine goal_val (Emb.ext_refl _ _) (Nat.le_refl _) hW (v' := .tuple #[v', goInt e0.born]) ?_ ?_
          · exact .tuple' (.cons e2 (.cons (.int _ _) .nil))
          · simp [Instr.mapEntry, ok.run_und hu w, e, hgo, hkx, run_checkKey' ok hkd hkk, hfk, hc0', hck, run_keyThatStays hkk, run_setObj hc (by simp), hborn]
        · rename_i hf
          cases hx
          obtain ⟨r', g1, g2⟩ := findE_ok hkk es ces.toList 0 _ hent hf
          simp only [] at g2
          subst g2
          have hfk := run_findKey (w := w) ok hkd g1
          have hW := h.setObj (o := .map es c) (o' := .map (es ++ [{ key := ρ k, val := z, born := c }]) (c + 1)) (c := .map (ces.push { key := ρ k, val := z, born := c }) (c + 1)) hes rfl rfl (by simp) (by simp) rfl hp
            ⟨_, putO_same w _ hlt, by rw [Array.toList_push]; exact hent.push c (keyOk_plain hkk) (.of_plainV (zero_plain hz))⟩
          refine goal_val (Emb.ext_refl _ _) (Nat.le_refl _) hW (v' := .tuple #[z, goInt c]) ?_ ?_
          · exact .tuple' (.cons (.of_plainV (zero_plain hz)) (.cons (.int _ _) .nil))
          · simp [Instr.mapEntry, ok.run_und hu w, e, hgo, hkx, run_checkKey' ok hkd hkk, hfk, ok.run_zero hz w, run_setObj hc (by simp)]
        · cases hx
      · cases hx
    · cases hx
  · cases hx

theorem findIdx_eq {es ces : List MapEntry} (h : EntR nm φ es ces) (n : Int) : ces.findIdx? (fun e => (e.born : Int) == n) = es.findIdx? (fun e => (e.born : Int) == n) := by
  induction es generalizing ces with
  | nil =>
    have : ces = [] := by have := h.1; simpa using this.symm
    subst this; rfl
  | cons e es ih =>
    obtain ⟨c, cs, rfl, _, _, h3, _, h5⟩ := h.cons_inv
    simp only [List.findIdx?_cons, h3, ih h5]

theorem xEntryStore_ok (h : WR nm K base φ A w) (t : TypeId) (m s x : Operand) (hm : VR nm φ (ρ m) (ρ' m)) (hs : VR nm φ (ρ s) (ρ' s)) (hv : VR nm φ (ρ x) (ρ' x))
    (hx : xEntryStore A ρ m s x = some (nx, A')) : Goal P nm K base φ A w (Instr.entryStore t (ρ' m) (ρ' s) (ρ' x) >>= fun _ => pure Next.skip) nx A' := by
  unfold xEntryStore at hx
  split at hx
  · rename_i r k n hr hn
    split at hx
    · rename_i es c hes
      split at hx
      · rename_i i hi
        cases hx
        rw [hr] at hm; rw [hn] at hs
        obtain ⟨p, hp, e⟩ := hm.map_inv
        obtain ⟨ces, hc, hent⟩ := map_at h hes hp
        have hgo := run_getObj (P := P) hc (by simp)
        have hlt := h.lt _ _ hp
        have hidx : ces.findIdx? (fun e => (e.born : Int) == n) = some i := by
          rw [← Array.toArray_toList (xs := ces), List.findIdx?_toArray, findIdx_eq hent, hi]
        have hW := h.setObj (o := .map es c) (o' := .map (es.modify i fun e => { e with val := ρ x }) c) (c := .map (ces.modify i fun e => { e with val := ρ' x }) c) hes rfl rfl (by simp) (by simp) rfl hp
          ⟨_, putO_same w _ hlt, by
            rw [Array.toList_modify]
            refine hent.modify i hv _ (fun e1 c1 he1 hc1 => ?_)
            obtain ⟨c2, hc2, _, hk2, _⟩ := hent.get? he1
            rw [hc1] at hc2; cases hc2
            rw [← hk2]⟩
        refine goal_skip (A' := A.setObj r _) rfl hW ?_
        simp [Instr.entryStore, e, hgo, hs.int_inv, asInt, asIntOf, hidx, run_setObj hc (by simp)]
      · cases hx
    · cases hx
  · cases hx

theorem new_eq (o : AObj) : A.new o = (A.next, { A with next := A.next + 1, h := A.h.set A.next o }) := rfl

theorem goal_new {s : Sem Value} (h : WR nm K base φ A w) (o : AObj) (c : Obj) (ho : o.own = true) (hor : ∀ p : Pl, p.blk = w.heap.size → p.off = 0 → φ.le (φ.upd A.next p) → OR nm (φ.upd A.next p) (w.heap.push c) p o)
    (hs : s.run P w = .ok (.pointer (some ⟨w.heap.size, 0, none⟩)) (w.alloc c)) :
    Goal P nm K base φ A w (s >>= fun x => pure (Next.value x)) (.val (.pointer (some ⟨A.next, 0, none⟩))) { A with next := A.next + 1, h := A.h.set A.next o } := by
  have hn := h.dom A.next (Nat.le_refl _)
  have hW := h.new A.next (plNew w 0) o c (A.next + 1) hn (Nat.le_succ _) (Nat.lt_succ_self _) rfl (hor _ rfl rfl (Emb.upd_le _ hn)) ho
  exact goal_val (Emb.upd_ext _ _ _) (Nat.le_succ _) hW (ptr_new _ _) hs

theorem xRange_ok (ok : EnvOk E P nm) (h : WR nm K base φ A w) (t : TypeId) (x : Operand) (hv : VR nm φ (ρ x) (ρ' x)) (hx : xRange E A ρ t x = some (nx, A')) :
    Goal P nm K base φ A w (Instr.range t (ρ' x) >>= fun x => pure (Next.value x)) nx A' := by
  unfold xRange at hx
  split at hx
  · rename_i s hu hr
    rw [new_eq] at hx
    cases hx
    rw [hr] at hv
    refine goal_new h _ (.stringIter s 0) rfl (fun p hp h0 _ => by simp [OR, hp, h0]) ?_
    simp [Instr.range, ok.run_und hu w, hv.str_inv, newObj, Sem.run]
  · rename_i k e hu hr
    rw [new_eq] at hx
    cases hx
    rw [hr] at hv
    cases hv' : ρ' x <;> rw [hv'] at hv <;> cases hv
    refine goal_new h _ (.mapIter none 0 #[] 0) rfl (fun p hp h0 _ => ⟨none, by simp [hp], rfl, h0⟩) ?_
    simp [Instr.range, ok.run_und hu w, newObj, Sem.run]
  · rename_i k e m hu hr
    split at hx
    · rename_i es c hes
      rw [new_eq] at hx
      cases hx
      rw [hr] at hv
      obtain ⟨q, hq, e1⟩ := hv.map_inv
      obtain ⟨ces, hc, hent⟩ := map_at h hes hq
      refine goal_new h _ (.mapIter (some q.blk) c #[] c) rfl (fun p hp h0 hle => ⟨some q.blk, by simp [hp], ⟨q, hle _ _ hq, rfl⟩, h0⟩) ?_
      simp [Instr.range, ok.run_und hu w, e1, run_getObj hc (by simp), newObj, Sem.run]
    · cases hx
  · cases hx

theorem iter_at (h : WR nm K base φ A w) {b : Nat} {o : AObj} {p : Pl} (hb : A.h.get b = some o) (hl : o.live = true) (hp : φ b = some p) : OR nm φ w.heap p o := by
  obtain ⟨q, hq, ho, _⟩ := h.obj b _ hb hl
  rw [hp] at hq; cases hq
  exact ho

theorem filter_rel {es ces : List MapEntry} (h : EntR nm φ es ces) (seen : List Nat) : EntR nm φ (es.filter fun e => !seen.contains e.born) (ces.filter fun e => !seen.contains e.born) := by
  induction es generalizing ces with
  | nil =>
    have : ces = [] := by have := h.1; simpa using this.symm
    subst this; exact .nil
  | cons e es ih =>
    obtain ⟨c, cs, rfl, h1, h2, h3, h4, h5⟩ := h.cons_inv
    have := ih h5
    simp only [List.filter_cons, h3]
    split
    · refine ⟨by rw [List.length_cons, List.length_cons, this.1], fun i e' c' g1 g2 => ?_⟩
      cases i with
      | zero => simp at g1 g2; subst g1; subst g2; exact ⟨h1, h2, h3, h4⟩
      | succ i => exact this.2 i e' c' (by simpa using g1) (by simpa using g2)
    · exact this

theorem xNext_ok (h : WR nm K base φ A w) (ty : TypeId) (it : Operand) (isStr : Bool) (hv : VR nm φ (ρ it) (ρ' it)) (hx : xNext A ρ it isStr = some (nx, A')) :
    Goal P nm K base φ A w (Instr.next (ρ' it) isStr ty >>= fun x => pure (Next.value x)) nx A' := by
  unfold xNext at hx
  split at hx
  · rename_i b hr
    rw [hr] at hv
    obtain ⟨p, hp, _, e⟩ := hv.ptr_inv
    have hlt := h.lt _ _ hp
    split at hx
    · rename_i s pos hb
      obtain ⟨ho, h0⟩ : w.heap[p.blk]? = some (.stringIter s pos) ∧ p.off = 0 := iter_at h hb rfl hp
      simp only [h0, Nat.add_zero] at e
      split at hx
      · rename_i hpos
        cases hx
        have hW := h.setObj (o := .siter s pos) (o' := .siter s (pos + (Utf8.decode s pos).2)) (c := .stringIter s (pos + (Utf8.decode s pos).2)) hb rfl rfl (by simp) (by simp) rfl hp ⟨putO_same w _ hlt, h0⟩
        refine goal_val (Emb.ext_refl _ _) (Nat.le_refl _) hW (v' := .tuple #[.bool true, goInt pos, .int .i32 (Utf8.decode s pos).1]) ?_ ?_
        · exact .tuple' (.cons (.bool _) (.cons (.int _ _) (.cons (.int _ _) .nil)))
        · simp [Instr.next, e, run_getObj ho (by simp), hpos, run_setObj ho (by simp)]
      · rename_i hpos
        cases hx
        refine goal_here h (v' := .tuple #[.bool false]) (.tuple' (.cons (.bool _) .nil)) ?_
        simp [Instr.next, e, run_getObj ho (by simp), hpos]
    · rename_i x1 x2 x3 hb
      cases hx
      obtain ⟨m', ho, hm, h0⟩ := iter_at h hb rfl hp
      simp only [] at hm
      subst hm
      simp only [h0, Nat.add_zero] at e
      refine goal_here h (v' := .tuple #[.bool false]) (.tuple' (.cons (.bool _) .nil)) ?_
      simp [Instr.next, e, run_getObj ho (by simp)]
    · rename_i m since seen stepped hb
      obtain ⟨m', ho, ⟨q, hq, rfl⟩, h0⟩ := iter_at h hb rfl hp
      simp only [h0, Nat.add_zero] at e
      split at hx
      · rename_i es c hes
        split at hx
        · rename_i hc
          obtain ⟨hc1, hc2, hall⟩ := hc
          subst hc1
          subst hc2
          obtain ⟨ces, hcc, hent⟩ := map_at h hes hq
          have hgo := run_getObj (P := P) ho (by simp)
          have hgm := run_getObj (P := P) hcc (by simp)
          have hbornC : ∀ x, x ∈ ces.toList → x.born < c := by
            intro x hx
            obtain ⟨i, hi⟩ := List.getElem?_of_mem hx
            have hi' : i < es.length := by
              rcases Nat.lt_or_ge i es.length with g | g
              · exact g
              · rw [List.getElem?_eq_none (by rw [← hent.1]; exact g)] at hi; cases hi
            obtain ⟨c1, hc1, _, _, hb1, _⟩ := hent.get? (List.getElem?_eq_getElem hi')
            rw [hi] at hc1; cases hc1
            have := List.all_eq_true.1 hall _ (List.getElem_mem hi')
            rw [hb1]; exact Nat.le_of_ble_eq_true this
          have hfil := filter_rel hent seen
          have hleft : ∀ l, ces.toList.filter (fun e => !seen.contains e.born) = l → ces.filter (fun e => !seen.toArray.contains e.born) = l.toArray := by
            intro l hl
            apply Array.ext'
            rw [Array.toList_filter]
            simp only [List.contains_toArray]
            exact hl
          have hguard : (!seen.toArray.isEmpty && !ces.isEmpty && ces.all (fun x => decide (x.born ≥ c))) = false := by
            cases hce : ces.isEmpty with
            | true => simp
            | false =>
              have : ces.all (fun x => decide (x.born ≥ c)) = false := by
                rw [← Array.all_toList]
                cases hl : ces.toList with
                | nil => 
                  have : ces = #[] := by apply Array.ext'; rw [hl]
                  subst this; simp at hce
                | cons x xs =>
                  have := hbornC x (by rw [hl]; simp)
                  simp; intro hge; omega
              rw [this]; simp
          split at hx
          · rename_i hnil
            cases hx
            rw [hnil] at hfil
            have hcnil : ces.toList.filter (fun e => !seen.contains e.born) = [] := by have := hfil.1; simpa using this.symm
            have hl := hleft _ hcnil
            refine goal_here h (v' := .tuple #[.bool false]) (.tuple' (.cons (.bool _) .nil)) ?_
            have hf1 : ∀ f : MapEntry → Bool, (#[] : Array MapEntry).filter f = #[] := fun f => by simp
            simp only [Instr.next, e, Sem.run_bind, hgo, hgm, Result.andThen_ok, hguard, hl, hf1, Bool.false_eq_true, if_false]
            simp [choose, Sem.run, Question.forced]
          · rename_i e1 hone
            cases hx
            rw [hone] at hfil
            obtain ⟨c1, cs1, hcl, g1, g2, g3, g4, g5⟩ := hfil.cons_inv
            have : cs1 = [] := by have := g5.1; simpa using this.symm
            subst this
            have hl := hleft _ hcl
            have hc1 : c1.born < c := hbornC c1 (by
              have : c1 ∈ ces.toList.filter (fun e => !seen.contains e.born) := by rw [hcl]; simp
              exact (List.mem_filter.1 this).1)
            have hold : ([c1].toArray.filter fun x => decide (x.born < c)) = #[c1] := by
              apply Array.ext'; rw [Array.toList_filter]; simp [hc1]
            have hnew : ([c1].toArray.filter fun x => decide (x.born ≥ c)) = #[] := by
              apply Array.ext'; rw [Array.toList_filter]; simp; omega
            have hW := h.setObj (o := .miter (some m) c seen c) (o' := .miter (some m) c (seen ++ [e1.born]) c) (c := .mapIter (some q.blk) c (seen.toArray.push c1.born) c) hb rfl rfl (by simp) (by simp) rfl hp
              ⟨some q.blk, by rw [putO_same w _ hlt, g3]; simp, ⟨q, hq, rfl⟩, h0⟩
            refine goal_val (Emb.ext_refl _ _) (Nat.le_refl _) hW (v' := .tuple #[.bool true, c1.key, c1.val]) ?_ ?_
            · rw [g2]; exact .tuple' (.cons (.bool _) (.cons (.of_plainV g1) (.cons g4 .nil)))
            · simp only [Instr.next, e, Sem.run_bind, hgo, hgm, Result.andThen_ok, hguard, hl, hold, hnew]
              simp only [Bool.false_eq_true, if_false]
              simp [choose, Sem.run, Question.forced]
              rw [run_setObj ho (by simp)]
              rfl
          · cases hx
        · cases hx
      · cases hx
    · cases hx
  · cases hx
end
end Go.AM
