/- The operations, fifth part: slices, fields, elements. -/
import Derived.Test.YtkhgbpokoaklpaaGreatDoorAmOps4
namespace Go.AM
section
variable {E : Env} {P : Program} {nm : Nm} {K : Kp} {base : World} {φ : Emb} {A A' : St} {w : World} {ρ ρ' : Operand → Value} {nx : Nx}

theorem add_eq {p : Pl} {a : Addr} (n : Nat) : (⟨p.blk, p.off + a.off, none⟩ : Addr).add n = ⟨p.blk, p.off + (addA a n).off, none⟩ := by
  rw [add_mk]; simp [addA, Nat.add_assoc]

theorem opn_of (h : WR nm K base φ A w) {b : Nat} {r : Row} {p : Pl} (hr : A.row? b = some r) (hp : φ b = some p) : p.opn = r.opn ∧ (r.opn = true → p.esz = r.esz) := by
  obtain ⟨q, hq, ⟨cs, fz, ho⟩, _⟩ := h.obj b _ (row?_some hr) rfl
  rw [hp] at hq; cases hq
  exact ⟨ho.opn, ho.esz⟩

theorem sliceOp_ok (ok : EnvOk E P nm) (h : WR nm K base φ A w) (t : TypeId) {x x' : Value} {lo hi mx lo' hi' mx' : Option Value} {v : Value} (hx : VR nm φ x x')
    (h1 : OVR nm φ lo lo') (h2 : OVR nm φ hi hi') (h3 : OVR nm φ mx mx') (hs : sliceOp E A t x lo hi mx = some v) :
    ∃ v', VR nm φ v v' ∧ (Instr.sliceAt t x' lo' hi' mx').run P w = .ok v' w := by
  unfold sliceOp at hs
  split at hs
  · cases hs
  rename_i hmh
  have hmh : mx.isSome = true → hi.isSome = true := by
    intro e
    cases hi with
    | some _ => rfl
    | none => exact absurd (by simp [e]) hmh
  split at hs
  · rename_i s hu
    split at hs
    · cases hs
    · split at hs
      · rename_i hh bh
        split at hs
        · rename_i l bl
          cases hs
          rw [hx.str_inv]
          obtain ⟨m', g1, _, _, g4, g5⟩ := bounds_ok (P := P) (w := w) (b := false) (mx := none) (mx' := mx') h1 h2 h3 (Nat.le_refl s.size) (Nat.le_refl _) (fun e => by cases e) rfl bh bl
          cases mx' with
          | some _ => exact h3.elim
          | none => exact ⟨_, .str _, by simp [Instr.sliceAt, Instr.slice, ok.run_und hu w, g1]⟩
        · cases hs
      · cases hs
  · rename_i e len cap hu
    split at hs
    · rename_i sz hsz hle
      split at hs
      · rename_i m bm
        split at hs
        · rename_i hh bh
          split at hs
          · rename_i l bl
            cases hs
            rw [hx.nils_inv]
            obtain ⟨m', g1, g2, g3, g4, g5⟩ := bounds_ok (P := P) (w := w) (b := true) h1 h2 h3 (Nat.le_refl cap) (Nat.le_of_ble_eq_true hle) (fun e => ⟨hmh e, rfl⟩) bm bh bl
            have hm' : m' = m := by
              cases mx with
              | none => obtain ⟨e1, e2⟩ := g2 rfl; omega
              | some _ => exact g3 (by simp)
            subst hm'
            refine ⟨.slice none (hh - l) (m' - l), .nils _ _, ?_⟩
            simp only [Instr.sliceAt, Sem.run_bind, ok.run_und hu w, Result.andThen_ok, Instr.slice, g1, ok.run_size hsz w, Sem.run_pure]
            split <;> rfl
          · cases hs
        · cases hs
      · cases hs
    · cases hs
  · rename_i e a len cap hu
    split at hs
    · rename_i r sz hr hsz
      split at hs
      · rename_i m bm
        split at hs
        · rename_i hh bh
          split at hs
          · rename_i l bl
            obtain ⟨a', k', p, rfl, hp, hsp, q1, q2, q3, q4, q5, q6⟩ := hx.slc_inv
            obtain ⟨ho1, ho2⟩ := opn_of h hr hp
            have haddr : a' = ⟨p.blk, a'.off, none⟩ := by cases a'; simp only [] at q1 q2; simp [q1, q2]
            split at hs
            · rename_i hopn
              rw [hopn] at ho1
              split at hs
              · cases hs
              · rename_i hc
                simp only [Bool.or_eq_true, bne_iff_ne, ne_eq, not_or, Decidable.not_not] at hc
                obtain ⟨hc1, hc2⟩ := hc
                cases hs
                obtain ⟨q5a, q5b⟩ := q5 ho1
                obtain ⟨m', g1, g2, g3, g4, g5⟩ := bounds_ok (P := P) (w := w) (b := true) h1 h2 h3 q5a q6 (fun e => absurd e hc1) bm bh bl
                have hmx : mx = none := by
                  cases mx with
                  | none => rfl
                  | some _ => exact absurd rfl hc1
                obtain ⟨rfl, rfl⟩ := g2 hmx
                have hesz : p.esz = sz := (ho2 hopn).trans hc2
                refine ⟨.slice (some (if m' = l then a' else a'.add (l * sz))) (hh - l) (m' - l), ?_, ?_⟩
                · refine .slc (addA a (l * sz)) _ _ _ _ p (by simpa [addA] using hp) rfl ?_ ?_ ?_ (fun e => by rw [ho1] at e; cases e) (fun _ => ⟨by omega, ?_⟩) (by omega)
                  · split
                    · exact q1
                    · rw [haddr, add_mk]
                  · split
                    · exact q2
                    · rw [haddr, add_mk]
                  · split
                    · left; omega
                    · right
                      rcases q3 with q3 | q3
                      · omega
                      · rw [haddr, add_mk]; simp [addA, q3, Nat.add_assoc]
                  · rw [hesz] at q5b ⊢
                    split
                    · rename_i e2; subst e2; simp; omega
                    · have hl : l ≤ m' := by omega
                      rw [haddr, add_mk]
                      have : (m' - l) * sz + l * sz = m' * sz := by rw [← Nat.add_mul]; congr 1; omega
                      simp only []
                      omega
                · simp only [Instr.sliceAt, Sem.run_bind, ok.run_und hu w, Result.andThen_ok, Instr.slice, g1, ok.run_size hsz w, Sem.run_pure]
                  split <;> rfl
            · rename_i hopn
              rw [hopn] at ho1
              cases hs
              have hk := q4 ho1
              subst hk
              obtain ⟨m', g1, g2, g3, g4, g5⟩ := bounds_ok (P := P) (w := w) (b := true) h1 h2 h3 (Nat.le_refl k') q6 (fun e => ⟨hmh e, rfl⟩) bm bh bl
              have hm' : m' = m := by
                cases mx with
                | none => obtain ⟨e1, e2⟩ := g2 rfl; omega
                | some _ => exact g3 (by simp)
              subst hm'
              refine ⟨.slice (some (if m' = l then a' else a'.add (l * sz))) (hh - l) (m' - l), ?_, ?_⟩
              · split
                · rename_i e2
                  refine .slc a a' _ _ _ p hp hsp q1 q2 (.inl (by omega)) (fun _ => rfl) (fun e => by rw [ho1] at e; cases e) (by omega)
                · rename_i e2
                  refine .slc (addA a (l * sz)) _ _ _ _ p (by simpa [addA] using hp) rfl ?_ ?_ ?_ (fun _ => rfl) (fun e => by rw [ho1] at e; cases e) (by omega)
                  · rw [haddr, add_mk]
                  · rw [haddr, add_mk]
                  · right
                    rcases q3 with q3 | q3
                    · subst q3
                      have : l ≤ 0 := by
                        have : hh ≤ 0 := by
                          cases mx with
                          | none => obtain ⟨e3, e4⟩ := g2 rfl; omega
                          | some _ =>
                            simp only [optBound] at bm
                            have := (bound_ok (P := P) (w := w) (c := .index) (show VR nm φ _ (mx'.getD undef) from by cases mx' with | none => exact h3.elim | some v => exact h3) bm (Nat.le_refl _)).2
                            omega
                        omega
                      have hm0 : m' = 0 := by
                        cases mx with
                        | none => obtain ⟨e3, e4⟩ := g2 rfl; omega
                        | some _ =>
                          simp only [optBound] at bm
                          have := (bound_ok (P := P) (w := w) (c := .index) (show VR nm φ _ (mx'.getD undef) from by cases mx' with | none => exact h3.elim | some v => exact h3) bm (Nat.le_refl _)).2
                          omega
                      exact absurd (by omega) e2
                    · rw [haddr, add_mk]; simp [addA, q3, Nat.add_assoc]
              · simp only [Instr.sliceAt, Sem.run_bind, ok.run_und hu w, Result.andThen_ok, Instr.slice, g1, ok.run_size hsz w, Sem.run_pure]
                split <;> rfl
          · cases hs
        · cases hs
      · cases hs
    · cases hs
  · rename_i n e a hu
    split at hs
    · rename_i r sz hr hsz
      split at hs
      · cases hs
      · rename_i hopn
        split at hs
        · rename_i m bm
          split at hs
          · rename_i hh bh
            split at hs
            · rename_i l bl
              cases hs
              obtain ⟨p, hp, hsp, rfl⟩ := hx.ptr_inv
              obtain ⟨ho1, ho2⟩ := opn_of h hr hp
              rw [hopn] at ho1
              obtain ⟨m', g1, g2, g3, g4, g5⟩ := bounds_ok (P := P) (w := w) (b := false) h1 h2 h3 (Nat.le_refl n) (Nat.le_refl n) (fun e => ⟨hmh e, rfl⟩) bm bh bl
              have hm' : m' = m := by
                cases mx with
                | none => obtain ⟨e1, e2⟩ := g2 rfl; omega
                | some _ => exact g3 (by simp)
              subst hm'
              refine ⟨.slice (some (if m' = l then ⟨p.blk, p.off + a.off, none⟩ else (⟨p.blk, p.off + a.off, none⟩ : Addr).add (l * sz))) (hh - l) (m' - l), ?_, ?_⟩
              · split
                · refine .slc a ⟨p.blk, p.off + a.off, none⟩ _ _ _ p hp hsp rfl rfl (.inr rfl) (fun _ => rfl) (fun e => by rw [ho1] at e; cases e) (by omega)
                · rw [add_eq]
                  refine .slc (addA a (l * sz)) _ _ _ _ p (by simpa [addA] using hp) rfl rfl rfl (.inr rfl) (fun _ => rfl) (fun e => by rw [ho1] at e; cases e) (by omega)
              · simp only [Instr.sliceAt, Sem.run_bind, ok.run_und hu w, Result.andThen_ok, Instr.sureAddr, Sem.run_pure, g1, ok.run_size hsz w]
            · cases hs
          · cases hs
        · cases hs
    · cases hs
  · cases hs

theorem xSlice_ok (ok : EnvOk E P nm) (h : WR nm K base φ A w) (t : TypeId) (x : Operand) (lo hi mx : Option Operand) (hv : VR nm φ (ρ x) (ρ' x))
    (h1 : ∀ y, lo = some y → VR nm φ (ρ y) (ρ' y)) (h2 : ∀ y, hi = some y → VR nm φ (ρ y) (ρ' y)) (h3 : ∀ y, mx = some y → VR nm φ (ρ y) (ρ' y)) (hx : xSlice E A ρ t x lo hi mx = some (nx, A')) :
    Goal P nm K base φ A w (Instr.sliceAt t (ρ' x) (lo.map ρ') (hi.map ρ') (mx.map ρ') >>= fun x => pure (Next.value x)) nx A' := by
  unfold xSlice at hx
  split at hx
  · rename_i v hs
    cases hx
    obtain ⟨v', g1, g2⟩ := sliceOp_ok ok h t hv (OVR.map lo h1) (OVR.map hi h2) (OVR.map mx h3) hs
    exact goal_here h g1 g2
  · cases hx

theorem xFieldAddr_ok (ok : EnvOk E P nm) (h : WR nm K base φ A w) (s : TypeId) (x : Operand) (f : Nat) (hv : VR nm φ (ρ x) (ρ' x)) (hx : xFieldAddr E A ρ s x f = some (nx, A')) :
    Goal P nm K base φ A w (Instr.fieldAt s (ρ' x) f >>= fun x => pure (Next.value x)) nx A' := by
  unfold xFieldAddr at hx
  split at hx
  · rename_i fs a hu hr
    split at hx
    · rename_i fd hf
      split at hx
      · rename_i n hn
        split at hx
        · cases hx
        · rename_i hn0
          cases hx
          rw [hr] at hv
          obtain ⟨p, hp, hsp, e⟩ := hv.ptr_inv
          refine goal_here h (.ptr (addA a fd.offset) p (by simpa [addA] using hp) rfl) ?_
          simp only [Instr.fieldAt, Sem.run_bind, ok.run_und hu w, Result.andThen_ok, hf, e, Instr.sureAddr, Sem.run_pure, fieldPlace, ok.run_size hn w]
          rw [if_neg hn0, add_eq]
          rfl
      · cases hx
    · cases hx
  · cases hx

theorem xIndexAddr_ok (ok : EnvOk E P nm) (h : WR nm K base φ A w) (t : TypeId) (x ix : Operand) (hv : VR nm φ (ρ x) (ρ' x)) (hi : VR nm φ (ρ ix) (ρ' ix)) (hx : xIndexAddr E A ρ t x ix = some (nx, A')) :
    Goal P nm K base φ A w (Instr.indexAt t (ρ' x) (ρ' ix) >>= fun x => pure (Next.value x)) nx A' := by
  unfold xIndexAddr at hx
  split at hx
  · rename_i e a len cap k i hu hr hri
    split at hx
    · rename_i s hs
      split at hx
      · rename_i hc
        cases hx
        rw [hr] at hv; rw [hri] at hi
        obtain ⟨a', k', p, e1, hp, hsp, q1, q2, q3, q4, q5, q6⟩ := hv.slc_inv
        have haddr : a' = ⟨p.blk, p.off + a.off, none⟩ := by
          cases a'; simp only [] at q1 q2 q3
          have : ¬ k' = 0 := by
            intro e
            cases ho : p.opn with
            | true => have := (q5 ho).1; omega
            | false => have := q4 ho; omega
          simp [q1, q2, q3.resolve_left this]
        refine goal_here h (.ptr (addA a (i.toNat * s)) p (by simpa [addA] using hp) rfl) ?_
        simp only [Instr.indexAt, Sem.run_bind, ok.run_und hu w, Result.andThen_ok, e1, hi.int_inv, asIntOf, Sem.run_pure]
        rw [if_pos ⟨hc.1, hc.2.1⟩]
        simp only [Sem.run_bind, ok.run_size hs w, Result.andThen_ok, Sem.run_pure]
        rw [haddr, add_eq]
      · cases hx
    · cases hx
  · rename_i len e a k i hu hr hri
    split at hx
    · rename_i s hs
      split at hx
      · rename_i hc
        cases hx
        rw [hr] at hv; rw [hri] at hi
        obtain ⟨p, hp, hsp, e1⟩ := hv.ptr_inv
        refine goal_here h (.ptr (addA a (i.toNat * s)) p (by simpa [addA] using hp) rfl) ?_
        simp only [Instr.indexAt, Sem.run_bind, ok.run_und hu w, Result.andThen_ok, e1, hi.int_inv, asIntOf, Sem.run_pure, Instr.sureAddr]
        rw [if_pos ⟨hc.1, hc.2.1⟩]
        simp only [Sem.run_bind, ok.run_size hs w, Result.andThen_ok, Sem.run_pure]
        rw [add_eq]
      · cases hx
    · cases hx
  · cases hx

theorem bytes_get (s : ByteArray) (i : Nat) : s[i]? = s.data.toList[i]? := by
  rw [Array.getElem?_toList]
  rfl

theorem xIndex_ok (ok : EnvOk E P nm) (h : WR nm K base φ A w) (t : TypeId) (x ix : Operand) (hv : VR nm φ (ρ x) (ρ' x)) (hi : VR nm φ (ρ ix) (ρ' ix)) (hx : xIndex E A ρ t x ix = some (nx, A')) :
    Goal P nm K base φ A w (Instr.index t (ρ' x) (ρ' ix) >>= fun x => pure (Next.value x)) nx A' := by
  unfold xIndex at hx
  split at hx
  · rename_i s k i hu hr hri
    split at hx
    · rename_i hc
      split at hx
      · rename_i b hb
        cases hx
        rw [hr] at hv; rw [hri] at hi
        refine goal_here h (.int _ _) ?_
        simp only [Instr.index, Sem.run_bind, ok.run_und hu w, Result.andThen_ok, hv.str_inv, hi.int_inv, asIntOf, Sem.run_pure]
        rw [if_pos hc, bytes_get, hb]
        rfl
      · cases hx
    · cases hx
  · rename_i len e cs k i hu hr hri
    split at hx
    · rename_i s hs
      split at hx
      · rename_i hc
        split at hx
        · rename_i v hp
          cases hx
          rw [hr] at hv; rw [hri] at hi
          obtain ⟨cs', e1, e2⟩ := hv.agg_inv
          obtain ⟨v', g1, g2⟩ := getPart_ok (w := w) ok e2 hp
          refine goal_here h g1 ?_
          simp only [Instr.index, Sem.run_bind, ok.run_und hu w, Result.andThen_ok, e1, hi.int_inv, asIntOf, Sem.run_pure]
          rw [if_pos hc]
          simp only [Sem.run_bind, ok.run_size hs w, Result.andThen_ok]
          exact g2
        · cases hx
      · cases hx
    · cases hx
  · cases hx
end
end Go.AM
