/- Built-in functions: delete, clear, unsafe.String; all of them. -/
import Derived.Test.YtkhgbpokoaklpaaGreatDoorAmBuilt2
namespace Go.AM
section
variable {E : Env} {P : Program} {nm : Nm} {K : Kp} {base : World} {φ : Emb} {A A' : St} {w : World} {ρ ρ' : Operand → Value} {nx : Nx}

theorem EntR.eraseIdx {es ces : List MapEntry} (h : EntR nm φ es ces) (i : Nat) : EntR nm φ (es.eraseIdx i) (ces.eraseIdx i) := by
  refine ⟨by rw [List.length_eraseIdx, List.length_eraseIdx, h.1], fun j e c h1 h2 => ?_⟩
  rw [List.getElem?_eraseIdx] at h1 h2
  split at h1
  · rename_i hj; rw [if_pos hj] at h2; exact h.2 _ _ _ h1 h2
  · rename_i hj; rw [if_neg hj] at h2; exact h.2 _ _ _ h1 h2

theorem putO_id {b : Nat} {o : Obj} (hb : w.heap[b]? = some o) : putO w b o = w := by
  have hlt : b < w.heap.size := (Array.getElem?_eq_some_iff.1 hb).1
  unfold putO
  have : w.heap.setIfInBounds b o = w.heap := by
    apply Array.ext_getElem?
    intro j
    rw [Array.getElem?_setIfInBounds]
    split
    · rename_i e; subst e; first | exact hb.symm | (simp only [hlt, if_true]; exact hb.symm)
    · rfl
  rw [this]

theorem bDelete_ok (ok : EnvOk E P nm) (h : WR nm K base φ A w) {ts : List TypeId} {args : List Value} {args' : Array Value} {ty : TypeId} (ha : LR nm φ args args'.toList)
    (hf : bDelete E A ts args = some (nx, A')) : Goal P nm K base φ A w (Builtin.delete_ ts.toArray ty args' >>= fun x => pure (Next.value x)) nx A' := by
  unfold bDelete at hf
  split at hf
  · rename_i kt et r k hu
    obtain ⟨t, l, rfl, hu⟩ := und0_some hu
    split at hf
    · rename_i kd es c hkd hes
      split at hf
      · rename_i hkk
        obtain ⟨m', k', rfl, hm, hk⟩ := args2 ha
        have hkx := hk.plainV_eq (keyOk_plain hkk)
        obtain ⟨p, hp, rfl⟩ := hm.map_inv
        obtain ⟨ces, hc, hent⟩ := map_at h hes hp
        have hgo := run_getObj (P := P) hc (by simp)
        have hlt := h.lt _ _ hp
        split at hf
        · rename_i i v hfe
          cases hf
          obtain ⟨r', g1, g2⟩ := findE_ok hkk es ces.toList 0 _ hent hfe
          obtain ⟨v', e1, e2, e3, e0, e4, e5, e6⟩ := g2
          subst e1
          have hfk := run_findKey (w := w) ok hkd g1
          refine goal_val (A' := A.setObj r (.map (es.eraseIdx i) c)) (w' := putO w p.blk (.map (ces.eraseIdxIfInBounds i) c)) (Emb.ext_refl _ _) (Nat.le_refl _) ?_ (.of_plainV rfl) ?_
          · refine h.setObj (o := .map es c) (o' := .map (es.eraseIdx i) c) hes rfl rfl (by simp) (by simp) rfl hp ⟨_, putO_same w _ hlt, ?_⟩
            rw [Array.toList_eraseIdxIfInBounds]
            exact hent.eraseIdx i
          · simp [Builtin.delete_, ok.run_und hu w, hgo, hkx, run_checkKey' ok hkd hkk, hfk, run_setObj hc (by simp)]
        · rename_i hfe
          cases hf
          obtain ⟨r', g1, g2⟩ := findE_ok hkk es ces.toList 0 _ hent hfe
          simp only [] at g2
          subst g2
          have hfk := run_findKey (w := w) ok hkd g1
          refine goal_here h (.of_plainV rfl) ?_
          simp [Builtin.delete_, ok.run_und hu w, hgo, hkx, run_checkKey' ok hkd hkk, hfk, run_setObj hc (by simp), putO_id hc]
        · cases hf
      · cases hf
    · cases hf
  · cases hf

theorem bClear_ok (ok : EnvOk E P nm) (h : WR nm K base φ A w) {ts : List TypeId} {args : List Value} {args' : Array Value} {ty : TypeId} (ha : LR nm φ args args'.toList)
    (hf : bClear E A ts args = some (nx, A')) : Goal P nm K base φ A w (Builtin.clear_ ts.toArray ty args' >>= fun x => pure (Next.value x)) nx A' := by
  unfold bClear at hf
  split at hf
  · rename_i e a n c hu
    obtain ⟨t, l, rfl, hu⟩ := und0_some hu
    split at hf
    · rename_i z hz
      obtain ⟨x', rfl, hx⟩ := args1 ha
      obtain ⟨a', k', p, rfl, hp, hsp, q1, q2, q3, q4, q5, q6⟩ := hx.slc_inv
      split at hf
      · rename_i h0
        cases hf
        subst h0
        refine goal_here h (.of_plainV rfl) ?_
        simp [Builtin.clear_, ok.run_und hu w]
      · rename_i h0
        split at hf
        · rename_i A1 hst
          cases hf
          obtain ⟨w', r1, r2, r3⟩ := h.store (P := P) hst (zeros_rel (zero_cells hz φ) n) hp
          have hk : ¬ k' = 0 := by
            intro e0
            cases hop : p.opn with
            | true => have := (q5 hop).1; omega
            | false => have := q4 hop; omega
          have haddr : a' = ⟨p.blk, p.off + a.off, none⟩ := by
            have hoff := q3.resolve_left hk
            obtain ⟨ab, ao, as⟩ := a'
            simp only [] at q1 q2 hoff
            subst q1; subst q2; subst hoff
            rfl
          subst haddr
          have hzc : Builtin.zeroCells z.cells n = (zeros z.cells.toList n).toArray := zeros_eq z.cells n z.cells.size rfl
          refine goal_val (Emb.ext_refl _ _) (by rw [r3]; exact Nat.le_refl _) r2 (.of_plainV rfl) ?_
          cases n with
          | zero => exact absurd rfl h0
          | succ n => simp [Builtin.clear_, ok.run_und hu w, ok.run_zero hz w, hzc, r1]
        · cases hf
    · cases hf
  · rename_i hu
    obtain ⟨t, l, rfl, hu⟩ := und0_some hu
    cases hf
    obtain ⟨x', rfl, hx⟩ := args1 ha
    rw [hx.nils_inv]
    refine goal_here h (.of_plainV rfl) ?_
    simp [Builtin.clear_, ok.run_und hu w]
  · cases hf

theorem freeze_putO {b off n : Nat} {cs : Array Value} {e : TypeId} {fz : Nat × Nat} (hb : w.heap[b]? = some (.cells cs e fz)) (hn : n ≠ 0) :
    w.freeze ⟨b, off, none⟩ n = putO w b (.cells cs e (if fz.1 == fz.2 then (off, off + n) else (min fz.1 off, max fz.2 (off + n)))) := by
  unfold World.freeze putO
  rw [if_neg hn]
  congr 1
  apply Array.ext_getElem?
  intro j
  rw [Array.getElem?_modify, Array.getElem?_setIfInBounds]
  have hlt : b < w.heap.size := (Array.getElem?_eq_some_iff.1 hb).1
  split
  · rename_i e; subst e
    obtain ⟨f1, f2⟩ := fz
    simp only [hb, Option.map]
  · rfl

theorem unsafeString_eq (t : TypeId) (l : List TypeId) (ty : TypeId) (a : Addr) (k : IntKind) (n : Int) : Builtin.unsafeString_ (t :: l).toArray ty #[.pointer (some a), .int k n] = (do
    if n < 0 then runtimePanic (.error "unsafe.String: len out of range")
    if n > IntKind.i64.max then unsupported (.unsafePointer "String: a length above the largest int")
    if n = 0 then pure (.string .empty)
    else if ← variablesAt a (← elemOf t) n.toNat then do
      let s ← loadBytes a .empty n.toNat
      freeze a n.toNat
      pure (.string s)
    else unsupported (.unsafePointer "String: not so many bytes at ptr")) := rfl

theorem bUnsafeString_ok (ok : EnvOk E P nm) (h : WR nm K base φ A w) {ts : List TypeId} {args : List Value} {args' : Array Value} {ty : TypeId} (ha : LR nm φ args args'.toList)
    (hts : ts ≠ []) (hf : bUnsafeString E A ts args = some (nx, A')) : Goal P nm K base φ A w (Builtin.unsafeString_ ts.toArray ty args' >>= fun x => pure (Next.value x)) nx A' := by
  have i63 : IntKind.i64.max = 9223372036854775807 := rfl
  obtain ⟨t, l, rfl⟩ : ∃ t l, ts = t :: l := by
    cases ts with
    | nil => exact absurd rfl hts
    | cons t l => exact ⟨t, l, rfl⟩
  unfold bUnsafeString at hf
  split at hf
  · rename_i k n
    split at hf
    · rename_i h0
      cases hf
      obtain ⟨p', n', rfl, hp, hn⟩ := args2 ha
      rw [hn.int_inv]
      cases hp
      refine goal_here h (.of_plainV rfl) ?_
      subst h0
      rfl
    · cases hf
  · rename_i a k n
    obtain ⟨p', n', rfl, hp, hn⟩ := args2 ha
    rw [hn.int_inv]
    obtain ⟨p, hpa, hsp, rfl⟩ := hp.ptr_inv
    split at hf
    · rename_i h0
      cases hf
      refine goal_here h (.of_plainV rfl) ?_
      subst h0
      rfl
    · rename_i h0
      split at hf
      · cases hf
      · rename_i hneg
        split at hf
        · rename_i r hr hs
          split at hf
          · rename_i hc
            unfold strOk at hc
            simp only [Bool.and_eq_true, Bool.not_eq_true'] at hc
            obtain ⟨⟨⟨hown, hsb⟩, hsize⟩, hlay⟩ := hc
            split at hf
            · rename_i bs hby
              cases hf
              have hb := row?_some hr
              obtain ⟨m, rfl⟩ := Int.eq_ofNat_of_zero_le (show 0 ≤ n by omega)
              have hm0 : 0 < m := by omega
              simp only [Int.toNat_natCast] at *
              obtain ⟨q, hq, ⟨cs, fz, ho⟩, hK⟩ := h.obj a.block _ hb rfl
              rw [hpa] at hq; cases hq
              have hlen : a.off + m ≤ r.size := by
                unfold bytesL at hby
                simp only [] at hby
                split at hby
                · rename_i vs hl
                  unfold St.loadN at hl
                  rw [hs, hr] at hl
                  simp only [] at hl
                  split at hl
                  · assumption
                  · cases hl
                · cases hby
              have hgoto : ∀ (x' : Value), x' = .slice (some ⟨p.blk, p.off + a.off, none⟩) m m → ∃ ns : List Int, bs = ns.map (fun n : Int => UInt8.ofNat n.toNat) ∧ ns.length = m ∧
                  (∀ j v, (ns.map (Value.int .u8))[j]? = some v → w.cell? ((⟨p.blk, p.off + a.off, none⟩ : Addr).add j) = some v) := by
                intro x' hx'
                unfold bytesL at hby
                simp only [] at hby
                split at hby
                · rename_i vs hl
                  obtain ⟨ns, e1, e2⟩ := bytes_foldr vs bs hby
                  obtain ⟨cvs, hrd⟩ := h.load hl hpa
                  subst e1
                  have := ints_eq ns .u8 cvs hrd.rel
                  subst this
                  exact ⟨ns, e2, by simpa using hrd.len, hrd.cell⟩
                · cases hby
              obtain ⟨ns, rfl, hnl, hcell⟩ := hgoto _ rfl
              split at hsize
              case h_2 => cases hsize
              rename_i k1 hk1
              have hk1' : k1 = 1 := Nat.eq_of_beq_eq_true hsize
              subst hk1'
              split at hlay
              case h_2 => cases hlay
              rename_i u hu
              obtain ⟨t', l', e', hu⟩ := und0_some hu
              cases e'
              have hcells : P.cellsOf r.elem = 1 := by
                obtain ⟨i, hi, hi2⟩ := size_inf hk1
                simp [Program.cellsOf, ok.inf _ _ hi, hi2]
              obtain ⟨h1, away⟩ := h.alone hb hown
              have hlies : liesAt P P.depth r.elem (cs.size / P.cellsOf r.elem) (p.off + a.off) u m = true := by
                rw [hcells, Nat.div_one]
                rw [ok.prog] at hlay
                have hfit : p.off + a.off + m ≤ cs.size := by have := ho.fit; omega
                have hrow : ∀ d, rowAt P (sameLayout P P.depth · u) (d + 1) r.elem cs.size (p.off + a.off) m = true := by
                  intro d
                  simp [rowAt, hcells, Nat.mod_one, hfit, hlay]
                have h2 : rowAt P (sameLayout P P.depth · u) P.depth r.elem cs.size (p.off + a.off) m = true := hrow (2 * (P.types.size + Made.depth) + 1)
                have h3 : ∀ d, liesAt P (d + 1) r.elem cs.size (p.off + a.off) u m = true := by
                  intro d
                  simp [liesAt, h2]
                exact h3 (2 * (P.types.size + Made.depth) + 1)
              have hvar : (variablesAt ⟨p.blk, p.off + a.off, none⟩ u m).run P w = .ok true w := by
                have hsh : w.shape? p.blk = some (r.elem, cs.size) := by simp [World.shape?, ho.blk]
                simp [variablesAt, hsh, hlies]
              have hel : (elemOf t).run P w = .ok u w := by
                simp [elemOf, ok.run_und hu w]
              have hld := lay_loadBytes (P := P) ns ⟨p.blk, p.off + a.off, none⟩ .empty hcell
              rw [hnl, push_data] at hld
              have hstr : (⟨ByteArray.empty.data ++ (ns.map fun n => UInt8.ofNat n.toNat).toArray⟩ : ByteArray) = ⟨(ns.map fun n => UInt8.ofNat n.toNat).toArray⟩ := by simp
              rw [hstr] at hld
              refine goal_val (w' := w.freeze ⟨p.blk, p.off + a.off, none⟩ m) (Emb.ext_refl _ _) ?_ ?_ (.str _) ?_
              · show A.next ≤ (A.alone a.block r).next
                rw [alone_next]; exact Nat.le_refl _
              · rw [freeze_putO ho.blk (by omega)]
                refine h1.setRow (alone_row _ _ hb) hown hpa (fun x u q hx hu lu ou hq => away x u q p hx hu lu ou hq hpa) hown rfl ?_
                have hlt := h.lt _ _ hpa
                refine ⟨cs, _, { blk := putO_same w _ hlt, csz := ho.csz, opn := ho.opn, esz := ho.esz, fit := ho.fit, cell := ho.cell, frz := ?_, sb := ?_, exact := ho.exact }⟩
                · intro _ j g1 g2 g3
                  show j < p.off + max r.frz (a.off + m)
                  have hmax1 := Nat.le_max_left r.frz (a.off + m)
                  have hmax2 := Nat.le_max_right r.frz (a.off + m)
                  rcases ho.sb hown hsb with e | ⟨e1, e2⟩
                  · rw [e] at g2
                    simp at g2
                    omega
                  · have hne : (fz.1 == fz.2) = false := by simp; omega
                    rw [hne] at g1 g2
                    simp only [Bool.false_eq_true, if_false] at g1 g2
                    have hlo := ho.frz hown fz.1 (Nat.le_refl _) e1 (by omega)
                    by_cases c1 : fz.1 ≤ j ∧ j < fz.2
                    · have := ho.frz hown j c1.1 c1.2 g3; omega
                    · rcases Nat.lt_or_ge j (p.off + a.off + m) with g | g
                      · omega
                      · have : j < fz.2 := by
                          rcases Nat.lt_or_ge j fz.2 with g' | g'
                          · exact g'
                          · have := Nat.max_le.2 ⟨g', g⟩; omega
                        omega
                · intro _ _
                  right
                  have := ho.fit
                  rcases ho.sb hown hsb with e | ⟨e1, e2⟩
                  · rw [e]; simp; omega
                  · have hne : (fz.1 == fz.2) = false := by simp; omega
                    rw [hne]
                    simp only [Bool.false_eq_true, if_false]
                    omega
              · have hfr : (freeze ⟨p.blk, p.off + a.off, none⟩ m).run P w = .ok () (w.freeze ⟨p.blk, p.off + a.off, none⟩ m) := rfl
                have n1 : ¬ ((m : Int) < 0) := by omega
                have hb48 : ¬ ((m : Int) > IntKind.i64.max) := by omega
                rw [unsafeString_eq]
                rw [if_neg n1, if_neg hb48, if_neg h0]
                simp only [Sem.run_bind, hel, hvar, Result.andThen_ok, if_true, Int.toNat_natCast, hld, hfr, Sem.run_pure]
            · cases hf
          · cases hf
        · cases hf
  · cases hf
end
end Go.AM
