/- The operations, seventh part: entries, ranges, assertions. -/
import Derived.Test.YtkhgbpokoaklpaaGreatDoorAmOps6
namespace Go.AM
section
variable {E : Env} {P : Program} {nm : Nm} {K : Kp} {base : World} {φ : Emb} {A A' : St} {w : World} {ρ ρ' : Operand → Value} {nx : Nx}

theorem xMapEntry_ok (ok : EnvOk E P nm) (h : WR nm K base φ A w) (t : TypeId) (m k : Operand) (hm : VR nm φ (ρ m) (ρ' m)) (hk : VR nm φ (ρ k) (ρ' k))
    (hx : xMapEntry E A ρ t m k = some (nx, A')) : Goal P nm K base φ A w (Instr.mapEntry t (ρ' m) (ρ' k) >>= fun x => pure (Next.value x)) nx A' := by
  unfold xMapEntry at hx
  split at hx
  · rename_i kt et r hu hr
    split at hx
    · rename_i kd es c z hkd hes hz
      split at hx
      · rename_i hkk
        have hkx := hk.plainV_eq (keyOk_plain hkk)
        rw [hr] at hm
        obtain ⟨p, hp, e⟩ := hm.map_inv
        obtain ⟨ces, hc, hent⟩ := map_at h hes hp
        have hgo := run_getObj (P := P) hc (by simp)
        have hlt := h.lt _ _ hp
        split at hx
        · rename_i i v hf
          obtain ⟨r', g1, g2⟩ := findE_ok hkk es ces.toList 0 _ hent hf
          obtain ⟨v', e1, e2, e3, e0, e4, e5, e6⟩ := g2
          subst e1
          have hfk := run_findKey (w := w) ok hkd g1
          rw [Nat.sub_zero] at e4
          obtain ⟨c0, hc0, hpk, hkey, hborn, hval⟩ := hent.get? e4
          have hck : c0.key = ρ k := hkey.trans e5
          rw [e4] at hx
          simp only [] at hx
          cases hx
          have hc0' : ces[i]? = some c0 := by simpa using hc0
          have hsame : A = A.setObj r (.map es c) ∨ True := .inr trivial
          have hW : WR nm K base φ A (putO w p.blk (.map (ces.modify i fun e => { e with key := ρ k }) c)) := by
            have := h.setObj (o := .map es c) (o' := .map (es.modify i fun e => { e with val := e0.val }) c) (c := .map (ces.modify i fun e => { e with key := ρ k }) c) hes rfl rfl (by simp) (by simp) rfl hp
              ⟨_, putO_same w _ hlt, by
                rw [Array.toList_modify]
                refine hent.modify i (v' := c0.val) hval _ (fun e1 c1 he1 hc1 => ?_)
                rw [e4] at he1; cases he1
                rw [hc0] at hc1; cases hc1
                rw [e5]⟩
            have heq : es.modify i (fun e => { e with val := e0.val }) = es := by
              apply List.ext_getElem?
              intro j
              rw [List.getElem?_modify]
              cases hj : es[j]? with
              | none => simp
              | some ej =>
                by_cases hij : i = j
                · subst hij; rw [e4] at hj; cases hj; simp
                · simp [hij]
            rw [heq] at this
            -- the object is as it was
            refine { this with obj := fun b o hb => this.obj b o ?_, sep := fun b d o u p q hbd hb hd => this.sep b d o u p q hbd ?_ ?_, tip := fun g m ms hg b hb r1 s p q h1 h2 => this.tip g m ms hg b hb r1 s p q ?_ ?_, old := fun b o p hb => this.old b o p ?_ }
            all_goals
              simp only [St.setObj, T.get_set]
              split
              · rename_i e; subst e; first | (rw [hes] at hb; exact hb) | (rw [hes] at hd; exact hd) | (rw [hes] at h1; exact h1) | (rw [hes] at h2; exact h2)
              · assumption
          refine goal_val (Emb.ext_refl _ _) (Nat.le_refl _) hW (v' := .tuple #[v', goInt e0.born]) ?_ ?_
          · exact .tuple' (.cons e2 (.cons (.int _ _) .nil))
          · simp [Instr.mapEntry, ok.run_und hu w, e, hgo, hkx, run_checkKey' ok hkd hkk, hfk, hc0', hck, run_keyThatStays hkk, run_setObj hc (by simp), hborn]
        · rename_i hf
          cases hx
          obtain ⟨r', g1, g2⟩ := findE_ok hkk es ces.toList 0 _ hent hf
          simp only [] at g2
          subst g2
          have hfk := run_findKey (w := w) ok hkd g1
          have hW := h.setObj (o := .map es c) (o' := .map (es ++ [{ key := ρ k, val := z, born := c }]) (c + 1)) (c := .map (ces.push { key := ρ k, val := z, born := c }) (c + 1)) hes rfl rfl (by simp) (by simp) rfl hp
            ⟨_, putO_same w _ hlt, by rw [Array.toList_push]; exact hent.push c (keyOk_plain hkk) (.of_plainV (zero_plain hz))⟩
          refine goal_val (Emb.ext_refl _ _) (Nat.le_refl _) hW (v' := .tuple #[z, goInt c]) ?_ ?_
          · exact .tuple' (.cons (.of_plainV (zero_plain hz)) (.cons (.int _ _) .nil))
          · simp [Instr.mapEntry, ok.run_und hu w, e, hgo, hkx, run_checkKey' ok hkd hkk, hfk, ok.run_zero hz w, run_setObj hc (by simp)]
        · cases hx
      · cases hx
    · cases hx
  · cases hx

theorem findIdx_eq {es ces : List MapEntry} (h : EntR nm φ es ces) (n : Int) : ces.findIdx? (fun e => (e.born : Int) == n) = es.findIdx? (fun e => (e.born : Int) == n) := by
  induction es generalizing ces with
  | nil =>
    have : ces = [] := by have := h.1; simpa using this.symm
    subst this; rfl
  | cons e es ih =>
    obtain ⟨c, cs, rfl, _, _, h3, _, h5⟩ := h.cons_inv
    simp only [List.findIdx?_cons, h3, ih h5]

theorem xEntryStore_ok (h : WR nm K base φ A w) (t : TypeId) (m s x : Operand) (hm : VR nm φ (ρ m) (ρ' m)) (hs : VR nm φ (ρ s) (ρ' s)) (hv : VR nm φ (ρ x) (ρ' x))
    (hx : xEntryStore A ρ m s x = some (nx, A')) : Goal P nm K base φ A w (Instr.entryStore t (ρ' m) (ρ' s) (ρ' x) >>= fun _ => pure Next.skip) nx A' := by
  unfold xEntryStore at hx
  split at hx
  · rename_i r k n hr hn
    split at hx
    · rename_i es c hes
      split at hx
      · rename_i i hi
        cases hx
        rw [hr] at hm; rw [hn] at hs
        obtain ⟨p, hp, e⟩ := hm.map_inv
        obtain ⟨ces, hc, hent⟩ := map_at h hes hp
        have hgo := run_getObj (P := P) hc (by simp)
        have hlt := h.lt _ _ hp
        have hidx : ces.findIdx? (fun e => (e.born : Int) == n) = some i := by
          rw [← Array.toArray_toList (xs := ces), List.findIdx?_toArray, findIdx_eq hent, hi]
        have hW := h.setObj (o := .map es c) (o' := .map (es.modify i fun e => { e with val := ρ x }) c) (c := .map (ces.modify i fun e => { e with val := ρ' x }) c) hes rfl rfl (by simp) (by simp) rfl hp
          ⟨_, putO_same w _ hlt, by
            rw [Array.toList_modify]
            refine hent.modify i hv _ (fun e1 c1 he1 hc1 => ?_)
            obtain ⟨c2, hc2, _, hk2, _⟩ := hent.get? he1
            rw [hc1] at hc2; cases hc2
            rw [← hk2]⟩
        refine goal_skip (A' := A.setObj r _) rfl hW ?_
        simp [Instr.entryStore, e, hgo, hs.int_inv, asInt, asIntOf, hidx, run_setObj hc (by simp)]
      · cases hx
    · cases hx
  · cases hx

theorem new_eq (o : AObj) : A.new o = (A.next, { A with next := A.next + 1, h := A.h.set A.next o }) := rfl

theorem goal_new {s : Sem Value} (h : WR nm K base φ A w) (o : AObj) (c : Obj) (ho : o.own = true) (hor : ∀ p : Pl, p.blk = w.heap.size → p.off = 0 → φ.le (φ.upd A.next p) → OR nm (φ.upd A.next p) (w.heap.push c) p o)
    (hs : s.run P w = .ok (.pointer (some ⟨w.heap.size, 0, none⟩)) (w.alloc c)) :
    Goal P nm K base φ A w (s >>= fun x => pure (Next.value x)) (.val (.pointer (some ⟨A.next, 0, none⟩))) { A with next := A.next + 1, h := A.h.set A.next o } := by
  have hn := h.dom A.next (Nat.le_refl _)
  have hW := h.new A.next (plNew w 0) o c (A.next + 1) hn (Nat.le_succ _) (Nat.lt_succ_self _) rfl (hor _ rfl rfl (Emb.upd_le _ hn)) ho
  exact goal_val (Emb.upd_ext _ _ _) (Nat.le_succ _) hW (ptr_new _ _) hs

theorem xRange_ok (ok : EnvOk E P nm) (h : WR nm K base φ A w) (t : TypeId) (x : Operand) (hv : VR nm φ (ρ x) (ρ' x)) (hx : xRange E A ρ t x = some (nx, A')) :
    Goal P nm K base φ A w (Instr.range t (ρ' x) >>= fun x => pure (Next.value x)) nx A' := by
  unfold xRange at hx
  split at hx
  · rename_i s hu hr
    rw [new_eq] at hx
    cases hx
    rw [hr] at hv
    refine goal_new h _ (.stringIter s 0) rfl (fun p hp h0 _ => by simp [OR, hp, h0]) ?_
    simp [Instr.range, ok.run_und hu w, hv.str_inv, newObj, Sem.run]
  · rename_i k e hu hr
    rw [new_eq] at hx
    cases hx
    rw [hr] at hv
    cases hv' : ρ' x <;> rw [hv'] at hv <;> cases hv
    refine goal_new h _ (.mapIter none 0 #[] 0) rfl (fun p hp h0 _ => ⟨none, by simp [hp], rfl, h0⟩) ?_
    simp [Instr.range, ok.run_und hu w, newObj, Sem.run]
  · rename_i k e m hu hr
    split at hx
    · rename_i es c hes
      rw [new_eq] at hx
      cases hx
      rw [hr] at hv
      obtain ⟨q, hq, e1⟩ := hv.map_inv
      obtain ⟨ces, hc, hent⟩ := map_at h hes hq
      refine goal_new h _ (.mapIter (some q.blk) c #[] c) rfl (fun p hp h0 hle => ⟨some q.blk, by simp [hp], ⟨q, hle _ _ hq, rfl⟩, h0⟩) ?_
      simp [Instr.range, ok.run_und hu w, e1, run_getObj hc (by simp), newObj, Sem.run]
    · cases hx
  · cases hx

theorem iter_at (h : WR nm K base φ A w) {b : Nat} {o : AObj} {p : Pl} (hb : A.h.get b = some o) (hl : o.live = true) (hp : φ b = some p) : OR nm φ w.heap p o := by
  obtain ⟨q, hq, ho, _⟩ := h.obj b _ hb hl
  rw [hp] at hq; cases hq
  exact ho

theorem filter_rel {es ces : List MapEntry} (h : EntR nm φ es ces) (seen : List Nat) : EntR nm φ (es.filter fun e => !seen.contains e.born) (ces.filter fun e => !seen.contains e.born) := by
  induction es generalizing ces with
  | nil =>
    have : ces = [] := by have := h.1; simpa using this.symm
    subst this; exact .nil
  | cons e es ih =>
    obtain ⟨c, cs, rfl, h1, h2, h3, h4, h5⟩ := h.cons_inv
    have := ih h5
    simp only [List.filter_cons, h3]
    split
    · refine ⟨by rw [List.length_cons, List.length_cons, this.1], fun i e' c' g1 g2 => ?_⟩
      cases i with
      | zero => simp at g1 g2; subst g1; subst g2; exact ⟨h1, h2, h3, h4⟩
      | succ i => exact this.2 i e' c' (by simpa using g1) (by simpa using g2)
    · exact this

theorem xNext_ok (h : WR nm K base φ A w) (ty : TypeId) (it : Operand) (isStr : Bool) (hv : VR nm φ (ρ it) (ρ' it)) (hx : xNext A ρ it isStr = some (nx, A')) :
    Goal P nm K base φ A w (Instr.next (ρ' it) isStr ty >>= fun x => pure (Next.value x)) nx A' := by
  unfold xNext at hx
  split at hx
  · rename_i b hr
    rw [hr] at hv
    obtain ⟨p, hp, _, e⟩ := hv.ptr_inv
    have hlt := h.lt _ _ hp
    split at hx
    · rename_i s pos hb
      obtain ⟨ho, h0⟩ : w.heap[p.blk]? = some (.stringIter s pos) ∧ p.off = 0 := iter_at h hb rfl hp
      simp only [h0, Nat.add_zero] at e
      split at hx
      · rename_i hpos
        cases hx
        have hW := h.setObj (o := .siter s pos) (o' := .siter s (pos + (Utf8.decode s pos).2)) (c := .stringIter s (pos + (Utf8.decode s pos).2)) hb rfl rfl (by simp) (by simp) rfl hp ⟨putO_same w _ hlt, h0⟩
        refine goal_val (Emb.ext_refl _ _) (Nat.le_refl _) hW (v' := .tuple #[.bool true, goInt pos, .int .i32 (Utf8.decode s pos).1]) ?_ ?_
        · exact .tuple' (.cons (.bool _) (.cons (.int _ _) (.cons (.int _ _) .nil)))
        · simp [Instr.next, e, run_getObj ho (by simp), hpos, run_setObj ho (by simp)]
      · rename_i hpos
        cases hx
        refine goal_here h (v' := .tuple #[.bool false]) (.tuple' (.cons (.bool _) .nil)) ?_
        simp [Instr.next, e, run_getObj ho (by simp), hpos]
    · rename_i x1 x2 x3 hb
      cases hx
      obtain ⟨m', ho, hm, h0⟩ := iter_at h hb rfl hp
      simp only [] at hm
      subst hm
      simp only [h0, Nat.add_zero] at e
      refine goal_here h (v' := .tuple #[.bool false]) (.tuple' (.cons (.bool _) .nil)) ?_
      simp [Instr.next, e, run_getObj ho (by simp)]
    · rename_i m since seen stepped hb
      obtain ⟨m', ho, ⟨q, hq, rfl⟩, h0⟩ := iter_at h hb rfl hp
      simp only [h0, Nat.add_zero] at e
      split at hx
      · rename_i es c hes
        split at hx
        · rename_i hc
          obtain ⟨hc1, hc2, hall⟩ := hc
          subst hc1
          subst hc2
          obtain ⟨ces, hcc, hent⟩ := map_at h hes hq
          have hgo := run_getObj (P := P) ho (by simp)
          have hgm := run_getObj (P := P) hcc (by simp)
          have hbornC : ∀ x, x ∈ ces.toList → x.born < c := by
            intro x hx
            obtain ⟨i, hi⟩ := List.getElem?_of_mem hx
            have hi' : i < es.length := by
              rcases Nat.lt_or_ge i es.length with g | g
              · exact g
              · rw [List.getElem?_eq_none (by rw [← hent.1]; exact g)] at hi; cases hi
            obtain ⟨c1, hc1, _, _, hb1, _⟩ := hent.get? (List.getElem?_eq_getElem hi')
            rw [hi] at hc1; cases hc1
            have := List.all_eq_true.1 hall _ (List.getElem_mem hi')
            rw [hb1]; exact Nat.le_of_ble_eq_true this
          have hfil := filter_rel hent seen
          have hleft : ∀ l, ces.toList.filter (fun e => !seen.contains e.born) = l → ces.filter (fun e => !seen.toArray.contains e.born) = l.toArray := by
            intro l hl
            apply Array.ext'
            rw [Array.toList_filter]
            simp only [List.contains_toArray]
            exact hl
          have hguard : (!seen.toArray.isEmpty && !ces.isEmpty && ces.all (fun x => decide (x.born ≥ c))) = false := by
            cases hce : ces.isEmpty with
            | true => simp
            | false =>
              have : ces.all (fun x => decide (x.born ≥ c)) = false := by
                rw [← Array.all_toList]
                cases hl : ces.toList with
                | nil => 
                  have : ces = #[] := by apply Array.ext'; rw [hl]
                  subst this; simp at hce
                | cons x xs =>
                  have := hbornC x (by rw [hl]; simp)
                  simp; intro hge; omega
              rw [this]; simp
          split at hx
          · rename_i hnil
            cases hx
            rw [hnil] at hfil
            have hcnil : ces.toList.filter (fun e => !seen.contains e.born) = [] := by have := hfil.1; simpa using this.symm
            have hl := hleft _ hcnil
            refine goal_here h (v' := .tuple #[.bool false]) (.tuple' (.cons (.bool _) .nil)) ?_
            have hf1 : ∀ f : MapEntry → Bool, (#[] : Array MapEntry).filter f = #[] := fun f => by simp
            simp only [Instr.next, e, Sem.run_bind, hgo, hgm, Result.andThen_ok, hguard, hl, hf1, Bool.false_eq_true, if_false]
            simp [choose, Sem.run, Question.forced]
          · rename_i e1 hone
            cases hx
            rw [hone] at hfil
            obtain ⟨c1, cs1, hcl, g1, g2, g3, g4, g5⟩ := hfil.cons_inv
            have : cs1 = [] := by have := g5.1; simpa using this.symm
            subst this
            have hl := hleft _ hcl
            have hc1 : c1.born < c := hbornC c1 (by
              have : c1 ∈ ces.toList.filter (fun e => !seen.contains e.born) := by rw [hcl]; simp
              exact (List.mem_filter.1 this).1)
            have hold : ([c1].toArray.filter fun x => decide (x.born < c)) = #[c1] := by
              apply Array.ext'; rw [Array.toList_filter]; simp [hc1]
            have hnew : ([c1].toArray.filter fun x => decide (x.born ≥ c)) = #[] := by
              apply Array.ext'; rw [Array.toList_filter]; simp; omega
            have hW := h.setObj (o := .miter (some m) c seen c) (o' := .miter (some m) c (seen ++ [e1.born]) c) (c := .mapIter (some q.blk) c (seen.toArray.push c1.born) c) hb rfl rfl (by simp) (by simp) rfl hp
              ⟨some q.blk, by rw [putO_same w _ hlt, g3]; simp, ⟨q, hq, rfl⟩, h0⟩
            refine goal_val (Emb.ext_refl _ _) (Nat.le_refl _) hW (v' := .tuple #[.bool true, c1.key, c1.val]) ?_ ?_
            · rw [g2]; exact .tuple' (.cons (.bool _) (.cons (.of_plainV g1) (.cons g4 .nil)))
            · simp only [Instr.next, e, Sem.run_bind, hgo, hgm, Result.andThen_ok, hguard, hl, hold, hnew]
              simp only [Bool.false_eq_true, if_false]
              simp [choose, Sem.run, Question.forced]
              rw [run_setObj ho (by simp)]
              rfl
          · cases hx
        · cases hx
      · cases hx
    · cases hx
  · cases hx
end
end Go.AM
