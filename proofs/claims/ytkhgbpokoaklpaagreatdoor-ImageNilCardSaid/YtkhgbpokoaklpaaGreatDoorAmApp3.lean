/- append behind an open row, and append itself. -/
import Derived.Test.YtkhgbpokoaklpaaGreatDoorAmApp2
namespace Go.AM
section
variable {E : Env} {P : Program} {nm : Nm} {K : Kp} {base : World} {φ : Emb} {A A' : St} {w : World} {ρ ρ' : Operand → Value} {nx : Nx}

/-- The cells of the new row. -/
theorem appOpen_cells {r : Row} {off n : Nat} {old new : List Value} (hr : r.cells.range off n = some old) (i : Nat) (hi : i < (old ++ new).length) :
    (if Nat.beq (off + n) r.size && Nat.beq off 0 then r.cells.setL r.size new else T.ofList (old ++ new)).get i = (old ++ new)[i]? := by
  obtain ⟨g1, g2⟩ := T.range_some _ _ _ _ hr
  split
  · rename_i hc
    simp only [Bool.and_eq_true, Nat.beq_eq] at hc
    obtain ⟨c1, rfl⟩ := hc
    rw [Nat.zero_add] at c1
    rw [T.get_setL, ← c1]
    simp only [List.length_append] at hi
    by_cases e : n ≤ i
    · rw [if_pos (by omega), List.getElem?_append_right (by omega), g1]
    · rw [if_neg (by omega), List.getElem?_append_left (by omega)]
      have := g2 i (by omega)
      rwa [Nat.zero_add] at this
  · exact T.get_ofList _ _

/-- Behind an open row, in its own array. -/
theorem appOpen_in (h : WR nm K base φ A w) {a : Addr} {r : Row} {p : Pl} {sz len n k' : Nat} {old new cnew cold : List Value} (hb : A.h.get a.block = some (.row r)) (hown : r.own = true) (hopn : r.opn = true)
    (hesz : r.esz = sz) (hp : φ a.block = some p) (_hfit : a.off + len * sz ≤ r.size) (hr : r.cells.range a.off (len * sz) = some old) (hfrz : r.frz ≤ a.off + len * sz)
    (hnew : LR nm φ new cnew) (hnl : new.length = n * sz) (hone : new.all one = true) (hrd : Rd nm φ w ⟨p.blk, p.off + a.off, none⟩ (len * sz) old cold)
    (hk : len + n ≤ k') (hcap : p.off + a.off + k' * p.esz ≤ p.csz) :
    ∃ φ' w', Emb.ext A.next φ φ' ∧ WR nm K base φ' (appOpen A r a r.elem sz len n old new).2 w' ∧
      VR nm φ' (appOpen A r a r.elem sz len n old new).1 (.slice (some ⟨p.blk, p.off + a.off, none⟩) (len + n) k') ∧
      (storeCells ⟨p.blk, p.off + (a.off + len * sz), none⟩ cnew).run P w = .ok () w' := by
  have hn := h.dom A.next (Nat.le_refl _)
  obtain ⟨q, hq, ⟨cs, fz, ho⟩, hK⟩ := h.obj a.block _ hb rfl
  rw [hp] at hq; cases hq
  obtain ⟨g1, g2⟩ := T.range_some _ _ _ _ hr
  have hlenN := hnew.length
  have hesz' : p.esz = sz := (ho.esz hopn).trans hesz
  have hmul : (len + n) * sz = len * sz + n * sz := Nat.add_mul _ _ _
  have hbound : p.off + a.off + (len + n) * sz ≤ cs.size := by
    rw [← ho.csz]
    have : (len + n) * sz ≤ k' * p.esz := by rw [hesz']; exact Nat.mul_le_mul_right _ hk
    omega
  have hlt := h.lt _ _ hp
  have hrun := run_storeCells P p.blk (p.off + (a.off + len * sz)) r.elem fz cnew 0 cs w ho.blk (by omega)
    (fun v hm => by
      obtain ⟨i, hi⟩ := List.getElem?_of_mem hm
      have hi' : i < new.length := by
        rcases Nat.lt_or_ge i new.length with g | g
        · exact g
        · rw [List.getElem?_eq_none (by omega)] at hi; cases hi
      obtain ⟨v', e1, e2⟩ := hnew.get? (List.getElem?_eq_getElem hi')
      rw [hi] at e1; cases e1
      rw [e2.one]
      exact List.all_eq_true.1 hone _ (List.getElem_mem hi'))
    (fun j g1 g2 g3 => by
      have := ho.frz hown j g3.1 g3.2 (by omega)
      omega)
  let p' : Pl := { blk := p.blk, off := p.off + a.off, csz := p.csz, esz := p.esz, opn := true }
  have hm := appMode_ok h hb hown hp (Nat.beq (a.off + len * sz) r.size)
  refine ⟨φ.upd A.next p', _, Emb.upd_ext _ _ _, ?_, ?_, hrun⟩
  · refine h.addRow (p := p') (r := openRow _ ((len + n) * sz) r.elem sz r.grp (r.frz - a.off) r.sb) hm.kill (by simp) (by rw [size_putO]; exact hlt) (fun B _ hB => putO_other w _ hB) ?_ ?_ hm.has hm.old ?_ ?_ rfl ⟨rfl, rfl, rfl⟩
    · cases hkk : K p'.blk with
      | none => rfl
      | some x =>
        have hK' : (K p.blk).isNone = true := hK.trans hown
        rw [show K p.blk = some x from hkk] at hK'; cases hK'
    · intro c o q hc lo hq hblk
      obtain ⟨hre, s, rfl, e2, e3, e4⟩ := hm.near c o q hc lo hq hblk
      have hreach : a.off + len * sz = r.size := Nat.eq_of_beq_eq_true hre
      refine ⟨?_, s, rfl, e2, e3, ?_⟩
      · have hcA : A.h.get c = some (.row s) := by
          rcases hm.kill c with g | g
          · rw [← g]; exact hc
          · rw [g] at hc; cases hc
        obtain ⟨q', f1, ⟨cs', fz', hs⟩, _⟩ := h.obj c _ hcA rfl
        rw [hq] at f1; cases f1
        have hbq : q.blk = p.blk := hblk
        have hsame := hs.blk
        rw [hbq, ho.blk] at hsame
        simp only [Option.some.injEq, Obj.cells.injEq] at hsame
        obtain ⟨rfl, hel, rfl⟩ := hsame
        refine ⟨spl cs (p.off + (a.off + len * sz) + 0) cnew, fz, ?_⟩
        refine { blk := ?_, csz := by rw [size_spl]; exact hs.csz, opn := hs.opn, esz := hs.esz, fit := by rw [size_spl]; exact hs.fit, cell := ?_, frz := ?_, sb := ?_, exact := by rw [size_spl]; exact hs.exact }
        · rw [hbq, ← hel]; exact putO_same w _ hlt
        · intro i hi
          rw [getD_spl _ _ _ _ (by omega), if_neg (by omega)]
          exact hs.cell i hi
        · intro o j; rw [size_spl]; exact hs.frz o j
        · intro o; rw [size_spl]; exact hs.sb o
      · show q.off + s.size ≤ p.off + a.off + (len + n) * sz
        omega
    · intro c s q hc hs hq hblk
      obtain ⟨hre, s', e1, e2, e3, e4⟩ := hm.near c _ q hs rfl hq hblk
      cases e1
      have hreach : a.off + len * sz = r.size := Nat.eq_of_beq_eq_true hre
      show q.off + s.size ≤ p.off + a.off + (len + n) * sz
      omega
    · refine ⟨spl cs (p.off + (a.off + len * sz) + 0) cnew, fz, ?_⟩
      refine { blk := putO_same w _ hlt, csz := by rw [size_spl]; exact ho.csz, opn := rfl, esz := fun _ => hesz', fit := ?_, cell := ?_, frz := ?_, sb := ?_, exact := fun g => by cases g }
      · rw [size_spl]; exact hbound
      · intro i hi
        have hi' : i < (len + n) * sz := hi
        have hii : i < (old ++ new).length := by rw [List.length_append, g1, hnl]; omega
        refine ⟨_, (appOpen_cells hr i hii).trans (List.getElem?_eq_getElem hii), ?_⟩
        show VR nm _ _ ((spl cs (p.off + (a.off + len * sz) + 0) cnew).getD (p.off + a.off + i) undef)
        rw [getD_spl _ _ _ _ (by omega)]
        obtain ⟨v', e1, e2⟩ := ((hrd.rel.append hnew).mono (Emb.upd_le p' hn)).get? (List.getElem?_eq_getElem hii)
        by_cases e : len * sz ≤ i
        · rw [if_pos (by omega)]
          rw [List.getElem?_append_right (by rw [hrd.len]; exact e), hrd.len] at e1
          rw [show p.off + a.off + i - (p.off + (a.off + len * sz) + 0) = i - len * sz from by omega, List.getD_eq_getElem?_getD, e1]
          exact e2
        · rw [if_neg (by omega)]
          rw [List.getElem?_append_left (by rw [hrd.len]; omega)] at e1
          have hc := hrd.cell i v' e1
          rw [add_mk, cell_at ho.blk] at hc
          rw [Array.getD_eq_getD_getElem?, hc]
          exact e2
      · intro _ j; rw [size_spl]
        intro j1 j2 j3
        have := ho.frz hown j j1 j2 j3
        show j < p.off + a.off + (r.frz - a.off)
        omega
      · intro _ hsb; rw [size_spl]; exact ho.sb hown hsb
  · refine .slc ⟨A.next, 0, none⟩ ⟨p.blk, p.off + a.off, none⟩ (len + n) (len + n) k' p' (Emb.upd_same _ _ _) rfl rfl rfl (.inr rfl) (fun g => by cases g) (fun _ => ⟨hk, hcap⟩) (Nat.le_refl _)

/-- Behind an open row, in a new array. -/
theorem appOpen_new (h : WR nm K base φ A w) {a : Addr} {r : Row} {p : Pl} {sz len n cap : Nat} {old new cvs : List Value} {pad : Array Value} (hb : A.h.get a.block = some (.row r)) (hown : r.own = true)
    (hp : φ a.block = some p) (hr : r.cells.range a.off (len * sz) = some old) (hv : LR nm φ (old ++ new) cvs) (hnl : new.length = n * sz)
    (hcap : len + n ≤ cap) (hpad : cvs.length + pad.size = cap * sz) :
    ∃ φ', Emb.ext A.next φ φ' ∧ WR nm K base φ' (appOpen A r a r.elem sz len n old new).2 (w.drew.alloc (.cells (cvs.toArray ++ pad) r.elem)) ∧
      VR nm φ' (appOpen A r a r.elem sz len n old new).1 (.slice (some ⟨w.heap.size, 0, none⟩) (len + n) cap) := by
  have hn := h.dom A.next (Nat.le_refl _)
  obtain ⟨g1, g2⟩ := T.range_some _ _ _ _ hr
  have hmul : (len + n) * sz = len * sz + n * sz := Nat.add_mul _ _ _
  have hlen := hv.length
  rw [List.length_append] at hlen
  let p' := plGrow w (cvs.length + pad.size) sz
  have hm := appMode_ok h hb hown hp (Nat.beq (a.off + len * sz) r.size)
  have far : ∀ c q, φ c = some q → q.blk = p'.blk → False := by
    intro c q hq hblk
    have := h.lt _ _ hq
    have e : p'.blk = w.heap.size := rfl
    omega
  have hsz : (w.drew.alloc (.cells (cvs.toArray ++ pad) r.elem)).heap.size = w.heap.size + 1 := by show (w.heap.push _).size = _; simp
  refine ⟨φ.upd A.next p', Emb.upd_ext _ _ _, ?_, ?_⟩
  · refine h.addRow (p := p') (r := openRow _ ((len + n) * sz) r.elem sz r.grp (r.frz - a.off) r.sb) hm.kill (by omega) (by show w.heap.size < _; omega) (fun B hB _ => getElem?_push_lt hB) ?_ ?_ hm.has hm.old ?_ ?_ rfl ⟨rfl, rfl, rfl⟩
    · cases hkk : K p'.blk with
      | none => rfl
      | some x => have := h.key _ _ hkk; simp [p', plGrow] at this
    · intro c o q hc lo hq hblk; exact (far c q hq hblk).elim
    · intro c s q hc hs hq hblk; exact (far c q hq hblk).elim
    · exact ⟨_, _, openRow_rel (w := w) (hp := w.heap) (hv.mono (Emb.upd_le p' hn)) (fun i hi => appOpen_cells hr i hi) (by rw [List.length_append, g1, hnl]; exact hmul) rfl⟩
  · refine .slc ⟨A.next, 0, none⟩ ⟨w.heap.size, 0, none⟩ (len + n) (len + n) cap p' (Emb.upd_same _ _ _) rfl rfl rfl (.inr rfl) (fun g => by cases g) (fun _ => ⟨hcap, ?_⟩) (Nat.le_refl _)
    show 0 + cap * sz ≤ cvs.length + pad.size
    omega

theorem storeN_zero {a b : Addr} : (storeCells a []).run P w = (storeCells b []).run P w := rfl

theorem app_ok (ok : EnvOk E P nm) (h : WR nm K base φ A w) {ts : List TypeId} {args : List Value} {args' : Array Value} {ty : TypeId} {v : Value} (ha : LR nm φ args args'.toList)
    (hf : app E A ts args = some (v, A')) : AppGoal P nm K base φ A w (Builtin.append_ ts.toArray ty args') v A' := by
  unfold app at hf
  split at hf
  · rename_i t t1 bs len cap x
    split at hf
    · rename_i e d1 hu hd
      split at hf
      · rename_i i z hi hz
        split at hf
        · rename_i n new hnew
          split at hf
          · rename_i hc
            obtain ⟨c1, c2, c3, c4, c5, c6⟩ := hc
            obtain ⟨s', l1, e1, hs, ha1⟩ := ha.cons_inv
            obtain ⟨x', l2, rfl, hx, ha2⟩ := ha1.cons_inv
            have := ha2.nil_inv
            subst this
            have hargs : args' = #[s', x'] := by
              apply Array.ext'
              exact e1
            subst hargs
            have hty : #[t, t1] = [t, t1].toArray := rfl
            rw [← hty]
            obtain ⟨cnew, hcn, hnews⟩ := newCells_ok ok h hd hx hnew
            have hsz : E.size e = some i.size := by simp [Env.size, hi]
            have hzs : ∀ w2 : World, (zeroValue e).run P w2 = .ok z w2 := fun w2 => ok.run_zero hz w2
            have hmul : (len + n) * i.size = len * i.size + n * i.size := Nat.add_mul _ _ _
            have hbytes : n * i.bytes ≤ 140737488355328 := Nat.le_trans (Nat.mul_le_mul_right _ (Nat.le_add_left n len)) c3
            have padsz : ∀ m, (Builtin.zeroCells z.cells m).size = m * i.size := by intro m; simp [Builtin.zeroCells, c5]
            have padok : ∀ cold : List Value, cold.length = len * i.size → ∀ c, (cold ++ cnew).length + (Builtin.zeroCells z.cells (grownCap w (len + n) c e - (len + n))).size = grownCap w (len + n) c e * i.size := by
              intro cold hcl c
              rw [padsz, List.length_append, hcl, ← hcn.length, c2, ← hmul, ← Nat.add_mul]
              congr 1
              have := grownCap_ge w (len + n) c e
              omega
            split at hf
            · rename_i hroom
              unfold appIn at hf
              split at hf
              · cases hf
                have hcn0 : cnew = [] := List.eq_nil_of_length_eq_zero (by rw [← hcn.length, c2]; simp)
                subst hcn0
                cases bs with
                | none =>
                  rw [hs.nils_inv]
                  refine ⟨φ, w, .slice none len cap, Emb.ext_refl _ _, Nat.le_refl _, h, .nils _ _, ?_⟩
                  rw [run_app_in (ok.run_und hu) (ok.run_inf hi) (ok.run_size hsz) hnews hroom hbytes (.inl rfl)]
                  rfl
                | some b =>
                  have hs0 := hs
                  obtain ⟨a', k', p, rfl, hp, _, _, _, _, q4, q5, _⟩ := hs.slc_inv
                  have hk : cap ≤ k' := by
                    cases ho : p.opn with
                    | true => exact (q5 ho).1
                    | false => rw [q4 ho]; exact Nat.le_refl _
                  refine ⟨φ, w, _, Emb.ext_refl _ _, Nat.le_refl _, h, hs0, ?_⟩
                  rw [run_app_in (ok.run_und hu) (ok.run_inf hi) (ok.run_size hsz) hnews (Nat.le_trans hroom hk) hbytes (.inl rfl)]
                  rfl
              · split at hf
                · cases hf
                · rename_i b
                  split at hf
                  · rename_i A1 hst
                    cases hf
                    obtain ⟨a', k', p, rfl, hp, hsp, q1, q2, q3, q4, q5, q6⟩ := hs.slc_inv
                    have hk : cap ≤ k' := by
                      cases ho : p.opn with
                      | true => exact (q5 ho).1
                      | false => rw [q4 ho]; exact Nat.le_refl _
                    have hoff : a'.off = p.off + b.off := q3.resolve_left (by omega)
                    obtain ⟨w', h1, h2, h3⟩ := h.store (P := P) (a := addA b (len * i.size)) hst hcn (p := p) hp
                    refine ⟨φ, w', _, Emb.ext_refl _ _, by rw [h3]; exact Nat.le_refl _, h2, .slc b a' _ _ _ p hp hsp q1 q2 q3 q4 q5 hroom, ?_⟩
                    rw [run_app_in (ok.run_und hu) (ok.run_inf hi) (ok.run_size hsz) hnews (Nat.le_trans hroom hk) hbytes (.inr c1)]
                    have haddr : a'.add (len * i.size) = ⟨p.blk, p.off + (addA b (len * i.size)).off, none⟩ := by
                      obtain ⟨ab, ao, as⟩ := a'
                      simp only [] at q1 q2 hoff
                      subst q1; subst q2; subst hoff
                      exact add_eq _
                    simp only [haddr, h1, Result.andThen_ok]
                  · cases hf
            · rename_i hroom
              have hn0 : 0 < len + n := by omega
              unfold appGrow at hf
              split at hf
              · split at hf
                · cases hf
                  rw [hs.nils_inv]
                  have hold : ReadsAs P w (Builtin.firstCells i.size 0 (.slice none 0 cap)) [] := fun w2 _ => by simp [Builtin.firstCells]
                  have hrun := run_app_grow (ok.run_und hu) (ok.run_inf hi) (ok.run_size hsz) hzs hnews hold hroom c4 c3 c1 (ty := ty)
                  obtain ⟨φ', e1, e2, e3⟩ := appNew_ok (e := e) (cells := new) (cvs := cnew) h hcn c2 (n := n) (cap := grownCap w (0 + n) cap e) (by have := grownCap_ge w (0 + n) cap e; omega)
                    (by have := padok [] (by simp) cap; simpa using this)
                  refine ⟨φ', _, _, e1, Nat.le_succ _, e2, e3, ?_⟩
                  rw [hrun]
                  simp
                · cases hf
              · rename_i b
                split at hf
                · rename_i r hr
                  split at hf
                  · rename_i hfit
                    split at hf
                    · cases hf
                    · rename_i old hrg
                      have hb := row?_some hr
                      obtain ⟨a', k', p, rfl, hp, hsp, q1, q2, q3, q4, q5, q6⟩ := hs.slc_inv
                      obtain ⟨q, hq, ⟨cs, fz, ho⟩, hK⟩ := h.obj b.block _ hb rfl
                      rw [hp] at hq; cases hq
                      have hload : A.loadN b (len * i.size) = some old := by
                        unfold St.loadN
                        rw [hsp, hr]
                        simp only []
                        rw [if_pos hfit]; exact hrg
                      obtain ⟨cold, hrd⟩ := h.load hload hp
                      have hold : ReadsAs P w (Builtin.firstCells i.size len (.slice (some a') len k')) cold := by
                        intro w2 hw
                        by_cases h0 : len * i.size = 0
                        · have : cold = [] := List.eq_nil_of_length_eq_zero (by rw [hrd.len, h0])
                          subst this
                          simp [Builtin.firstCells, h0, loadCells, loadCellsFrom]
                        · have hk0 : ¬ k' = 0 := by
                            intro e0
                            have hl : 0 < len := by
                              rcases Nat.eq_zero_or_pos len with g | g
                              · subst g; simp at h0
                              · exact g
                            cases hop : p.opn with
                            | true => have := (q5 hop).1; omega
                            | false => have := q4 hop; omega
                          have hoff := q3.resolve_left hk0
                          have haddr : a' = ⟨p.blk, p.off + b.off, none⟩ := by
                            obtain ⟨ab, ao, as⟩ := a'
                            simp only [] at q1 q2 hoff
                            subst q1; subst q2; subst hoff
                            rfl
                          rw [haddr]
                          have : Rd nm φ w2 ⟨p.blk, p.off + b.off, none⟩ (len * i.size) old cold := ⟨hrd.len, hrd.rel, fun j v hj => by rw [cell_same hw]; exact hrd.cell j v hj⟩
                          exact this.run
                      split at hf
                      · rename_i hop
                        split at hf
                        · rename_i hc2
                          obtain ⟨d1', d2, d3, d4⟩ := hc2
                          cases hf
                          obtain ⟨q51, q52⟩ := q5 (ho.opn.trans hop)
                          by_cases hk : len + n ≤ k'
                          · have hoff := q3.resolve_left (by omega)
                            have haddr : a' = ⟨p.blk, p.off + b.off, none⟩ := by
                              obtain ⟨ab, ao, as⟩ := a'
                              simp only [] at q1 q2 hoff
                              subst q1; subst q2; subst hoff
                              rfl
                            subst haddr
                            subst d1'
                            obtain ⟨φ', w', e1, e2, e3, e4⟩ := appOpen_in (P := P) h hb d3 hop d2 hp hfit hrg d4 hcn c2 c6 hrd hk q52
                            refine ⟨φ', w', _, e1, Nat.le_succ _, e2, e3, ?_⟩
                            rw [run_app_in (ok.run_und hu) (ok.run_inf hi) (ok.run_size hsz) hnews hk hbytes (.inr c1)]
                            simp only [add_mk, Nat.add_assoc, e4, Result.andThen_ok]
                          · subst d1'
                            have hrun := run_app_grow (ok.run_und hu) (ok.run_inf hi) (ok.run_size hsz) hzs hnews hold hk c4 c3 c1 (ty := ty)
                            obtain ⟨φ', e1, e2, e3⟩ := appOpen_new h hb d3 hp hrg (hrd.rel.append hcn) c2 (cap := grownCap w (len + n) k' r.elem) (grownCap_ge _ _ _ _) (padok cold hrd.len k')
                            exact ⟨φ', _, _, e1, Nat.le_succ _, e2, e3, hrun⟩
                        · cases hf
                      · rename_i hop
                        cases hf
                        have hkc : k' = cap := q4 (by rw [ho.opn]; exact hop)
                        subst hkc
                        have hrun := run_app_grow (ok.run_und hu) (ok.run_inf hi) (ok.run_size hsz) hzs hnews hold hroom c4 c3 c1 (ty := ty)
                        obtain ⟨φ', e1, e2, e3⟩ := appNew_ok (e := e) (n := len + n) h (hrd.rel.append hcn) (by rw [List.length_append, c2, (T.range_some _ _ _ _ hrg).1, hmul]) (cap := grownCap w (len + n) k' e) (grownCap_ge _ _ _ _) (padok cold hrd.len k')
                        exact ⟨φ', _, _, e1, Nat.le_succ _, e2, e3, hrun⟩
                  · cases hf
                · cases hf
          · cases hf
        · cases hf
      · cases hf
    · cases hf
  · cases hf
end
end Go.AM
