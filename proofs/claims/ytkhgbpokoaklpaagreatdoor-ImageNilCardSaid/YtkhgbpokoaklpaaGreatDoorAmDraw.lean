/- Regions that run in whatever order. -/
import Derived.Test.YtkhgbpokoaklpaaGreatDoorAmHide
namespace Go.AM
section
variable {E : Env} {P : Program} {nm : Nm} {K : Kp} {base : World} {φ ψ : Emb} {A A' : St} {w : World}

/-- Which of a region's operations are done (S), and what the model's state is then. -/
structure Inv (E : Env) (nm : Nm) (K : Kp) (base : World) (φ0 : Emb) (nt : Nat) (ops : Array Oper) (rid0 : Nat) (F : Nat → Fr) (G : Nat → St) (V : Nat → Value) (κ : Nat → Nat) (fr0 : Fr)
    (S : Nat → Prop) (β : Nat) (K' : Kp) (φ : Emb) (pl : Nat → Pl) (a : Act) (w : World) : Prop where
  wr : WR nm K' base φ (G β) w
  ext : Emb.ext rid0 φ0 φ
  le : φ0.le φ
  nx : rid0 + ops.size ≤ (G β).next
  bnd : β ≤ ops.size
  beff : β = 0 ∨ ∃ e, β = e + 1 ∧ S e ∧ κ e = 2
  eff : ∀ j, S j → κ j = 2 → j < β
  closed : ∀ i o, ops[i]? = some o → S i → ∀ e, e ∈ o.after → Region.binds .any e = true → S e.on
  inr : ∀ j, S j → j < ops.size
  s1 : ∀ j o t, S j → ops[j]? = some o → o.dst = some t → VR nm φ (V j) (a.tmps.getD t undef)
  s2 : ∀ t, (∀ j o, S j → ops[j]? = some o → o.dst ≠ some t) → VR nm φ ((fr0.tm.get t).getD undef) (a.tmps.getD t undef)
  sz : a.tmps.size = nt
  mrk : MR φ fr0.marks a.defers
  nofresh : ∀ j, j < ops.size → κ j = 3 → ¬ S j → φ (rid0 + j) = none
  hid : ∀ j, S j → κ j = 3 → β ≤ j → ∃ u c, G (j + 1) = { G j with h := (G j).h.set (rid0 + j) u } ∧ u.own = true ∧ φ (rid0 + j) = some (pl j) ∧ K' (pl j).blk = some c ∧ OR nm φ w.heap (pl j) u ∧ K (pl j).blk = none ∧ base.heap.size ≤ (pl j).blk
  hinj : ∀ i j, S i → S j → κ i = 3 → κ j = 3 → β ≤ i → β ≤ j → i ≠ j → (pl i).blk ≠ (pl j).blk
  kh : ∀ b o, K b = some o → K' b = some o
  kd : ∀ b o, K' b = some o → K b = some o ∨ ∃ j, S j ∧ κ j = 3 ∧ β ≤ j ∧ (pl j).blk = b

section
variable {rec_ : Rec} {nt rid0 β : Nat} {ops : Array Oper} {φ0 : Emb} {F : Nat → Fr} {G : Nat → St} {V : Nat → Value} {κ : Nat → Nat} {fr0 : Fr} {S : Nat → Prop} {K' : Kp} {pl : Nat → Pl} {a : Act}

theorem StepT.same {i : Nat} {o : Oper} (h : StepT E rec_ nt ops rid0 F G V κ i o) (h2 : κ i ≠ 2) (h3 : κ i ≠ 3) : G (i + 1) = G i := by
  rcases h with ⟨_, _, _, h, _⟩ | ⟨_, _, _, _, _, h⟩ | ⟨h, _⟩ | ⟨h, _⟩
  · exact h
  · exact h
  · exact absurd h h3
  · exact absurd h h2

/-- What was kept aside is taken up, as far as a place. -/
theorem Inv.adopt (v : Inv E nm K base φ0 nt ops rid0 F G V κ fr0 S β K' φ pl a w) (hstep : ∀ i o, ops[i]? = some o → StepT E rec_ nt ops rid0 F G V κ i o) : ∀ m, β + m ≤ ops.size → (∀ j, β ≤ j → j < β + m → κ j ≠ 2 ∧ (κ j = 3 → S j)) →
    ∃ K'', WR nm K'' base φ (G (β + m)) w ∧ (∀ b o, K b = some o → K'' b = some o) ∧ (∀ b o, K'' b = some o → K b = some o ∨ ∃ j, S j ∧ κ j = 3 ∧ β + m ≤ j ∧ (pl j).blk = b) ∧
      (∀ j, S j → κ j = 3 → β + m ≤ j → K'' (pl j).blk = K' (pl j).blk) ∧ (G (β + m)).next = (G β).next := by
  intro m
  induction m with
  | zero => intro _ _; exact ⟨K', v.wr, v.kh, v.kd, fun _ _ _ _ => rfl, rfl⟩
  | succ m ih =>
    intro hm hj
    obtain ⟨K1, h1, h2, h3, h4, h5⟩ := ih (by omega) (fun j g1 g2 => hj j g1 (by omega))
    obtain ⟨c1, c2⟩ := hj (β + m) (by omega) (by omega)
    have hlt : β + m < ops.size := by omega
    have ho : ops[β + m]? = some ops[β + m] := Array.getElem?_eq_getElem hlt
    have hst := hstep _ _ ho
    rw [show β + (m + 1) = β + m + 1 from by omega]
    by_cases h3k : κ (β + m) = 3
    · obtain ⟨u, c, e1, e2, e3, e4, e5, e6, e7⟩ := v.hid (β + m) (c2 h3k) h3k (by omega)
      have hk1 : K1 (pl (β + m)).blk = some c := (h4 _ (c2 h3k) h3k (Nat.le_refl _)).trans e4
      refine ⟨fun B => if B = (pl (β + m)).blk then none else K1 B, ?_, ?_, ?_, ?_, ?_⟩
      · rw [e1]; exact h1.adopt e3 hk1 e5 e2 e7
      · intro b o hb
        show (if b = _ then none else K1 b) = some o
        rw [if_neg (by rintro rfl; rw [e6] at hb; cases hb)]
        exact h2 b o hb
      · intro b o hb
        have hb' : (if b = (pl (β + m)).blk then none else K1 b) = some o := hb
        split at hb'
        · cases hb'
        · rename_i hne
          rcases h3 b o hb' with g | ⟨j, g1, g2, g3, g4⟩
          · exact .inl g
          · refine .inr ⟨j, g1, g2, ?_, g4⟩
            rcases Nat.lt_or_ge (β + m) j with q | q
            · omega
            · have : j = β + m := by omega
              subst this; exact absurd g4.symm hne
      · intro j g1 g2 g3
        show (if (pl j).blk = _ then none else K1 _) = _
        rw [if_neg (v.hinj j (β + m) g1 (c2 h3k) g2 h3k (by omega) (by omega) (by omega))]
        exact h4 j g1 g2 (by omega)
      · rw [e1]; exact h5
    · rw [hst.same c1 h3k]
      refine ⟨K1, h1, h2, fun b o hb => ?_, fun j g1 g2 g3 => h4 j g1 g2 (by omega), h5⟩
      rcases h3 b o hb with g | ⟨j, g1, g2, g3, g4⟩
      · exact .inl g
      · refine .inr ⟨j, g1, g2, ?_, g4⟩
        rcases Nat.lt_or_ge (β + m) j with q | q
        · omega
        · have : j = β + m := by omega
          subst this; exact absurd g2 h3k

/-- The evaluator's slots. -/
structure Slots (ops : Array Oper) (F : Nat → Fr) (V : Nat → Value) (fr0 : Fr) (i : Nat) : Prop where
  s1 : ∀ j o t, j < i → ops[j]? = some o → o.dst = some t → ((F i).tm.get t).getD undef = V j
  s2 : ∀ t, (∀ j o, j < i → ops[j]? = some o → o.dst ≠ some t) → ((F i).tm.get t).getD undef = (fr0.tm.get t).getD undef
  mrk : (F i).marks = fr0.marks

theorem put_slot {fr fr' : Fr} {d : Option Tmp} {x : Value} (h : Fr.put nt fr d x = some fr') :
    (∀ t, d = some t → (fr'.tm.get t).getD undef = x ∧ t < nt) ∧ (∀ t, d ≠ some t → (fr'.tm.get t).getD undef = (fr.tm.get t).getD undef) ∧ fr'.marks = fr.marks := by
  unfold Fr.put at h
  cases d with
  | none => cases h; exact ⟨fun t e => (by cases e), fun _ _ => rfl, rfl⟩
  | some d =>
    simp only [] at h
    split at h
    · rename_i hd
      cases h
      refine ⟨fun t e => ?_, fun t e => ?_, rfl⟩
      · cases e
        refine ⟨?_, by simpa using hd⟩
        show ((fr.tm.set d x).get d).getD undef = x
        rw [T.get_set_same]; rfl
      · show ((fr.tm.set d x).get t).getD undef = _
        rw [T.get_set_other _ _ (by rintro rfl; exact e rfl)]
    · cases h

theorem doOp_put {o : Oper} {fr fr1 : Fr} {A1 : St} (h : doOp E rec_ nt o fr A = some (fr1, A1)) : ∃ x, Fr.put nt fr o.dst x = some fr1 := by
  unfold doOp at h
  split at h
  · cases h
  unfold doNx at h
  split at h
  · exact ⟨_, (doVal_put h).1⟩
  · exact ⟨_, (doVal_put h).1⟩
  · unfold doEnter at h
    split at h
    · exact ⟨_, (doVal_put h).1⟩
    · cases h
  · cases h

theorem StepT.putV {i : Nat} {o : Oper} (h : StepT E rec_ nt ops rid0 F G V κ i o) : ∃ x, Fr.put nt (F i) o.dst x = some (F (i + 1)) ∧ (∀ t, o.dst = some t → x = V i) := by
  rcases h with ⟨_, _, h, _, hv⟩ | ⟨_, _, _, _, h, _⟩ | ⟨_, _, _, _, h⟩ | ⟨_, _, _, _, h, hv⟩
  · exact ⟨_, h, fun _ _ => hv.symm⟩
  · exact ⟨_, h, fun _ _ => rfl⟩
  · exact ⟨_, h, fun _ _ => rfl⟩
  · obtain ⟨x, hx⟩ := doOp_put h
    refine ⟨x, hx, fun t ht => ?_⟩
    rw [hv, ht]
    exact (((put_slot hx).1 t ht).1).symm

theorem dst_ne (hr : regOk E ops = true) {i j : Nat} {x y : Oper} (hij : i ≠ j) (hi : ops[i]? = some x) (hj : ops[j]? = some y) {t : Tmp} (hx : x.dst = some t) : y.dst ≠ some t := by
  intro hy
  rcases Nat.lt_or_gt_of_ne hij with h | h
  · have := pair_at hr h hi hj
    simp [pairOk, brief, hx, hy, sameDst] at this
  · have := pair_at hr h hj hi
    simp [pairOk, brief, hx, hy, sameDst] at this

theorem slots_ok (hr : regOk E ops = true) (hstep : ∀ i o, ops[i]? = some o → StepT E rec_ nt ops rid0 F G V κ i o) (hF : F 0 = fr0) : ∀ i, i ≤ ops.size → Slots ops F V fr0 i
  | 0, _ => ⟨fun j o t h => by omega, fun t _ => by rw [hF], by rw [hF]⟩
  | i + 1, hi => by
    have hlt : i < ops.size := by omega
    have ho : ops[i]? = some ops[i] := Array.getElem?_eq_getElem hlt
    obtain ⟨x, hx, hxV⟩ := (hstep i _ ho).putV
    obtain ⟨p1, p2, p3⟩ := put_slot hx
    have ih := slots_ok hr hstep hF i (by omega)
    refine ⟨fun j o t hj hoj ht => ?_, fun t ht => ?_, p3.trans ih.mrk⟩
    · by_cases e : j = i
      · subst e
        rw [ho] at hoj; cases hoj
        rw [(p1 t ht).1, hxV t ht]
      · rw [p2 t (dst_ne hr e hoj ho ht)]
        exact ih.s1 j o t (by omega) hoj ht
    · rw [p2 t (fun e => ht i _ (Nat.lt_succ_self _) ho e)]
      exact ih.s2 t fun j o hj => ht j o (by omega)

/-- A slot that an operation looks at, when it may run. -/
theorem Inv.slot (v : Inv E nm K base φ0 nt ops rid0 F G V κ fr0 S β K' φ pl a w) (hr : regOk E ops = true) {i : Nat} {o : Oper} (sl : Slots ops F V fr0 i) (ho : ops[i]? = some o) (hS : ¬ S i)
    (hready : ∀ e, e ∈ o.after → Region.binds .any e = true → S e.on) {t : Tmp} (ht : t ∈ looks ops o) : VR nm φ (((F i).tm.get t).getD undef) (a.tmps.getD t undef) := by
  have hed : edgesOk ops = true := by unfold regOk at hr; rw [Bool.and_eq_true] at hr; exact hr.1
  have hit : ∀ (d : Option Tmp) (l : List Tmp), d = some t → t ∈ l → hits d l = true := by
    rintro d l rfl hl
    unfold hits
    rw [List.any_eq_true]
    exact ⟨t, hl, Nat.beq_refl t⟩
  by_cases hex : ∃ (j : Nat) (o' : Oper), ops[j]? = some o' ∧ o'.dst = some t
  · obtain ⟨j, o', hj, hd⟩ := hex
    rcases Nat.lt_or_ge j i with g | g
    · rw [sl.s1 j o' t g hj hd]
      refine v.s1 j o' t ?_ hj hd
      have hp := pair_at hr g hj ho
      unfold pairOk at hp
      simp only [brief, Bool.and_eq_true, Bool.or_eq_true] at hp
      rcases hp.2 with q | q
      · exact bef_closed hed S v.closed i j o ho hready q
      · have := hit o'.dst (looks ops o) hd ht
        rw [this] at q
        simp at q
    · rw [sl.s2 t (fun j' o'' hj' hoj' => dst_ne hr (by omega) hj hoj' hd)]
      refine v.s2 t fun j' o'' hj' hoj' e => ?_
      have hjj : j' = j := Classical.byContradiction fun hne => dst_ne hr (Ne.symm hne) hj hoj' hd e
      subst hjj
      rcases Nat.lt_or_ge i j' with q | q
      · have hp := pair_at hr q ho hj
        unfold pairOk at hp
        simp only [brief, Bool.and_eq_true, Bool.or_eq_true] at hp
        rcases hp.2 with k | k
        · exact hS (bef_closed hed S v.closed j' i o' hj (v.closed j' o' hj hj') k)
        · have := hit o'.dst (looks ops o) hd ht
          rw [this] at k
          simp at k
      · have : j' = i := by omega
        subst this; exact hS hj'
  · rw [sl.s2 t (fun j o' _ hj e => hex ⟨j, o', hj, e⟩)]
    exact v.s2 t fun j o' _ hj e => hex ⟨j, o', hj, e⟩

theorem guard_slot {fr : Fr} {o : Oper} (hs : ∀ t, t ∈ looks ops o → VR nm φ ((fr.tm.get t).getD undef) (a.tmps.getD t undef)) : Region.wanted o (yielded ops a.tmps) = guardOk ops o fr := by
  unfold Region.wanted guardOk
  cases hgd : o.guard with
  | none => rfl
  | some g =>
    obtain ⟨j, want⟩ := g
    simp only []
    unfold yielded
    cases hd : (ops[j]?).bind (·.dst) with
    | none => rfl
    | some t =>
      simp only [Option.bind_some]
      have ht := hs t (by unfold looks; rw [hgd]; simp [hd])
      cases h1 : fr.tm.get t with
      | none =>
        rw [h1] at ht
        simp only [Option.getD_none] at ht
        cases h2 : a.tmps[t]? with
        | none => rfl
        | some c =>
          have : a.tmps.getD t undef = c := by rw [Array.getD_eq_getD_getElem?, h2]; rfl
          rw [this] at ht
          cases ht
          rfl
      | some v =>
        rw [h1] at ht
        simp only [Option.getD_some] at ht
        cases h2 : a.tmps[t]? with
        | none =>
          have : a.tmps.getD t undef = undef := by rw [Array.getD_eq_getD_getElem?, h2]; rfl
          rw [this] at ht
          cases ht
          rfl
        | some c =>
          have : a.tmps.getD t undef = c := by rw [Array.getD_eq_getD_getElem?, h2]; rfl
          rw [this] at ht
          cases ht <;> first | rfl | (simp only []; cases want <;> rename_i b <;> cases b <;> rfl)

theorem ops_slot {fr : Fr} {o : Oper} (hg : Gl E φ) (hs : ∀ t, t ∈ looks ops o → VR nm φ ((fr.tm.get t).getD undef) (a.tmps.getD t undef)) (x : Operand) (hx : x ∈ o.op.operands.toList) (hl : litOk E x = true) :
    VR nm φ (evalO fr x) (a.eval x) := by
  cases x with
  | tmp t =>
    refine hs t ?_
    unfold looks
    refine List.mem_append_left _ (List.mem_filterMap.2 ⟨.tmp t, hx, rfl⟩)
  | const v => exact .of_plainV hl
  | global g =>
    obtain ⟨p, h1, h2, h3⟩ := hg g (by simpa [litOk] using hl)
    have := VR.ptr (nm := nm) (φ := φ) ⟨g, 0, none⟩ p h1 rfl
    simpa [evalO, Act.eval, h2, h3] using this
  | func f => exact .func' (.func f) .nil .nil

/-- An effect stands behind what is ahead of it and makes or changes something. -/
theorem ahead_eff (hr : regOk E ops = true) {i j : Nat} {x y : Oper} (hij : i < j) (hi : ops[i]? = some x) (hj : ops[j]? = some y) (hx : (isFloat E x = false ∧ isAlloc x = false) ∨ isAlloc x = true) (hy : isFloat E y = false ∧ isAlloc y = false) :
    (bef ops j).testBit i = true := by
  have hp := pair_at hr hij hi hj
  unfold pairOk at hp
  simp only [brief, Bool.and_eq_true, Bool.or_eq_true] at hp
  rcases hp.2 with q | q
  · exact q
  · rcases hx with ⟨h1, h2⟩ | h1 <;> simp [hy.1, hy.2, *] at q

theorem put_tmps {d : Option Tmp} {v' : Value} (hsz : a.tmps.size = nt) : (∀ t, d = some t → t < nt → (a.put d v').tmps.getD t undef = v') ∧ (∀ t, d ≠ some t → (a.put d v').tmps.getD t undef = a.tmps.getD t undef) ∧ (a.put d v').tmps.size = nt ∧ (a.put d v').defers = a.defers := by
  cases d with
  | none => exact ⟨fun t e => (by cases e), fun _ _ => rfl, hsz, rfl⟩
  | some d =>
    refine ⟨fun t e hlt => ?_, fun t e => ?_, by simp [Act.put, hsz], rfl⟩
    · cases e
      show (a.tmps.setIfInBounds d v').getD d undef = v'
      simp [Array.getD_eq_getD_getElem?, hsz, hlt]
    · show (a.tmps.setIfInBounds d v').getD t undef = _
      have : d ≠ t := by rintro rfl; exact e rfl
      simp [Array.getD_eq_getD_getElem?, this]

/-- One operation more is done. -/
theorem Inv.slots1 (v : Inv E nm K base φ0 nt ops rid0 F G V κ fr0 S β K' φ pl a w) (hr : regOk E ops = true) {i : Nat} {o : Oper} (ho : ops[i]? = some o) (hle : φ.le ψ) {v' : Value} {x : Value} {frx : Fr} (hp : Fr.put nt (F i) o.dst x = some frx) (hv : ∀ t, o.dst = some t → VR nm ψ (V i) v') :
    (∀ j o' t, (S j ∨ j = i) → ops[j]? = some o' → o'.dst = some t → VR nm ψ (V j) ((a.put o.dst v').tmps.getD t undef)) ∧
    (∀ t, (∀ j o', (S j ∨ j = i) → ops[j]? = some o' → o'.dst ≠ some t) → VR nm ψ ((fr0.tm.get t).getD undef) ((a.put o.dst v').tmps.getD t undef)) := by
  obtain ⟨q1, q2, _⟩ := put_slot hp
  obtain ⟨p1, p2, _⟩ := put_tmps (d := o.dst) (v' := v') v.sz
  refine ⟨fun j o' t hj hoj ht => ?_, fun t hall => ?_⟩
  · by_cases e : j = i
    · subst e
      rw [ho] at hoj; cases hoj
      rw [p1 t ht (q1 t ht).2]
      exact hv t ht
    · rw [p2 t (dst_ne hr e hoj ho ht)]
      exact (v.s1 j o' t (hj.resolve_right e) hoj ht).mono hle
  · rw [p2 t (hall i o (.inr rfl) ho)]
    exact (v.s2 t fun j o' hj => hall j o' (.inl hj)).mono hle

theorem Inv.step (ok : EnvOk E P nm) (hc : CallOK E P nm rec_.call) (hg0 : Gl E φ0) (v : Inv E nm K base φ0 nt ops rid0 F G V κ fr0 S β K' φ pl a w) (hr : regOk E ops = true)
    (hstep : ∀ i o, ops[i]? = some o → StepT E rec_ nt ops rid0 F G V κ i o) (hsl : ∀ i, i ≤ ops.size → Slots ops F V fr0 i)
    (hchk : ∀ i o, ops[i]? = some o → κ i = 1 → ∀ β', (β' = 0 ∨ ∃ e, β' = e + 1 ∧ e < ops.size ∧ κ e = 2) →
      (∀ k, k < ops.size → κ k = 2 → if k < β' then (bef ops k).testBit i = false else (bef ops i).testBit k = false) → ∃ A', opX E (G β') (evalO (F i)) o = some (.val (V i), A'))
    {i : Nat} {o : Oper} (ho : ops[i]? = some o) (hS : ¬ S i) (hready : ∀ e, e ∈ o.after → Region.binds .any e = true → S e.on) {Q : Exit → Act → World → Prop} :
    wpOp P ops Q i (fun a' w' => ∃ β' K'' φ' pl', Inv E nm K base φ0 nt ops rid0 F G V κ fr0 (fun j => S j ∨ j = i) β' K'' φ' pl' a' w') a w := by
  have hed : edgesOk ops = true := by unfold regOk at hr; rw [Bool.and_eq_true] at hr; exact hr.1
  have hlt : i < ops.size := (Array.getElem?_eq_some_iff.1 ho).1
  have sl := hsl i (by omega)
  have hlook : ∀ t, t ∈ looks ops o → VR nm φ (((F i).tm.get t).getD undef) (a.tmps.getD t undef) := fun t ht => v.slot hr sl ho hS hready ht
  have hg : Gl E φ := hg0.mono v.le
  have hρ := fun x hx hl => ops_slot (o := o) (fr := F i) hg hlook x hx hl
  have hw := guard_slot (ops := ops) (o := o) hlook
  have hcl' : ∀ j o', ops[j]? = some o' → (S j ∨ j = i) → ∀ e, e ∈ o'.after → Region.binds .any e = true → (S e.on ∨ e.on = i) := by
    intro j o' hj hSj e he hb
    rcases hSj with g | g
    · exact .inl (v.closed j o' hj g e he hb)
    · subst g; rw [ho] at hj; cases hj; exact .inl (hready e he hb)
  have hin' : ∀ j, (S j ∨ j = i) → j < ops.size := by
    rintro j (g | g)
    · exact v.inr j g
    · omega
  have hst := hstep i o ho
  obtain ⟨x0, hx0, hxV⟩ := hst.putV
  obtain ⟨_, _, p3, p4⟩ := put_tmps (d := o.dst) (v' := undef) v.sz
  unfold wpOp
  simp only [ho]
  rw [hw]
  rcases hst with ⟨hκ, hgo, hp, hG, hV⟩ | ⟨hκ, hgo, hfl, _, hp, hG⟩ | ⟨hκ, hgo, hal, ⟨A1, hop, hG⟩, hp⟩ | ⟨hκ, hgo, hfl, hal, hop, hV⟩
  · -- not wanted
    rw [hgo]
    simp only [Bool.false_eq_true, if_false]
    obtain ⟨t1, t2⟩ := v.slots1 hr ho (Emb.le_refl φ) (v' := undef) hp (fun t _ => by rw [hV]; exact .undef)
    refine ⟨β, K', φ, pl, { wr := v.wr, ext := v.ext, le := v.le, nx := v.nx, bnd := v.bnd, beff := ?_, eff := ?_, closed := hcl', inr := hin', s1 := t1, s2 := t2, sz := p3, mrk := by rw [p4]; exact v.mrk, nofresh := ?_, hid := ?_, hinj := ?_, kh := v.kh, kd := ?_ }⟩
    · rcases v.beff with g | ⟨e, g1, g2, g3⟩
      · exact .inl g
      · exact .inr ⟨e, g1, .inl g2, g3⟩
    · rintro j (g | g) hj
      · exact v.eff j g hj
      · subst g; rw [hκ] at hj; cases hj
    · intro j h1 h2 h3; exact v.nofresh j h1 h2 (fun g => h3 (.inl g))
    · rintro j (g | g) h1 h2
      · exact v.hid j g h1 h2
      · subst g; rw [hκ] at h1; cases h1
    · rintro j k (g | g) (g' | g') h1 h2
      · exact v.hinj j k g g' h1 h2
      · subst g'; rw [hκ] at h2; cases h2
      · subst g; rw [hκ] at h1; cases h1
      · subst g; rw [hκ] at h1; cases h1
    · intro b c hb
      rcases v.kd b c hb with g | ⟨j, g1, g2⟩
      · exact .inl g
      · exact .inr ⟨j, .inl g1, g2⟩
  · -- a value alone
    rw [hgo]
    simp only [if_true]
    left
    obtain ⟨A', hopβ⟩ := hchk i o ho hκ β (v.beff.imp id fun ⟨e, g1, g2, g3⟩ => ⟨e, g1, v.inr e g2, g3⟩) (fun k hk hk2 => by
      have hok : ops[k]? = some ops[k] := Array.getElem?_eq_getElem hk
      split
      · rename_i hkβ
        -- an effect that is done
        have hSk : S k := by
          rcases v.beff with g | ⟨e, g1, g2, g3⟩
          · omega
          · by_cases e1 : k = e
            · subst e1; exact g2
            · have hlt' : k < e := by omega
              have hes := v.inr e g2
              have hoe : ops[e]? = some ops[e] := Array.getElem?_eq_getElem hes
              have kk : ∀ z (hz : z < ops.size), κ z = 2 → isFloat E ops[z] = false ∧ isAlloc ops[z] = false := by
                intro z hz hz2
                rcases hstep z _ (Array.getElem?_eq_getElem hz) with ⟨q, _⟩ | ⟨q, _⟩ | ⟨q, _⟩ | ⟨_, _, q1, q2, _⟩
                · rw [hz2] at q; cases q
                · rw [hz2] at q; cases q
                · rw [hz2] at q; cases q
                · exact ⟨q1, q2⟩
              exact bef_closed hed S v.closed e k _ hoe (v.closed e _ hoe g2) (ahead_eff hr hlt' hok hoe (.inl (kk k hk hk2)) (kk e (v.inr e g2) g3))
        cases hb : (bef ops k).testBit i with
        | false => rfl
        | true => exact absurd (bef_closed hed S v.closed k i _ hok (v.closed k _ hok hSk) hb) hS
      · rename_i hkβ
        cases hb : (bef ops i).testBit k with
        | false => rfl
        | true => exact absurd (v.eff k (bef_closed hed S v.closed i k o ho hready hb) hk2) hkβ)
    have hA := float_same hfl hopβ
    subst hA
    obtain ⟨φ', w', g1, g2, g3, v', g4, g5⟩ := opX_rel ok v.wr hρ hopβ
    have hle := v.wr.le g1
    have hkeep : ∀ j, S j → κ j = 3 → β ≤ j → w'.heap[(pl j).blk]? = w.heap[(pl j).blk]? := by
      intro j h1 h2 h3
      obtain ⟨u, c, _, _, _, e4, _⟩ := v.hid j h1 h2 h3
      rw [v.wr.key _ _ e4, g3.key _ _ e4]
    unfold Oper.wp
    rw [g5]
    obtain ⟨_, _, p3, p4⟩ := put_tmps (d := o.dst) (v' := v') v.sz
    obtain ⟨t1, t2⟩ := v.slots1 hr ho hle (v' := v') hp (fun t _ => g4)
    refine ⟨β, K', φ', pl, { wr := g3, ext := ?_, le := Emb.le_trans v.le hle, nx := v.nx, bnd := v.bnd, beff := ?_, eff := ?_, closed := hcl', inr := hin', s1 := t1, s2 := t2, sz := p3, mrk := by rw [p4]; exact v.mrk.mono hle, nofresh := ?_, hid := ?_, hinj := ?_, kh := v.kh, kd := ?_ }⟩
    · exact Emb.ext_trans v.ext g1 (by have := v.nx; omega)
    · rcases v.beff with g | ⟨e, g1, g2, g3⟩
      · exact .inl g
      · exact .inr ⟨e, g1, .inl g2, g3⟩
    · rintro j (g | g) hj
      · exact v.eff j g hj
      · subst g; rw [hκ] at hj; cases hj
    · intro j h1 h2 h3
      rw [g1 _ (by have := v.nx; omega)]
      exact v.nofresh j h1 h2 (fun g => h3 (.inl g))
    · rintro j (g | g) h1 h2
      · obtain ⟨u, c, e1, e2, e3, e4, e5, e6⟩ := v.hid j g h1 h2
        exact ⟨u, c, e1, e2, hle _ _ e3, e4, e5.mono hle (hkeep j g h1 h2), e6⟩
      · subst g; rw [hκ] at h1; cases h1
    · rintro j k (g | g) (g' | g') h1 h2
      · exact v.hinj j k g g' h1 h2
      · subst g'; rw [hκ] at h2; cases h2
      · subst g; rw [hκ] at h1; cases h1
      · subst g; rw [hκ] at h1; cases h1
    · intro b c hb
      rcases v.kd b c hb with g | ⟨j, g1, g2⟩
      · exact .inl g
      · exact .inr ⟨j, .inl g1, g2⟩
  · -- a new block
    rw [hgo]
    simp only [if_true]
    left
    have hβi : β ≤ i := by
      rcases v.beff with g | ⟨e, g1, g2, g3⟩
      · omega
      · rcases Nat.lt_or_ge e i with q | q
        · omega
        · exfalso
          have hes := v.inr e g2
          have hne : e ≠ i := by rintro rfl; exact hS g2
          have hoe : ops[e]? = some ops[e] := Array.getElem?_eq_getElem hes
          have hke : isFloat E ops[e] = false ∧ isAlloc ops[e] = false := by
            rcases hstep e _ hoe with ⟨q, _⟩ | ⟨q, _⟩ | ⟨q, _⟩ | ⟨_, _, q1, q2, _⟩
            · rw [g3] at q; cases q
            · rw [g3] at q; cases q
            · rw [g3] at q; cases q
            · exact ⟨q1, q2⟩
          exact hS (bef_closed hed S v.closed e i _ hoe (v.closed e _ hoe g2) (ahead_eff hr (by omega) ho hoe (.inr hal) hke))
    have hopD : opD E { G i with next := rid0 + i } (evalO (F i)) o = some (.val (V i), A1) ∧ ∀ x, x ∈ o.op.operands.toList → litOk E x = true := by
      unfold opX at hop
      split at hop
      · rename_i hl
        exact ⟨hop, fun x hx => List.all_eq_true.1 hl x hx⟩
      · cases hop
    obtain ⟨fv, fu, e1, e2, c, v', p, f1, f2, f3⟩ := alloc_fresh (P := P) (nm := nm) (φ := φ) (w := w) (ρ' := a.eval) ok o hal (fun x hx => hρ x hx (hopD.2 x hx)) hopD.1
    simp only [Nx.val.injEq] at e1
    have hb := v.nofresh i hlt hκ hS
    obtain ⟨k1, k2, k3⟩ := f3 (rid0 + i) hb
    have hle := Emb.upd_le p hb
    have hbn : rid0 + i < (G β).next := by have := v.nx; omega
    have hW := v.wr.hide hb hbn p c f2
    have hfar : ∀ j, S j → κ j = 3 → β ≤ j → (pl j).blk ≠ p.blk ∧ (pl j).blk < w.heap.size := by
      intro j h1 h2 h3
      obtain ⟨u, c', _, _, e3, _⟩ := v.hid j h1 h2 h3
      have := v.wr.lt _ _ e3
      exact ⟨by omega, this⟩
    obtain ⟨pl', hpl, hpl0⟩ : ∃ pl' : Nat → Pl, (∀ j, j ≠ i → pl' j = pl j) ∧ pl' i = p := ⟨fun j => if j = i then p else pl j, fun j h => if_neg h, if_pos rfl⟩
    have hne : ∀ j, S j → j ≠ i := by rintro j h rfl; exact hS h
    have hKp : K p.blk = none := by
      cases hk : K p.blk with
      | none => rfl
      | some x =>
        have := v.wr.key _ _ (v.kh _ _ hk)
        rw [f2, Array.getElem?_eq_none (Nat.le_refl _)] at this
        cases this
    unfold Oper.wp
    rw [f1]
    obtain ⟨_, _, p3, p4⟩ := put_tmps (d := o.dst) (v' := v') v.sz
    obtain ⟨t1, t2⟩ := v.slots1 hr ho hle (v' := v') hp (fun t _ => by rw [e1]; exact k3)
    refine ⟨β, _, φ.upd (rid0 + i) p, pl', { wr := hW, ext := ?_, le := Emb.le_trans v.le hle, nx := v.nx, bnd := v.bnd, beff := ?_, eff := ?_, closed := hcl', inr := hin', s1 := t1, s2 := t2, sz := p3, mrk := by rw [p4]; exact v.mrk.mono hle, nofresh := ?_, hid := ?_, hinj := ?_, kh := ?_, kd := ?_ }⟩
    · intro b hbb
      rw [Emb.upd_other φ p (by omega)]
      exact v.ext b hbb
    · rcases v.beff with g | ⟨e, g1, g2, g3⟩
      · exact .inl g
      · exact .inr ⟨e, g1, .inl g2, g3⟩
    · rintro j (g | g) hj
      · exact v.eff j g hj
      · subst g; rw [hκ] at hj; cases hj
    · intro j h1 h2 h3
      rw [Emb.upd_other φ p (by intro e; exact h3 (.inr (by omega)))]
      exact v.nofresh j h1 h2 (fun g => h3 (.inl g))
    · rintro j (g | g) h1 h2
      · obtain ⟨u, c', e1, e2, e3, e4, e5, e6, e7⟩ := v.hid j g h1 h2
        obtain ⟨q1, q2⟩ := hfar j g h1 h2
        rw [hpl j (hne j g)]
        refine ⟨u, c', e1, e2, hle _ _ e3, ?_, e5.mono hle (getElem?_push_lt q2), e6, e7⟩
        show (if (pl j).blk = p.blk then some c else K' (pl j).blk) = some c'
        rw [if_neg q1]; exact e4
      · subst g
        rw [hpl0]
        refine ⟨fu (rid0 + j), c, ?_, k2, Emb.upd_same _ _ _, ?_, k1, hKp, by rw [f2]; exact v.wr.size⟩
        · rw [hG, e2]
        · show (if p.blk = p.blk then some c else K' p.blk) = some c
          rw [if_pos rfl]
    · rintro j k hj hk h1 h2 h3 h4 h5
      by_cases ej : j = i
      · subst ej
        have hSk := hk.resolve_right (Ne.symm h5)
        rw [hpl0, hpl k (Ne.symm h5)]
        exact Ne.symm (hfar k hSk h2 h4).1
      · have hSj := hj.resolve_right ej
        by_cases ek : k = i
        · subst ek
          rw [hpl0, hpl j ej]
          exact (hfar j hSj h1 h3).1
        · rw [hpl j ej, hpl k ek]
          exact v.hinj j k hSj (hk.resolve_right ek) h1 h2 h3 h4 h5
    · intro b x hb
      show (if b = p.blk then some c else K' b) = some x
      rw [if_neg (by rintro rfl; rw [hKp] at hb; cases hb)]
      exact v.kh b x hb
    · intro b x hb
      have hb' : (if b = p.blk then some c else K' b) = some x := hb
      split at hb'
      · rename_i e
        exact .inr ⟨i, .inr rfl, hκ, hβi, by rw [hpl0]; exact e.symm⟩
      · rcases v.kd b x hb' with g | ⟨j, g1, g2, g3, g4⟩
        · exact .inl g
        · exact .inr ⟨j, .inl g1, g2, g3, by rw [hpl j (hne j g1)]; exact g4⟩
  · -- an effect
    rw [hgo]
    simp only [if_true]
    left
    have kk : ∀ z (hz : z < ops.size), κ z = 2 → isFloat E ops[z] = false ∧ isAlloc ops[z] = false := by
      intro z hz hz2
      rcases hstep z _ (Array.getElem?_eq_getElem hz) with ⟨q, _⟩ | ⟨q, _⟩ | ⟨q, _⟩ | ⟨_, _, q1, q2, _⟩
      · rw [hz2] at q; cases q
      · rw [hz2] at q; cases q
      · rw [hz2] at q; cases q
      · exact ⟨q1, q2⟩
    have ka : ∀ z (hz : z < ops.size), κ z = 3 → isAlloc ops[z] = true := by
      intro z hz hz2
      rcases hstep z _ (Array.getElem?_eq_getElem hz) with ⟨q, _⟩ | ⟨q, _⟩ | ⟨_, _, q, _⟩ | ⟨q, _⟩
      · rw [hz2] at q; cases q
      · rw [hz2] at q; cases q
      · exact q
      · rw [hz2] at q; cases q
    have hβi : β ≤ i := by
      rcases v.beff with g | ⟨e, g1, g2, g3⟩
      · omega
      · rcases Nat.lt_or_ge e i with q | q
        · omega
        · exfalso
          have hes := v.inr e g2
          have hne : e ≠ i := by rintro rfl; exact hS g2
          have hoe : ops[e]? = some ops[e] := Array.getElem?_eq_getElem hes
          exact hS (bef_closed hed S v.closed e i _ hoe (v.closed e _ hoe g2) (ahead_eff hr (by omega) ho hoe (.inl ⟨hfl, hal⟩) (kk e hes g3)))
    obtain ⟨K'', h1, h2, h3, h4, h5⟩ := v.adopt hstep (i - β) (by omega) (fun j g1 g2 => by
      have hj : j < ops.size := by omega
      have hoj : ops[j]? = some ops[j] := Array.getElem?_eq_getElem hj
      refine ⟨fun q => ?_, fun q => ?_⟩
      · have := v.eff j (bef_closed hed S v.closed i j o ho hready (ahead_eff hr (by omega) hoj ho (.inl (kk j hj q)) ⟨hfl, hal⟩)) q
        omega
      · exact bef_closed hed S v.closed i j o ho hready (ahead_eff hr (by omega) hoj ho (.inr (ka j hj q)) ⟨hfl, hal⟩))
    rw [show β + (i - β) = i from by omega] at h1 h3 h4 h5
    refine doOp_val ok hc h1 hg hρ hop ?_
    intro x v' φ' w' g1 g2 g3 g4 g5
    have hle := h1.le g1
    have hne : ∀ j, S j → j ≠ i := by rintro j h rfl; exact hS h
    have hkeep : ∀ j c, S j → κ j = 3 → i ≤ j → K'' (pl j).blk = some c → w'.heap[(pl j).blk]? = w.heap[(pl j).blk]? := by
      intro j c _ _ _ hk
      rw [h1.key _ _ hk, g3.key _ _ hk]
    obtain ⟨_, _, p3, p4⟩ := put_tmps (d := o.dst) (v' := v') v.sz
    obtain ⟨t1, t2⟩ := v.slots1 hr ho hle (v' := v') g5 (fun t ht => by
      rw [hV, ht]
      show VR nm φ' (((F (i + 1)).tm.get t).getD undef) v'
      rw [((put_slot g5).1 t ht).1]
      exact g4)
    refine ⟨i + 1, K'', φ', pl, { wr := g3, ext := ?_, le := Emb.le_trans v.le hle, nx := ?_, bnd := hlt, beff := .inr ⟨i, rfl, .inr rfl, hκ⟩, eff := ?_, closed := hcl', inr := hin', s1 := t1, s2 := t2, sz := p3, mrk := by rw [p4]; exact v.mrk.mono hle, nofresh := ?_, hid := ?_, hinj := ?_, kh := h2, kd := ?_ }⟩
    · exact Emb.ext_trans v.ext g1 (by have := v.nx; omega)
    · have := v.nx; omega
    · rintro j (g | g) hj
      · have := v.eff j g hj; omega
      · omega
    · intro j q1 q2 q3
      rw [g1 _ (by have := v.nx; omega)]
      exact v.nofresh j q1 q2 (fun g => q3 (.inl g))
    · rintro j (g | g) q1 q2
      · obtain ⟨u, c, e1, e2, e3, e4, e5, e6, e7⟩ := v.hid j g q1 (by omega)
        have hk : K'' (pl j).blk = some c := (h4 j g q1 (by omega)).trans e4
        exact ⟨u, c, e1, e2, hle _ _ e3, hk, e5.mono hle (hkeep j c g q1 (by omega) hk), e6, e7⟩
      · subst g; rw [hκ] at q1; cases q1
    · rintro j k (g | g) (g' | g') q1 q2 q3 q4
      · exact v.hinj j k g g' q1 q2 (by omega) (by omega)
      · subst g'; rw [hκ] at q2; cases q2
      · subst g; rw [hκ] at q1; cases q1
      · subst g; rw [hκ] at q1; cases q1
    · intro b c hb
      rcases h3 b c hb with g | ⟨j, q1, q2, q3, q4⟩
      · exact .inl g
      · exact .inr ⟨j, .inl q1, q2, by have := hne j q1; omega, q4⟩

/-- All is done. -/
theorem Inv.done (v : Inv E nm K base φ0 nt ops rid0 F G V κ fr0 S β K' φ pl a w) (hstep : ∀ i o, ops[i]? = some o → StepT E rec_ nt ops rid0 F G V κ i o) (hsl : Slots ops F V fr0 ops.size) (hall : ∀ i, i < ops.size → S i)
    (hA : A.next = rid0) : Aft nm K base φ0 A nt (F ops.size) (G ops.size) a w := by
  obtain ⟨K'', h1, h2, h3, h4, h5⟩ := v.adopt hstep (ops.size - β) (by have := v.bnd; omega) (fun j g1 g2 => by
    have hj : j < ops.size := by omega
    refine ⟨fun q => ?_, fun _ => hall j hj⟩
    have := v.eff j (hall j hj) q
    omega)
  have hb := v.bnd
  rw [show β + (ops.size - β) = ops.size from by omega] at h1 h3 h5
  have hK : K'' = K := by
    funext b
    cases hk : K'' b with
    | some c =>
      rcases h3 b c hk with g | ⟨j, g1, g2, g3, g4⟩
      · exact g.symm
      · have := v.inr j g1; omega
    | none =>
      cases hk2 : K b with
      | none => rfl
      | some c => rw [h2 b c hk2] at hk; cases hk
  subst hK
  refine ⟨φ, by rw [hA]; exact v.ext, by rw [hA, h5]; have := v.nx; omega, h1, ⟨v.sz, fun t => ?_, by rw [hsl.mrk]; exact v.mrk⟩⟩
  by_cases hex : ∃ (j : Nat) (o' : Oper), ops[j]? = some o' ∧ o'.dst = some t
  · obtain ⟨j, o', hj, hd⟩ := hex
    have hlt := (Array.getElem?_eq_some_iff.1 hj).1
    rw [hsl.s1 j o' t hlt hj hd]
    exact v.s1 j o' t (hall j hlt) hj hd
  · rw [hsl.s2 t (fun j o' _ hj e => hex ⟨j, o', hj, e⟩)]
    exact v.s2 t fun j o' _ hj e => hex ⟨j, o', hj, e⟩
end
end
end Go.AM
