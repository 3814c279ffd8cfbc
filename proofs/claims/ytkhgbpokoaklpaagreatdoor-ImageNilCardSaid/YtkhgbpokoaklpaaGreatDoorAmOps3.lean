/- The operations, third part: values put together and taken apart; addresses. -/
import Derived.Test.YtkhgbpokoaklpaaGreatDoorAmOps2
namespace Go.AM
section
variable {E : Env} {P : Program} {nm : Nm} {K : Kp} {base : World} {φ : Emb} {A A' : St} {w : World} {ρ ρ' : Operand → Value} {nx : Nx}

/-- Pairs of places and values. -/
def PR (nm : Nm) (φ : Emb) (l l' : List (Nat × Value)) : Prop := l.map (·.1) = l'.map (·.1) ∧ LR nm φ (l.map (·.2)) (l'.map (·.2))

theorem AR.setIfInBounds {a a' : Array Value} (h : AR nm φ a a') (i : Nat) {v v' : Value} (hv : VR nm φ v v') : AR nm φ (a.setIfInBounds i v) (a'.setIfInBounds i v') := by
  refine .of_get? (by simpa using h.1) fun j u u' h1 h2 => ?_
  simp only [Array.getElem?_toList, Array.getElem?_setIfInBounds] at h1 h2
  have hs := AR.size h
  split at h1
  · rename_i e
    split at h1
    · rename_i hi
      rw [if_pos e] at h2
      rw [if_pos (hs ▸ hi)] at h2
      cases h1; cases h2; exact hv
    · cases h1
  · rename_i e
    rw [if_neg e] at h2
    obtain ⟨x, hx, hr⟩ := LR.get? h (i := j) (by simpa using h1)
    have hx' : a'[j]? = some x := by simpa using hx
    rw [hx'] at h2; cases h2; exact hr

theorem foldl_fill (off : Nat) : ∀ (vs vs' : List Value) (k : Nat) (cs cs' : Array Value), LR nm φ vs vs' → AR nm φ cs cs' →
    AR nm φ ((vs.zipIdx k).foldl (fun cs (x : Value × Nat) => cs.setIfInBounds (off + x.2) x.1) cs) ((vs'.zipIdx k).foldl (fun cs (x : Value × Nat) => cs.setIfInBounds (off + x.2) x.1) cs')
  | [], vs', k, cs, cs', h, hc => by rw [h.nil_inv]; exact hc
  | v :: vs, vs', k, cs, cs', h, hc => by
    obtain ⟨v', m, rfl, h1, h2⟩ := h.cons_inv
    simp only [List.zipIdx_cons, List.foldl_cons]
    exact foldl_fill off vs m (k + 1) _ _ h2 (hc.setIfInBounds _ h1)

theorem fill_rel (place : Nat → Option (Nat × Nat)) : ∀ (l l' : List (Nat × Value)) (cs cs' r : Array Value), PR nm φ l l' → AR nm φ cs cs' → Instr.fill place cs l = some r →
    ∃ r', Instr.fill place cs' l' = some r' ∧ AR nm φ r r'
  | [], l', cs, cs', r, h, hc, hf => by
    have : l' = [] := by have := h.1; simpa using this.symm
    subst this
    simp only [Instr.fill, Option.some.injEq] at hf ⊢
    subst hf
    exact ⟨cs', rfl, hc⟩
  | (i, v) :: l, l', cs, cs', r, h, hc, hf => by
    cases l' with
    | nil => have := h.1; simp at this
    | cons x l' =>
      obtain ⟨i', v'⟩ := x
      have h1 := h.1
      simp only [List.map_cons, List.cons.injEq] at h1
      obtain ⟨e, h1⟩ := h1
      subst e
      have h2 : LR nm φ (v :: l.map (·.2)) (v' :: l'.map (·.2)) := h.2
      simp only [Instr.fill] at hf ⊢
      cases hpl : place i with
      | none => simp [hpl] at hf
      | some q =>
        obtain ⟨off, size⟩ := q
        simp only [hpl] at hf ⊢
        have hcs := AR.size h2.head.cells
        have hsz := AR.size hc
        split at hf
        · cases hf
        · rename_i hn
          rw [← hcs, ← hsz, if_neg hn]
          have hcc : LR nm φ v.cells.toList v'.cells.toList := h2.head.cells
          have key := foldl_fill off v.cells.toList v'.cells.toList 0 cs cs' hcc hc
          have conv : ∀ (c d : Array Value), (c.zipIdx.foldl (fun cs (x : Value × Nat) => cs.setIfInBounds (off + x.2) x.1) d) = ((c.toList.zipIdx 0).foldl (fun cs (x : Value × Nat) => cs.setIfInBounds (off + x.2) x.1) d) := by
            intro c d
            rw [← Array.foldl_toList, Array.toList_zipIdx]
          rw [← conv, ← conv] at key
          exact fill_rel place l l' _ _ r ⟨h1, h2.tail⟩ key hf

theorem parts_rel (parts : Array (Nat × Operand)) (h : ∀ x, x ∈ parts.toList.map (·.2) → VR nm φ (ρ x) (ρ' x)) :
    PR nm φ (parts.toList.map fun p => (p.1, ρ p.2)) (parts.map fun (i, x) => (i, ρ' x)).toList := by
  rw [Array.toList_map]
  refine ⟨by simp [List.map_map, Function.comp_def], ?_⟩
  rw [List.map_map, List.map_map]
  exact LR.map _ fun p hp => h p.2 (List.mem_map_of_mem hp)

theorem LR.extract {a a' : Array Value} (h : AR nm φ a a') (i j : Nat) : AR nm φ (a.extract i j) (a'.extract i j) := by
  have : LR nm φ ((a.toList.take j).drop i) ((a'.toList.take j).drop i) := (LR.take h j).drop i
  simpa [AR, Array.toList_extract, List.extract_eq_take_drop, List.drop_take] using this

theorem getPart_ok (ok : EnvOk E P nm) {t : TypeId} {cs cs' : Array Value} {off : Nat} {v : Value} (h : AR nm φ cs cs') (hp : getPart E t cs off = some v) :
    ∃ v', VR nm φ v v' ∧ (part t cs' off).run P w = .ok v' w := by
  unfold getPart at hp
  split at hp
  · rename_i hb
    split at hp
    · rename_i n hs
      cases hp
      exact ⟨.agg (cs'.extract off (off + n)), .agg' (h.extract _ _), by simp [part, ok.run_agg hb w, ok.run_size hs w]⟩
    · cases hp
  · rename_i hb
    obtain ⟨v', h1, h2⟩ := LR.get? h (i := off) (by simpa using hp)
    refine ⟨v', h2, ?_⟩
    have h1' : cs'[off]? = some v' := by simpa using h1
    simp [part, ok.run_agg hb w, h1']
  · cases hp

theorem xField_ok (ok : EnvOk E P nm) (h : WR nm K base φ A w) (t : TypeId) (x : Operand) (f : Nat) (hv : VR nm φ (ρ x) (ρ' x)) (hx : xField E A ρ t x f = some (nx, A')) :
    Goal P nm K base φ A w (Instr.field t (ρ' x) f >>= fun x => pure (Next.value x)) nx A' := by
  unfold xField at hx
  split at hx
  · rename_i fs cs hu hr
    split at hx
    · rename_i fd hf
      split at hx
      · rename_i v hp
        cases hx
        rw [hr] at hv
        obtain ⟨cs', e1, e2⟩ := hv.agg_inv
        obtain ⟨v', g1, g2⟩ := getPart_ok (w := w) ok e2 hp
        refine goal_here h g1 ?_
        simp [Instr.field, ok.run_und hu w, hf, e1, asAgg, g2]
      · cases hx
    · cases hx
  · cases hx

theorem xExtract_ok (h : WR nm K base φ A w) (t : Operand) (i : Nat) (hv : VR nm φ (ρ t) (ρ' t)) (hx : xExtract A ρ t i = some (nx, A')) :
    Goal P nm K base φ A w (Instr.extract (ρ' t) i >>= fun x => pure (Next.value x)) nx A' := by
  unfold xExtract at hx
  split at hx
  · rename_i vs hr
    split at hx
    · rename_i v hp
      cases hx
      rw [hr] at hv
      obtain ⟨cs', e1, e2⟩ := hv.tuple_inv
      obtain ⟨v', h1, h2⟩ := LR.get? e2 (i := i) (by simpa using hp)
      have h1' : cs'[i]? = some v' := by simpa using h1
      exact goal_here h h2 (by simp [Instr.extract, e1, h1'])
    · cases hx
  · cases hx

theorem xMakeInterface_ok (ok : EnvOk E P nm) (h : WR nm K base φ A w) (t : TypeId) (x : Operand) (hv : VR nm φ (ρ x) (ρ' x)) (hx : xMakeInterface E A ρ t x = some (nx, A')) :
    Goal P nm K base φ A w (Instr.makeInterface t (ρ' x) >>= fun x => pure (Next.value x)) nx A' := by
  unfold xMakeInterface at hx
  split at hx
  · cases hx
  · rename_i d hn hu
    cases hx
    refine goal_here h (.iface _ _ _ hv) ?_
    simp only [Instr.makeInterface, Sem.run_bind, ok.run_und hu w, Result.andThen_ok]
    cases d <;> first | rfl | (exact absurd rfl (hn _))
  · cases hx

theorem mapM_places (ok : EnvOk E P nm) (fs : List Field) (places : List (Nat × Nat)) (h : fs.mapM (fun f => (E.size f.type).map fun s => (f.offset, s)) = some places) :
    (fs.mapM (m := Sem) (fun f => do pure (f.offset, ← sizeOf f.type))).run P w = .ok places w := by
  induction fs generalizing places with
  | nil => simp at h; subst h; simp
  | cons f fs ih =>
    simp only [List.mapM_cons, Option.bind_eq_bind, Option.bind_eq_some_iff, Option.map_eq_some_iff, Option.pure_def, Option.some.injEq] at h
    obtain ⟨p, ⟨s, hs, rfl⟩, ps, hps, rfl⟩ := h
    simp only [List.mapM_cons, Sem.run_bind, ok.run_size hs w, Result.andThen_ok, Sem.run_pure, ih ps hps]

theorem xBuild_ok (ok : EnvOk E P nm) (h : WR nm K base φ A w) (t : TypeId) (parts : Array (Nat × Operand)) (hv : ∀ x, x ∈ parts.toList.map (·.2) → VR nm φ (ρ x) (ρ' x))
    (hx : xBuild E A ρ t parts = some (nx, A')) :
    Goal P nm K base φ A w (Instr.build t (parts.map fun (i, x) => (i, ρ' x)) >>= fun x => pure (Next.value x)) nx A' := by
  have hp := parts_rel (nm := nm) (φ := φ) parts hv
  unfold xBuild at hx
  split at hx
  · rename_i fs z hu hz
    split at hx
    · rename_i places hpl
      split at hx
      · rename_i cells hf
        cases hx
        obtain ⟨r', e1, e2⟩ := fill_rel _ _ _ _ z.cells cells hp (zero_cells hz φ) hf
        refine goal_here h (.agg' e2) ?_
        have hm := mapM_places (w := w) ok fs.toList places hpl
        have hm' : (fs.mapM (m := Sem) (fun f => do pure (f.offset, ← sizeOf f.type))).run P w = .ok places.toArray w := by
          rw [Array.mapM_eq_mapM_toList]
          simp only [Sem.run_map, hm, Result.andThen_ok]
        simp only [Instr.build, Sem.run_bind, ok.run_zero hz w, ok.run_und hu w, Result.andThen_ok, Sem.run_pure, hm', e1]
      · cases hx
    · cases hx
  · rename_i n e z hu hz
    split at hx
    · rename_i s hs
      split at hx
      · rename_i cells hf
        cases hx
        obtain ⟨r', e1, e2⟩ := fill_rel _ _ _ _ z.cells cells hp (zero_cells hz φ) hf
        refine goal_here h (.agg' e2) ?_
        simp only [Instr.build, Sem.run_bind, ok.run_zero hz w, ok.run_und hu w, Result.andThen_ok, Sem.run_pure, ok.run_size hs w, e1]
      · cases hx
    · cases hx
  · cases hx

/-- Zero cells, so many times. -/
theorem zeros_length (z : List Value) (n : Nat) : (zeros z n).length = n * z.length := by
  induction n with
  | zero => simp [zeros]
  | succ n ih => simp [zeros, ih, Nat.succ_mul, Nat.add_comm]
theorem zeros_get (z : List Value) : ∀ (n i : Nat), i < n * z.length → (zeros z n)[i]? = z[i % z.length]?
  | 0, i, h => by simp at h
  | n + 1, i, h => by
    simp only [zeros]
    rw [List.getElem?_append]
    split
    · rename_i hi; rw [Nat.mod_eq_of_lt hi]
    · rename_i hi
      rw [Nat.succ_mul] at h
      rw [zeros_get z n (i - z.length) (by omega)]
      rw [Nat.mod_eq_sub_mod (by omega : i ≥ z.length)]
theorem zeros_eq (z : Array Value) (n s : Nat) (hs : z.size = s) : (Array.range (n * s)).map (fun i => z[i % z.size]!) = (zeros z.toList n).toArray := by
  subst hs
  apply Array.ext_getElem?
  intro i
  by_cases h : i < n * z.size
  · have hz : 0 < z.size := by
      rcases Nat.eq_zero_or_pos z.size with g | g
      · rw [g] at h; simp at h
      · exact g
    have hm := Nat.mod_lt i hz
    simp only [Array.getElem?_map, List.getElem?_toArray]
    rw [zeros_get _ _ _ (by simpa using h)]
    simp [h, getElem!_pos, hm]
  · rw [Array.getElem?_eq_none (by simpa using h), List.getElem?_toArray, List.getElem?_eq_none (by rw [zeros_length]; simpa using h)]
theorem zeros_rel {z : List Value} (h : LR nm φ z z) : ∀ n, LR nm φ (zeros z n) (zeros z n)
  | 0 => .nil
  | n + 1 => h.append (zeros_rel h n)

theorem xBuildSlice_fresh (ok : EnvOk E P nm) (t : TypeId) (len : Nat) (parts : Array (Nat × Operand)) (hv : ∀ x, x ∈ parts.toList.map (·.2) → VR nm φ (ρ x) (ρ' x))
    (hx : xBuildSlice E A ρ t len parts = some (nx, A')) :
    ∃ v o, nx = .val (v A.next) ∧ A' = { A with next := A.next + 1, h := A.h.set A.next (o A.next) } ∧
      Fresh P nm φ w (Instr.buildSlice t len (parts.map fun (i, x) => (i, ρ' x)) >>= fun x => pure (Next.value x)) v o := by
  have hp := parts_rel (nm := nm) (φ := φ) parts hv
  unfold xBuildSlice at hx
  split at hx
  · rename_i e hu
    split at hx
    · rename_i s z hs hz
      split at hx
      · cases hx
      · rename_i hn
        split at hx
        · rename_i cells hf
          rw [newRow_eq] at hx
          cases hx
          have hzs : z.cells.size = s := by
            rcases Classical.em (z.cells.size = s) with g | g
            · exact g
            · exact absurd (.inr (.inr g)) hn
          have hs0 : s ≠ 0 := fun g => hn (.inl g)
          have hbig : ¬ (len * s > 16777216) := fun g => hn (.inr (.inl g))
          obtain ⟨r', e1, e2⟩ := fill_rel _ _ _ _ (zeros z.cells.toList len).toArray cells hp (by simpa [AR] using zeros_rel (zero_cells hz φ) len) hf
          refine ⟨fun b => .slice (some ⟨b, 0, none⟩) len len, rowObj e cells.toList, rfl, rfl, ?_⟩
          refine fresh_row e2 (v' := .slice (some ⟨w.heap.size, 0, none⟩) len len) ?_ (fun b => slc_new b _ _ _ (Nat.le_refl _))
          rcases Nat.eq_zero_or_pos len with hl | hl
          · subst hl
            have hz0 : (zeros z.cells.toList 0).toArray = #[] := rfl
            rw [hz0] at e1
            have hr : ∀ f : Nat → Value, Array.map f (Array.range 0) = #[] := fun f => by simp
            simp only [Instr.buildSlice, Sem.run_bind, ok.run_und hu w, ok.run_size hs w, Result.andThen_ok, Nat.zero_mul]
            rw [if_neg (by simp), if_pos trivial]
            simp only [Sem.run_bind, Sem.run_pure, Result.andThen_ok, hr, e1]
            simp [newRow]
          · have hne : ¬ (len * s = 0) := by
              intro g; rcases Nat.mul_eq_zero.1 g with g | g <;> omega
            have hbig' : ¬ (2 ^ 24 < len * s) := by omega
            simp only [Instr.buildSlice, Sem.run_bind, ok.run_und hu w, ok.run_size hs w, Result.andThen_ok]
            rw [if_neg (by simpa using hbig'), if_neg hne]
            simp only [Sem.run_bind, ok.run_zero hz w, Result.andThen_ok, Sem.run_pure]
            have hze := zeros_eq z.cells len s hzs
            simp only [hze, e1]
            simp [newRow]
        · cases hx
    · cases hx
  · cases hx

theorem xMakeSlice_fresh (ok : EnvOk E P nm) (t : TypeId) (l c : Operand) (hl : VR nm φ (ρ l) (ρ' l)) (hc : VR nm φ (ρ c) (ρ' c)) (hx : xMakeSlice E A ρ t l c = some (nx, A')) :
    ∃ v o, nx = .val (v A.next) ∧ A' = { A with next := A.next + 1, h := A.h.set A.next (o A.next) } ∧
      Fresh P nm φ w (Instr.makeSlice t (ρ' l) (ρ' c) >>= fun x => pure (Next.value x)) v o := by
  unfold xMakeSlice at hx
  split at hx
  · rename_i e k1 ln k2 cp hu h1 h2
    split at hx
    · rename_i i hi
      split at hx
      · rename_i z hz
        split at hx
        · rename_i hcond
          obtain ⟨c1, c2, c3, c4, c5, c6⟩ := hcond
          rw [newRow_eq] at hx
          cases hx
          rw [h1] at hl; rw [h2] at hc
          have e1 := hl.int_inv
          have e2 := hc.int_inv
          obtain ⟨n, rfl⟩ := Int.eq_ofNat_of_zero_le c1
          obtain ⟨m, rfl⟩ := Int.eq_ofNat_of_zero_le (Int.le_trans c1 c2)
          have hs : E.size e = some i.size := by simp [Env.size, hi]
          refine ⟨fun b => .slice (some ⟨b, 0, none⟩) n m, rowObj e (zeros z.cells.toList m), rfl, rfl, ?_⟩
          refine fresh_row (zeros_rel (zero_cells hz φ) m) (v' := .slice (some ⟨w.heap.size, 0, none⟩) n m) ?_ (fun b => slc_new b _ _ _ (by omega))
          have w1 : IntKind.i64.wrap (n : Int) = n := by unfold IntKind.wrap; simp [IntKind.bits, IntKind.signed]; omega
          have w2 : IntKind.i64.wrap (m : Int) = m := by unfold IntKind.wrap; simp [IntKind.bits, IntKind.signed]; omega
          have hze := zeros_eq z.cells m i.size c6
          have big : ¬ ((2 : Int) ^ 48 < (i.bytes : Int) * m) := by
            have : (i.bytes : Int) * m = m * i.bytes := Int.mul_comm _ _
            omega
          have room : ¬ (roomBytes < m * i.bytes) := by
            unfold roomBytes
            have : ((m * i.bytes : Nat) : Int) ≤ 140737488355328 := by simpa using c3
            omega
          simp only [Instr.makeSlice, Sem.run_bind, ok.run_und hu w, Result.andThen_ok, e1, e2, asInt, asIntOf, Sem.run_pure, ok.run_inf hi w, w1, w2]
          have hcond2 : (((decide ((m : Int) < 0) || decide ((i.bytes : Int) * m > 2 ^ 48)) || decide ((n : Int) < 0)) || decide ((n : Int) > m)) = false := by
            simp only [Bool.or_eq_false_iff, decide_eq_false_iff_not]
            refine ⟨⟨⟨by omega, by simpa using big⟩, by omega⟩, by omega⟩
          rw [if_neg (by rw [hcond2]; simp)]
          simp only [Int.toNat_natCast, askRoom]
          rw [if_neg (by simpa using room)]
          simp only [Sem.run_bind, Sem.run_pure, Result.andThen_ok, ok.run_size hs w]
          rcases Nat.eq_zero_or_pos m with hm | hm
          · subst hm
            have hr : ∀ f : Nat → Value, Array.map f (Array.range 0) = #[] := fun f => by simp
            simp [newRow, zeros]
            rw [hr]
          · have hne : ¬ (m * i.size = 0) := by
              intro g; rcases Nat.mul_eq_zero.1 g with g | g <;> omega
            rw [if_neg hne]
            simp only [Sem.run_bind, ok.run_zero hz w, Result.andThen_ok, Sem.run_pure, hze]
            simp [newRow]
        · cases hx
      · cases hx
    · cases hx
  · cases hx

theorem xMakeMap_fresh (t : TypeId) (r : Option Operand) (hx : xMakeMap A ρ r = some (nx, A')) :
    ∃ v o, nx = .val (v A.next) ∧ A' = { A with next := A.next + 1, h := A.h.set A.next (o A.next) } ∧
      Fresh P nm φ w (Instr.makeMap t (r.map ρ') >>= fun x => pure (Next.value x)) v o := by
  unfold xMakeMap at hx
  split at hx
  · cases hx
    refine ⟨fun b => .map (some b), fun _ => .map [] 0, rfl, rfl, ?_⟩
    refine ⟨.map #[] 0, .map (some w.heap.size), plNew w 0, by simp [Instr.makeMap, newObj, Sem.run], rfl, fun b hb => ⟨⟨#[], by simp [plNew], rfl, fun i e c h => by simp at h⟩, rfl, ?_⟩⟩
    exact .map b (plNew w 0) (Emb.upd_same _ _ _)
  · cases hx
end
end Go.AM
