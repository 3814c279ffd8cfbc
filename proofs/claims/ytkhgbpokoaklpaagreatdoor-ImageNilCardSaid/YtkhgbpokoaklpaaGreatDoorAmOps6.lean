/- The operations, sixth part: maps, and what goes through a map or a text. -/
import Derived.Test.YtkhgbpokoaklpaaGreatDoorAmOps5
namespace Go.AM
section
variable {E : Env} {P : Program} {nm : Nm} {K : Kp} {base : World} {φ : Emb} {A A' : St} {w : World} {ρ ρ' : Operand → Value} {nx : Nx}

theorem EntR.nil : EntR nm φ [] [] := ⟨rfl, fun i e c h => by simp at h⟩
theorem EntR.cons_inv {e : MapEntry} {es ces : List MapEntry} (h : EntR nm φ (e :: es) ces) :
    ∃ c cs, ces = c :: cs ∧ plainV e.key = true ∧ c.key = e.key ∧ c.born = e.born ∧ VR nm φ e.val c.val ∧ EntR nm φ es cs := by
  cases ces with
  | nil => exact absurd h.1 (by simp)
  | cons c cs =>
    obtain ⟨a, b, d, f⟩ := h.2 0 e c (by simp) (by simp)
    exact ⟨c, cs, rfl, a, b, d, f, by simpa using h.1, fun i e' c' h1 h2 => h.2 (i + 1) e' c' (by simpa using h1) (by simpa using h2)⟩
theorem EntR.get? {es ces : List MapEntry} (h : EntR nm φ es ces) {i : Nat} {e : MapEntry} (he : es[i]? = some e) :
    ∃ c, ces[i]? = some c ∧ plainV e.key = true ∧ c.key = e.key ∧ c.born = e.born ∧ VR nm φ e.val c.val := by
  have hi : i < es.length := by
    rcases Nat.lt_or_ge i es.length with g | g
    · exact g
    · rw [List.getElem?_eq_none g] at he; cases he
  have hc := List.getElem?_eq_getElem (show i < ces.length by rw [← h.1]; exact hi)
  obtain ⟨a, b, d, f⟩ := h.2 i e _ he hc
  exact ⟨_, hc, a, b, d, f⟩

theorem bytes_beq (a b : ByteArray) : (a == b) = decide (a = b) := by
  show (a.data == b.data) = _
  by_cases h : a = b
  · subst h; simp
  · have : ¬ a.data = b.data := fun e => h (by cases a; cases b; simp only [] at e; rw [e])
    simp [h, this]

theorem findE_ok {kd : TypeDesc} {k : Value} (hk : keyOk kd k = true) : ∀ (es ces : List MapEntry) (i : Nat) (r : Option (Nat × Value)), EntR nm φ es ces → findE k es i = some r →
    ∃ r', Instr.findNow kd k ces i = some r' ∧
      (match r with
       | none => r' = none
       | some (j, v) => ∃ v', r' = some (j, v') ∧ VR nm φ v v' ∧ i ≤ j ∧ ∃ e, es[j - i]? = some e ∧ e.key = k ∧ e.val = v)
  | [], ces, i, r, h, hf => by
    have : ces = [] := by have := h.1; simpa using this.symm
    subst this
    simp only [findE, Option.some.injEq] at hf; subst hf
    exact ⟨none, rfl, rfl⟩
  | e :: es, ces, i, r, h, hf => by
    obtain ⟨c, cs, rfl, h1, h2, h3, h4, h5⟩ := h.cons_inv
    have next : ∀ r, findE k es (i + 1) = some r → Instr.sameNow kd k c.key = some false →
        ∃ r', Instr.findNow kd k (c :: cs) i = some r' ∧
          (match r with
           | none => r' = none
           | some (j, v) => ∃ v', r' = some (j, v') ∧ VR nm φ v v' ∧ i ≤ j ∧ ∃ e', (e :: es)[j - i]? = some e' ∧ e'.key = k ∧ e'.val = v) := by
      intro r hf hs
      obtain ⟨r', g1, g2⟩ := findE_ok hk es cs (i + 1) r h5 hf
      refine ⟨r', by simp [Instr.findNow, hs, g1], ?_⟩
      cases r with
      | none => exact g2
      | some q =>
        obtain ⟨j, v⟩ := q
        obtain ⟨v', e1, e2, e3, e', e4, e5, e6⟩ := g2
        refine ⟨v', e1, e2, by omega, e', ?_, e5, e6⟩
        rw [show j - i = (j - (i + 1)) + 1 from by omega, List.getElem?_cons_succ]
        exact e4
    have here : ∀ r, (some (some (i, e.val)) : Option (Option (Nat × Value))) = some r → e.key = k → Instr.sameNow kd k c.key = some true →
        ∃ r', Instr.findNow kd k (c :: cs) i = some r' ∧
          (match r with
           | none => r' = none
           | some (j, v) => ∃ v', r' = some (j, v') ∧ VR nm φ v v' ∧ i ≤ j ∧ ∃ e', (e :: es)[j - i]? = some e' ∧ e'.key = k ∧ e'.val = v) := by
      intro r hr hk' hs
      simp only [Option.some.injEq] at hr; subst hr
      refine ⟨some (i, c.val), by simp [Instr.findNow, hs], c.val, rfl, h4, Nat.le_refl _, e, by simp, hk', rfl⟩
    simp only [findE] at hf
    cases kd <;> cases k <;> simp only [keyOk] at hk <;> first | (cases hk; done) | skip
    · -- bool
      rename_i b
      cases hek : e.key <;> simp only [hek] at hf <;> first | (cases hf; done) | skip
      rename_i b'
      split at hf
      · rename_i hb; subst hb
        exact here r hf hek (by rw [h2, hek]; simp [Instr.sameNow])
      · rename_i hb
        exact next r hf (by rw [h2, hek]; simp [Instr.sameNow, hb])
    · -- int
      rename_i k0 kk n
      cases hek : e.key <;> simp only [hek] at hf <;> first | (cases hf; done) | skip
      rename_i kk' n'
      split at hf
      · rename_i hkk; subst hkk
        split at hf
        · rename_i hn; subst hn
          exact here r hf hek (by rw [h2, hek]; simp [Instr.sameNow])
        · rename_i hn
          exact next r hf (by rw [h2, hek]; simp [Instr.sameNow, hn])
      · cases hf
    · -- string
      rename_i s
      cases hek : e.key <;> simp only [hek] at hf <;> first | (cases hf; done) | skip
      rename_i s'
      split at hf
      · rename_i hs
        have hs' : s = s' := by
          cases s; cases s'; simp only [ByteArray.mk.injEq]; exact Array.ext' hs
        subst hs'
        exact here r hf hek (by rw [h2, hek]; simp only [Instr.sameNow]; rw [bytes_beq, decide_eq_true rfl])
      · rename_i hs
        have hs' : (s == s') = false := by
          rw [bytes_beq]; exact decide_eq_false (fun e => hs (by rw [e]))
        exact next r hf (by rw [h2, hek]; simp [Instr.sameNow, hs'])

theorem keyOk_plain {kd : TypeDesc} {k : Value} (hk : keyOk kd k = true) : plainV k = true := by
  cases kd <;> cases k <;> simp only [keyOk] at hk <;> first | (cases hk; done) | rfl

theorem run_checkKey (ok : EnvOk E P nm) {kt : TypeId} {kd : TypeDesc} {k : Value} (hu : E.und kt = some kd) (hk : keyOk kd k = true) (b : Bool) (n : Nat) : (Instr.checkKey b (n + 1) kt k).run P w = .ok () w := by
  simp only [Instr.checkKey, Sem.run_bind, ok.run_und hu w, Result.andThen_ok]
  cases kd <;> cases k <;> simp only [keyOk] at hk <;> first | (cases hk; done) | rfl
theorem run_checkKey' (ok : EnvOk E P nm) {kt : TypeId} {kd : TypeDesc} {k : Value} (hu : E.und kt = some kd) (hk : keyOk kd k = true) (b : Bool) : (Instr.checkKey b 10000 kt k).run P w = .ok () w :=
  run_checkKey ok hu hk b 9999

theorem run_findKey (ok : EnvOk E P nm) {kt : TypeId} {kd : TypeDesc} {k : Value} {ces : List MapEntry} {r : Option (Nat × Value)} (hu : E.und kt = some kd) (hf : Instr.findNow kd k ces 0 = some r) :
    (Instr.findKey kt k ces).run P w = .ok r w := by
  simp only [Instr.findKey, Sem.run_bind, ok.run_und hu w, Result.andThen_ok, hf, Sem.run_pure]

theorem run_getObj {r : Nat} {o : Obj} (h : w.heap[r]? = some o) (hn : ∀ a b c, o ≠ .cells a b c) : (getObj r).run P w = .ok o w := by
  cases o <;> first | (exact absurd rfl (hn _ _ _)) | simp [getObj, Sem.run, h]
theorem run_setObj {r : Nat} {o o' : Obj} (h : w.heap[r]? = some o) (hn : ∀ a b c, o ≠ .cells a b c) : (setObj r o').run P w = .ok () (putO w r o') := by
  cases o <;> first | (exact absurd rfl (hn _ _ _)) | (simp [setObj, Sem.run, h, putO])

theorem map_at (h : WR nm K base φ A w) {r : Nat} {es : List MapEntry} {c : Nat} {p : Pl} (hr : A.h.get r = some (.map es c)) (hp : φ r = some p) :
    ∃ ces : Array MapEntry, w.heap[p.blk]? = some (.map ces c) ∧ EntR nm φ es ces.toList := by
  obtain ⟨q, hq, ho, _⟩ := h.obj r _ hr rfl
  rw [hp] at hq; cases hq
  exact ho

theorem xLookup_ok (ok : EnvOk E P nm) (h : WR nm K base φ A w) (t : TypeId) (m ix : Operand) (cok : Bool) (hm : VR nm φ (ρ m) (ρ' m)) (hi : VR nm φ (ρ ix) (ρ' ix))
    (hx : xLookup E A ρ t m ix cok = some (nx, A')) : Goal P nm K base φ A w (Instr.lookup t (ρ' m) (ρ' ix) cok >>= fun x => pure (Next.value x)) nx A' := by
  unfold xLookup at hx
  split at hx
  · rename_i kt et hu
    split at hx
    · rename_i kd z hkd hz
      split at hx
      · rename_i hk
        have hix := hi.plainV_eq (keyOk_plain hk)
        have fin : ∀ (es : List MapEntry) (ces : Array MapEntry), EntR nm φ es ces.toList →
            (match findE (ρ ix) es 0 with
              | some (some (_, v)) => some (Nx.val (if cok then .tuple #[v, .bool true] else v), A)
              | some none => some (.val (if cok then .tuple #[z, .bool false] else z), A)
              | none => none) = some (nx, A') →
            A' = A ∧ ((∃ j v v', (Instr.findKey kt (ρ ix) ces.toList).run P w = .ok (some (j, v')) w ∧ VR nm φ v v' ∧ nx = .val (if cok then .tuple #[v, .bool true] else v)) ∨
              ((Instr.findKey kt (ρ ix) ces.toList).run P w = .ok none w ∧ nx = .val (if cok then .tuple #[z, .bool false] else z))) := by
          intro es ces hent hr
          cases hf : findE (ρ ix) es 0 with
          | none => simp [hf] at hr
          | some r =>
            obtain ⟨r', g1, g2⟩ := findE_ok hk es ces.toList 0 r hent hf
            have hfk := run_findKey (w := w) ok hkd g1
            simp only [hf] at hr
            cases r with
            | none =>
              simp only [] at hr g2
              cases hr
              subst g2
              exact ⟨rfl, .inr ⟨hfk, rfl⟩⟩
            | some q =>
              obtain ⟨j, u⟩ := q
              simp only [] at hr
              cases hr
              obtain ⟨v', e1, e2, _⟩ := g2
              subst e1
              exact ⟨rfl, .inl ⟨j, u, v', hfk, e2, rfl⟩⟩
        simp only [] at hx
        revert hx hm
        generalize ρ m = mv
        generalize ρ' m = mv'
        intro hm hx
        cases mv with
        | map r =>
          cases r with
          | none =>
            cases hm
            obtain ⟨g0, g⟩ := fin [] #[] .nil hx
            subst g0
            rcases g with ⟨j, v, v', g1, g2, rfl⟩ | ⟨g1, rfl⟩
            · refine goal_here h (v' := if cok then .tuple #[v', .bool true] else v') ?_ ?_
              · cases cok
                · exact g2
                · exact .tuple' (.cons g2 (.cons (.bool _) .nil))
              · simp only [] at g1
                simp [Instr.lookup, ok.run_und hu w, hix, run_checkKey' ok hkd hk, g1]
            · refine goal_here h (v' := if cok then .tuple #[z, .bool false] else z) ?_ ?_
              · cases cok
                · exact .of_plainV (zero_plain hz)
                · exact .tuple' (.cons (.of_plainV (zero_plain hz)) (.cons (.bool _) .nil))
              · simp only [] at g1
                simp [Instr.lookup, ok.run_und hu w, hix, run_checkKey' ok hkd hk, g1, ok.run_zero hz w]
          | some r =>
            obtain ⟨p, hp, rfl⟩ := hm.map_inv
            simp only [] at hx
            cases hr : A.h.get r with
            | none => simp [hr] at hx
            | some o =>
              cases o with
              | map es c =>
                simp only [hr] at hx
                obtain ⟨ces, hc, hent⟩ := map_at h hr hp
                obtain ⟨g0, g⟩ := fin es ces hent hx
                subst g0
                have hgo := run_getObj (P := P) hc (by simp)
                rcases g with ⟨j, v, v', g1, g2, rfl⟩ | ⟨g1, rfl⟩
                · refine goal_here h (v' := if cok then .tuple #[v', .bool true] else v') ?_ ?_
                  · cases cok
                    · exact g2
                    · exact .tuple' (.cons g2 (.cons (.bool _) .nil))
                  · simp [Instr.lookup, ok.run_und hu w, hix, run_checkKey' ok hkd hk, g1, hgo]
                · refine goal_here h (v' := if cok then .tuple #[z, .bool false] else z) ?_ ?_
                  · cases cok
                    · exact .of_plainV (zero_plain hz)
                    · exact .tuple' (.cons (.of_plainV (zero_plain hz)) (.cons (.bool _) .nil))
                  · simp [Instr.lookup, ok.run_und hu w, hix, run_checkKey' ok hkd hk, g1, hgo, ok.run_zero hz w]
              | _ => simp [hr] at hx
        | _ => simp at hx
      · cases hx
    · cases hx
  · cases hx

/-- Entries changed, or one more. -/
theorem EntR.modify {es ces : List MapEntry} (h : EntR nm φ es ces) (i : Nat) {v v' : Value} (hv : VR nm φ v v') (f : MapEntry → MapEntry) (hf : ∀ e c : MapEntry, es[i]? = some e → ces[i]? = some c → f c = { c with key := e.key, val := v' }) :
    EntR nm φ (es.modify i fun e => { e with val := v }) (ces.modify i f) := by
  refine ⟨by simp [h.1], fun j e c h1 h2 => ?_⟩
  rw [List.getElem?_modify] at h1 h2
  cases he : es[j]? with
  | none => simp [he] at h1
  | some e0 =>
    obtain ⟨c0, hc0, a, b, d, g⟩ := h.get? he
    by_cases hij : i = j
    · subst hij
      simp only [if_true, he, Option.map_some, Option.some.injEq, Functor.map] at h1
      simp only [if_true, hc0, Option.map_some, Option.some.injEq, Functor.map] at h2
      rw [hf e0 c0 he hc0] at h2
      subst h1; subst h2
      exact ⟨a, rfl, d, hv⟩
    · simp only [hij, if_false, he, Option.map_some, Option.some.injEq, Functor.map] at h1
      simp only [hij, if_false, hc0, Option.map_some, Option.some.injEq, Functor.map] at h2
      subst h1; subst h2
      exact ⟨a, b, d, g⟩
theorem EntR.push {es ces : List MapEntry} (h : EntR nm φ es ces) {k v v' : Value} (n : Nat) (hk : plainV k = true) (hv : VR nm φ v v') :
    EntR nm φ (es ++ [{ key := k, val := v, born := n }]) (ces ++ [{ key := k, val := v', born := n }]) := by
  refine ⟨by simp [h.1], fun j e c h1 h2 => ?_⟩
  rw [List.getElem?_append] at h1 h2
  rw [← h.1] at h2
  split at h1
  · rename_i hj
    rw [if_pos hj] at h2
    exact h.2 j e c h1 h2
  · rename_i hj
    rw [if_neg hj] at h2
    cases hq : j - es.length with
    | zero =>
      rw [hq] at h1 h2
      simp at h1 h2
      subst h1; subst h2
      exact ⟨hk, rfl, rfl, hv⟩
    | succ q => rw [hq] at h1; simp at h1

theorem sameBits_refl {kd : TypeDesc} {k : Value} (hk : keyOk kd k = true) (n : Nat) : Instr.sameBits n k k = true := by
  cases kd <;> cases k <;> simp only [keyOk] at hk <;> first | (cases hk; done) | skip
  · simp [Instr.sameBits]
  · simp [Instr.sameBits]
  · simp only [Instr.sameBits]; rw [bytes_beq]; simp

theorem run_keyThatStays {kd : TypeDesc} {k : Value} (hk : keyOk kd k = true) : (Instr.keyThatStays k k).run P w = .ok k w := by
  simp only [Instr.keyThatStays]
  rw [if_pos (sameBits_refl hk 10000)]
  rfl

theorem xMapUpdate_ok (ok : EnvOk E P nm) (h : WR nm K base φ A w) (t : TypeId) (m k x : Operand) (hm : VR nm φ (ρ m) (ρ' m)) (hk : VR nm φ (ρ k) (ρ' k)) (hv : VR nm φ (ρ x) (ρ' x))
    (hx : xMapUpdate E A ρ t m k x = some (nx, A')) : Goal P nm K base φ A w (Instr.mapUpdate t (ρ' m) (ρ' k) (ρ' x) >>= fun _ => pure Next.skip) nx A' := by
  unfold xMapUpdate at hx
  split at hx
  · rename_i kt et r hu hr
    split at hx
    · rename_i kd es c hkd hes
      split at hx
      · rename_i hkk
        split at hx
        · rename_i es' c' hput
          cases hx
          have hkx := hk.plainV_eq (keyOk_plain hkk)
          rw [hr] at hm
          obtain ⟨p, hp, e⟩ := hm.map_inv
          obtain ⟨ces, hc, hent⟩ := map_at h hes hp
          have hgo := run_getObj (P := P) hc (by simp)
          have hlt := h.lt _ _ hp
          have step : ∀ (o : Obj) (ces' : Array MapEntry), o = .map ces' c' → EntR nm φ es' ces'.toList → WR nm K base φ (A.setObj r (.map es' c')) (putO w p.blk o) := by
            intro o ces' ho he
            subst ho
            exact h.setObj (o := .map es c) (o' := .map es' c') hes rfl rfl (by simp) (by simp) rfl hp ⟨ces', putO_same w _ hlt, he⟩
          unfold mapPut at hput
          split at hput
          · rename_i i v hf
            cases hput
            obtain ⟨r', g1, g2⟩ := findE_ok hkk es ces.toList 0 _ hent hf
            obtain ⟨v', e1, e2, e3, e0, e4, e5, e6⟩ := g2
            subst e1
            have hfk := run_findKey (w := w) ok hkd g1
            rw [Nat.sub_zero] at e4
            obtain ⟨c0, hc0, _, hkey, _, _⟩ := hent.get? e4
            have hck : c0.key = ρ k := hkey.trans e5
            refine goal_skip (A' := A.setObj r (.map (es.modify i fun e => { e with val := ρ x }) c)) (w' := putO w p.blk (.map (ces.modify i fun e => { e with key := ρ k, val := ρ' x }) c)) rfl ?_ ?_
            · refine step _ _ rfl ?_
              rw [Array.toList_modify]
              exact hent.modify i hv _ (fun e1 c1 he1 hc1 => by rw [e4] at he1; cases he1; rw [e5])
            · have hc0' : ces[i]? = some c0 := by simpa using hc0
              simp [Instr.mapUpdate, ok.run_und hu w, e, hgo, hkx, run_checkKey' ok hkd hkk, hfk, hc0', hck, run_keyThatStays hkk, run_setObj hc (by simp)]
          · rename_i hf
            cases hput
            obtain ⟨r', g1, g2⟩ := findE_ok hkk es ces.toList 0 _ hent hf
            simp only [] at g2
            subst g2
            have hfk := run_findKey (w := w) ok hkd g1
            refine goal_skip (A' := A.setObj r (.map (es ++ [{ key := ρ k, val := ρ x, born := c }]) (c + 1))) (w' := putO w p.blk (.map (ces.push { key := ρ k, val := ρ' x, born := c }) (c + 1))) rfl ?_ ?_
            · refine step _ _ rfl ?_
              rw [Array.toList_push]
              exact hent.push c (keyOk_plain hkk) hv
            · simp [Instr.mapUpdate, ok.run_und hu w, e, hgo, hkx, run_checkKey' ok hkd hkk, hfk, run_setObj hc (by simp)]
          · cases hput
        · cases hx
      · cases hx
    · cases hx
  · cases hx
end
end Go.AM
