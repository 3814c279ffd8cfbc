/- Built-in functions, and the model's stand-ins. -/
import Derived.Test.YticbldgcpppnoaaGreatDoorAmApp
import Derived.Lib.Bytealg
import Derived.Laws.BytesString
namespace Go.AM
section
variable {E : Env} {P : Program} {nm : Nm} {K : Kp} {base : World} {φ : Emb} {A A' : St} {w : World} {ρ ρ' : Operand → Value} {nx : Nx}

theorem args1 {a : Value} {args' : Array Value} (h : LR nm φ [a] args'.toList) : ∃ a', args' = #[a'] ∧ VR nm φ a a' := by
  obtain ⟨a', l, e, h1, h2⟩ := h.cons_inv
  have := h2.nil_inv
  subst this
  exact ⟨a', Array.ext' e, h1⟩
theorem args2 {a b : Value} {args' : Array Value} (h : LR nm φ [a, b] args'.toList) : ∃ a' b', args' = #[a', b'] ∧ VR nm φ a a' ∧ VR nm φ b b' := by
  obtain ⟨a', l, e, h1, h2⟩ := h.cons_inv
  obtain ⟨b', l2, rfl, h3, h4⟩ := h2.cons_inv
  have := h4.nil_inv
  subst this
  exact ⟨a', b', Array.ext' e, h1, h3⟩

/-- Bytes in memory. -/
theorem bytes_foldr : ∀ (vs : List Value) (l : List UInt8), vs.foldr (fun v acc => match v, acc with | .int .u8 b, some l => some (UInt8.ofNat b.toNat :: l) | _, _ => none) (some []) = some l →
    ∃ ns : List Int, vs = ns.map (Value.int .u8) ∧ l = ns.map fun n => UInt8.ofNat n.toNat := by
  intro vs
  induction vs with
  | nil => intro l h; simp at h; subst h; exact ⟨[], rfl, rfl⟩
  | cons v vs ih =>
    intro l h
    simp only [List.foldr_cons] at h
    split at h
    · rename_i b l' hl
      cases h
      obtain ⟨ns, e1, e2⟩ := ih _ hl
      exact ⟨b :: ns, by simp [e1], by simp [e2]⟩
    · cases h

theorem ints_eq : ∀ (ns : List Int) (k : IntKind) (cvs : List Value), LR nm φ (ns.map (Value.int k)) cvs → cvs = ns.map (Value.int k)
  | [], k, cvs, h => h.nil_inv
  | n :: ns, k, cvs, h => by
    obtain ⟨v', m, rfl, h1, h2⟩ := LR.cons_inv (v := .int k n) (l := ns.map (Value.int k)) h
    rw [h1.int_inv, ints_eq ns k m h2]; rfl

theorem push_data : ∀ (ns : List Int) (s : ByteArray), ns.foldl (fun r n => r.push (UInt8.ofNat n.toNat)) s = ⟨s.data ++ (ns.map fun n => UInt8.ofNat n.toNat).toArray⟩
  | [], s => by simp
  | n :: ns, s => by
    simp only [List.foldl_cons, List.map_cons]
    rw [push_data ns]
    have : (s.push (UInt8.ofNat n.toNat)).data = s.data.push (UInt8.ofNat n.toNat) := rfl
    rw [this]
    congr 1
    apply Array.ext'
    simp

theorem mk_data (s : ByteArray) : (⟨s.data.toList.toArray⟩ : ByteArray) = s := by cases s; simp

theorem ext_loadBytes {w : World} : ∀ (ns : List Int) (a : Addr) (acc : ByteArray), (∀ j v, (ns.map (Value.int .u8))[j]? = some v → w.cell? (a.add j) = some v) →
    (Extern.Bytes.loadBytes a ns.length acc).run P w = .ok (ns.foldl (fun r n => r.push (UInt8.ofNat n.toNat)) acc) w := by
  intro ns
  induction ns with
  | nil => intro a acc _; rfl
  | cons n ns ih =>
    intro a acc h
    have h0 := h 0 (.int .u8 n) (by simp)
    have hz : a.add 0 = a := rfl
    rw [hz] at h0
    simp only [List.length_cons, Extern.Bytes.loadBytes, Sem.run_bind, run_load, h0, Result.andThen_ok, List.foldl_cons]
    exact ih (a.add 1) _ fun j v hj => by
      have := h (j + 1) v (by simpa using hj)
      have e : (a.add 1).add j = a.add (j + 1) := by
        unfold Addr.add
        by_cases g : j = 0
        · subst g; simp
        · simp [g, Nat.add_assoc, Nat.add_comm 1 j]
      rw [e]; exact this

theorem lay_loadBytes {w : World} : ∀ (ns : List Int) (a : Addr) (acc : ByteArray), (∀ j v, (ns.map (Value.int .u8))[j]? = some v → w.cell? (a.add j) = some v) →
    (Go.loadBytes a acc ns.length).run P w = .ok (ns.foldl (fun r n => r.push (UInt8.ofNat n.toNat)) acc) w := by
  intro ns
  induction ns with
  | nil => intro a acc _; rfl
  | cons n ns ih =>
    intro a acc h
    have h0 := h 0 (.int .u8 n) (by simp)
    have hz : a.add 0 = a := rfl
    rw [hz] at h0
    simp only [List.length_cons, Go.loadBytes, Sem.run_bind, run_load, h0, Result.andThen_ok, List.foldl_cons]
    exact ih (a.add 1) _ fun j v hj => by
      have := h (j + 1) v (by simpa using hj)
      have e : (a.add 1).add j = a.add (j + 1) := by
        unfold Addr.add
        by_cases g : j = 0
        · subst g; simp
        · simp [g, Nat.add_assoc, Nat.add_comm 1 j]
      rw [e]; exact this

/-- What a text, or bytes in memory, are in the model. -/
theorem bytesL_cases (h : WR nm K base φ A w) {x x' : Value} {l : List UInt8} (hf : bytesL A x = some l) (hx : VR nm φ x x') :
    (∃ s : ByteArray, x = .string s ∧ x' = .string s ∧ l = s.data.toList) ∨ (∃ m c, x = .slice none m c ∧ x' = .slice none m c ∧ l = []) ∨
    (∃ (a a' : Addr) (n c c' : Nat) (ns : List Int), x = .slice (some a) n c ∧ x' = .slice (some a') n c' ∧ l = ns.map (fun n : Int => UInt8.ofNat n.toNat) ∧ ns.length = n ∧
      (∀ j v, (ns.map (Value.int .u8))[j]? = some v → w.cell? (a'.add j) = some v)) := by
  unfold bytesL at hf
  split at hf
  · rename_i s
    cases hf
    exact .inl ⟨s, rfl, hx.str_inv, rfl⟩
  · rename_i m c
    cases hf
    exact .inr (.inl ⟨m, c, rfl, hx.nils_inv, rfl⟩)
  · rename_i a n c
    split at hf
    · rename_i vs hv
      obtain ⟨ns, e1, e2⟩ := bytes_foldr vs l hf
      refine .inr (.inr ?_)
      rcases Nat.eq_zero_or_pos n with h0 | h0
      · subst h0
        obtain ⟨a', k', p, rfl, _⟩ := hx.slc_inv
        have hl : vs = [] := by
          unfold St.loadN at hv
          split at hv
          · cases hv
          split at hv
          · split at hv
            · exact List.eq_nil_of_length_eq_zero (T.range_some _ _ _ _ hv).1
            · cases hv
          · cases hv
        have hns : ns = [] := by
          rw [hl] at e1
          cases ns with
          | nil => rfl
          | cons n ns => simp at e1
        subst hns
        exact ⟨a, a', 0, c, k', [], rfl, rfl, e2, rfl, fun j v hj => by simp at hj⟩
      · obtain ⟨k', p, rfl, hp, hsp, _⟩ := slc_place hx h0
        obtain ⟨cvs, hr⟩ := h.load hv hp
        subst e1
        have := ints_eq ns .u8 cvs hr.rel
        subst this
        exact ⟨a, _, n, c, k', ns, rfl, rfl, e2, by simpa using hr.len, hr.cell⟩
    · cases hf
  · cases hf

theorem bytesOf_ok (h : WR nm K base φ A w) {x x' : Value} {l : List UInt8} (hf : bytesL A x = some l) (hx : VR nm φ x x') : (Extern.Bytes.bytesOf x').run P w = .ok ⟨l.toArray⟩ w := by
  rcases bytesL_cases h hf hx with ⟨s, _, rfl, rfl⟩ | ⟨m, c, _, rfl, rfl⟩ | ⟨a, a', n, c, c', ns, _, rfl, rfl, hl, hc⟩
  · rw [mk_data]; rfl
  · rfl
  · subst hl
    simp only [Extern.Bytes.bytesOf]
    rw [ext_loadBytes ns a' .empty hc, push_data]
    simp

theorem toString_ok (h : WR nm K base φ A w) {x x' : Value} {l : List UInt8} (hf : bytesL A x = some l) (hx : VR nm φ x x') (hns : ∀ s, x ≠ .string s) : (Conv.bytesToString x').run P w = .ok (mkStr l) w := by
  rcases bytesL_cases h hf hx with ⟨s, rfl, _, _⟩ | ⟨m, c, _, rfl, rfl⟩ | ⟨a, a', n, c, c', ns, _, rfl, rfl, hl, hc⟩
  · exact absurd rfl (hns s)
  · rfl
  · subst hl
    have hld : (loadCells a' ns.length).run P w = .ok (ns.map (Value.int .u8)).toArray w := by
      have := run_loadCells_list (P := P) w a' (ns.map (Value.int .u8)) hc
      simpa using this
    rw [run_bytesToString w a' ns.length c' ns hld, push_data]
    simp [mkStr]

theorem run_indexByte_any {x' : Value} {c : Int} {s : ByteArray} (h : (Extern.Bytes.bytesOf x').run P w = .ok s w) :
    (Extern.BytealgIndexByte.indexByte #[x', .int .u8 c]).run P w = (Extern.BytealgIndexByte.indexByte #[.string s, .int .u8 c]).run P w := by
  change Sem.run P (Extern.Bytes.bytesOf x' >>= fun b => Extern.Bytes.asByte (.int .u8 c) >>= fun c => match (List.range b.size).find? fun i => b[i]! == c with
    | some i => pure (goInt i)
    | none => pure (goInt (-1))) w = Sem.run P (Extern.Bytes.bytesOf (.string s) >>= fun b => Extern.Bytes.asByte (.int .u8 c) >>= fun c => match (List.range b.size).find? fun i => b[i]! == c with
    | some i => pure (goInt i)
    | none => pure (goInt (-1))) w
  have h2 : (Extern.Bytes.bytesOf (.string s)).run P w = .ok s w := rfl
  simp only [Sem.run_bind, h, h2, Result.andThen_ok]

theorem byteIdx_eq (l : List UInt8) (c : UInt8) : (match l.findIdx? (· == c) with | some i => (i : Int) | none => -1) = Lib.indexByte l c := by
  induction l with
  | nil => rfl
  | cons b l ih =>
    rw [List.findIdx?_cons]
    unfold Lib.indexByte
    by_cases e : b == c
    · simp [e]
    · simp only [e, Bool.false_eq_true, if_false, ← ih]
      cases hq : l.findIdx? (· == c) with
      | none => simp
      | some i =>
        have : ¬ ((i : Int) == -1) = true := by simp
        simp [this]

/-- The stand-ins. -/
theorem extern_ok (h : WR nm K base φ A w) {name : String} {args : List Value} {args' : Array Value} {v : Value} (ha : LR nm φ args args'.toList)
    (hf : externOp A name args = some (v, A')) : (name = "internal/bytealg.IndexByteString" ∨ name = "internal/bytealg.IndexByte" ∨ name = "internal/abi.NoEscape" ∨ name = "internal/bytealg.abigen_runtime_cmpstring" ∨ name = "internal/bytealg.CountString") ∧
      A' = A ∧ ∃ v', VR nm φ v v' ∧ (rowOf name args').run P w = .ok v' w := by
  unfold externOp at hf
  split at hf
  · rename_i hn
    split at hf
    · rename_i b c
      split at hf
      · rename_i l hl
        cases hf
        obtain ⟨b', c', rfl, hb, hc⟩ := args2 ha
        have := hc.int_inv
        subst this
        have hby := bytesOf_ok (P := P) h hl hb
        refine ⟨hn.elim .inl (fun g => .inr (.inl g)), rfl, _, .of_plainV rfl, ?_⟩
        have hrow : rowOf name = Extern.BytealgIndexByte.indexByte := by unfold rowOf; rw [if_pos hn]
        rw [hrow]
        have hs := Lib.run_indexByteString (P := P) ⟨l.toArray⟩ c w
        rw [run_indexByte_any hby, hs]
        exact congrArg (fun z => Result.ok (Value.int .i64 z) w) (byteIdx_eq l c.toNat.toUInt8).symm
      · cases hf
    · cases hf
  · rename_i hn
    split at hf
    · rename_i hn2
      split at hf
      · cases hf
        obtain ⟨b', rfl, hb⟩ := args1 ha
        refine ⟨.inr (.inr (.inl hn2)), rfl, _, hb, ?_⟩
        have hrow : rowOf name = Extern.AbiNoEscape.same := by unfold rowOf; rw [if_neg hn, if_pos hn2]
        rw [hrow]; rfl
      · cases hf
    · rename_i hn2
      split at hf
      · rename_i hn3
        split at hf
        · rename_i a b
          cases hf
          obtain ⟨a', b', rfl, ha', hb'⟩ := args2 ha
          have e1 := ha'.str_inv
          have e2 := hb'.str_inv
          subst e1; subst e2
          refine ⟨.inr (.inr (.inr (.inl hn3))), rfl, _, .of_plainV rfl, ?_⟩
          have hrow : rowOf name = Extern.BytealgCompare.compare := by unfold rowOf; rw [if_neg hn, if_neg hn2, if_pos hn3]
          rw [hrow]; rfl
        · cases hf
      · rename_i hn3
        split at hf
        · rename_i hn4
          split at hf
          · rename_i a c
            cases hf
            obtain ⟨a', b', rfl, ha', hb'⟩ := args2 ha
            have e1 := ha'.str_inv
            have e2 := hb'.int_inv
            subst e1; subst e2
            refine ⟨.inr (.inr (.inr (.inr hn4))), rfl, _, .of_plainV rfl, ?_⟩
            have hrow : rowOf name = Extern.BytealgCount.count := by unfold rowOf; rw [if_neg hn, if_neg hn2, if_neg hn3]
            rw [hrow, Lib.run_countString]
            simp only [goInt, Lib.countByte, List.count, List.countP_eq_length_filter]
          · cases hf
        · cases hf
end
end Go.AM

namespace Go.AM
section
variable {E : Env} {P : Program} {nm : Nm} {K : Kp} {base : World} {φ : Emb} {A A' : St} {w : World} {ρ ρ' : Operand → Value} {nx : Nx}

theorem und0_some {ts : List TypeId} {d : TypeDesc} (h : und0 E ts = some d) : ∃ t l, ts = t :: l ∧ E.und t = some d := by
  unfold und0 at h
  split at h
  · exact ⟨_, _, rfl, h⟩
  · cases h

theorem VR.mapn_inv {c : Value} (h : VR nm φ (.map none) c) : c = .map none := by cases h; rfl

theorem bLen_ok (ok : EnvOk E P nm) (h : WR nm K base φ A w) {ts : List TypeId} {args : List Value} {args' : Array Value} {ty : TypeId} (ha : LR nm φ args args'.toList)
    (hf : bLen E A ts args = some (nx, A')) : Goal P nm K base φ A w (Builtin.len_ ts.toArray ty args' >>= fun x => pure (Next.value x)) nx A' := by
  unfold bLen at hf
  split at hf
  · rename_i hu
    obtain ⟨t, l, rfl, hu⟩ := und0_some hu
    cases hf
    obtain ⟨x', rfl, hx⟩ := args1 ha
    refine goal_here h (.of_plainV rfl) ?_
    cases hx <;> simp [Builtin.len_, ok.run_und hu w]
  · rename_i hu
    obtain ⟨t, l, rfl, hu⟩ := und0_some hu
    cases hf
    obtain ⟨x', rfl, hx⟩ := args1 ha
    refine goal_here h (.of_plainV rfl) ?_
    rw [hx.str_inv]; simp [Builtin.len_, ok.run_und hu w]
  · rename_i hu
    obtain ⟨t, l, rfl, hu⟩ := und0_some hu
    cases hf
    obtain ⟨x', rfl, hx⟩ := args1 ha
    refine goal_here h (.of_plainV rfl) ?_
    rw [hx.mapn_inv]; simp [Builtin.len_, ok.run_und hu w]
  · rename_i r hu
    obtain ⟨t, l, rfl, hu⟩ := und0_some hu
    split at hf
    · rename_i es cl hr
      cases hf
      obtain ⟨x', rfl, hx⟩ := args1 ha
      obtain ⟨p, hp, rfl⟩ := hx.map_inv
      obtain ⟨q, hq, ⟨ces, ho, her⟩, _⟩ := h.obj r _ hr rfl
      rw [hp] at hq; cases hq
      refine goal_here h (.of_plainV rfl) ?_
      have hsz : es.length = ces.size := her.1
      simp only [Builtin.len_, List.getElem?_toArray, List.getElem?_cons_zero, Sem.run_bind, ok.run_und hu w, Result.andThen_ok, run_getObj ho (fun _ _ _ e => by cases e), Sem.run_pure, hsz]
    · cases hf
  · rename_i hu
    obtain ⟨t, l, rfl, hu⟩ := und0_some hu
    cases hf
    obtain ⟨x', rfl, hx⟩ := args1 ha
    refine goal_here h (.of_plainV rfl) ?_
    simp [Builtin.len_, ok.run_und hu w]
  · rename_i hu
    obtain ⟨t, l, rfl, hu⟩ := und0_some hu
    split at hf
    · rename_i hu2
      cases hf
      obtain ⟨x', rfl, hx⟩ := args1 ha
      refine goal_here h (.of_plainV rfl) ?_
      simp [Builtin.len_, ok.run_und hu w, ok.run_und hu2 w]
    · cases hf
  · cases hf

theorem bCap_ok (ok : EnvOk E P nm) (h : WR nm K base φ A w) {ts : List TypeId} {args : List Value} {args' : Array Value} {ty : TypeId} (ha : LR nm φ args args'.toList)
    (hf : bCap E A ts args = some (nx, A')) : Goal P nm K base φ A w (Builtin.cap_ ts.toArray ty args' >>= fun x => pure (Next.value x)) nx A' := by
  unfold bCap at hf
  split at hf
  · rename_i hu
    obtain ⟨t, l, rfl, hu⟩ := und0_some hu
    cases hf
    obtain ⟨x', rfl, hx⟩ := args1 ha
    refine goal_here h (.of_plainV rfl) ?_
    rw [hx.nils_inv]; simp [Builtin.cap_, ok.run_und hu w]
  · rename_i a _ n hu
    obtain ⟨t, l, rfl, hu⟩ := und0_some hu
    split at hf
    · rename_i r hr
      split at hf
      · cases hf
      · rename_i hop
        cases hf
        obtain ⟨x', rfl, hx⟩ := args1 ha
        obtain ⟨a', k', p, rfl, hp, _, _, _, _, q4, _⟩ := hx.slc_inv
        obtain ⟨q, hq, ⟨cs, fz, ho⟩, _⟩ := h.obj a.block _ (row?_some hr) rfl
        rw [hp] at hq; cases hq
        have := q4 (by rw [ho.opn]; simpa using hop)
        subst this
        refine goal_here h (.of_plainV rfl) ?_
        simp [Builtin.cap_, ok.run_und hu w]
    · cases hf
  · cases hf

theorem bAppend_ok (ok : EnvOk E P nm) (h : WR nm K base φ A w) {ts : List TypeId} {args : List Value} {args' : Array Value} {ty : TypeId} (ha : LR nm φ args args'.toList)
    (hf : bAppend E A ts args = some (nx, A')) : Goal P nm K base φ A w (Builtin.append_ ts.toArray ty args' >>= fun x => pure (Next.value x)) nx A' := by
  unfold bAppend at hf
  split at hf
  · rename_i v A1 hv
    cases hf
    obtain ⟨φ', w', v', h1, h2, h3, h4, h5⟩ := app_ok ok h ha hv (ty := ty)
    exact goal_val h1 h2 h3 h4 h5
  · cases hf

theorem lenV_ok {x x' : Value} {n : Nat} (hl : lenV x = some n) (hx : VR nm φ x x') (w2 : World) : (Builtin.lenOf x').run P w2 = .ok n w2 := by
  unfold lenV at hl
  split at hl
  · rename_i b l c
    cases hl
    cases b with
    | none => rw [hx.nils_inv]; rfl
    | some b => obtain ⟨a', k', p, rfl, _⟩ := hx.slc_inv; rfl
  · cases hl; rw [hx.str_inv]; rfl
  · cases hl

theorem bCopy_ok (ok : EnvOk E P nm) (h : WR nm K base φ A w) {ts : List TypeId} {args : List Value} {args' : Array Value} {ty : TypeId} (ha : LR nm φ args args'.toList)
    (hf : bCopy E A ts args = some (nx, A')) : Goal P nm K base φ A w (Builtin.copy_ ts.toArray ty args' >>= fun x => pure (Next.value x)) nx A' := by
  unfold bCopy at hf
  split at hf
  · rename_i e bs dl dc src hu
    obtain ⟨t, l, rfl, hu⟩ := und0_some hu
    split at hf
    · rename_i sz sl hs hl
      split at hf
      · rename_i cs hc
        obtain ⟨d', s', rfl, hd, hsr⟩ := args2 ha
        obtain ⟨cvs, h1, h2⟩ := firstN_ok (P := P) h hsr hc (fun a l c e => by subst e; simp [lenV] at hl; rw [hl]; exact Nat.min_le_left _ _)
        have h2w := h2 w rfl
        split at hf
        · cases hf
          refine goal_here h (.of_plainV rfl) ?_
          rw [hd.nils_inv]
          simp [Builtin.copy_, ok.run_und hu w, lenV_ok hl hsr, ok.run_size hs w, h2w]
        · rename_i a
          obtain ⟨a', k', p, rfl, hp, hsp, q1, q2, q3, q4, q5, q6⟩ := hd.slc_inv
          split at hf
          · rename_i h0
            cases hf
            have : cvs = [] := List.eq_nil_of_length_eq_zero (by rw [← h1.length]; exact h0)
            subst this
            refine goal_here h (.of_plainV rfl) ?_
            simp [Builtin.copy_, ok.run_und hu w, lenV_ok hl hsr, ok.run_size hs w, h2w, storeCells]
          · rename_i h0
            split at hf
            · rename_i A1 hst
              cases hf
              obtain ⟨w', r1, r2, r3⟩ := h.store (P := P) hst h1 hp
              by_cases hdl : dl = 0
              · exfalso
                apply h0
                subst hdl
                have hmin : Nat.min sl 0 = 0 := Nat.min_zero _
                rw [hmin] at hc
                unfold firstN at hc
                split at hc
                · unfold St.loadN at hc
                  split at hc
                  · cases hc
                  split at hc
                  · split at hc
                    · rw [(T.range_some _ _ _ _ hc).1]; simp
                    · cases hc
                  · cases hc
                · split at hc
                  · cases hc; rfl
                  · cases hc
                · cases hc; simp
                · cases hc
              · have hk : ¬ k' = 0 := by
                  intro e0
                  cases hop : p.opn with
                  | true => have := (q5 hop).1; omega
                  | false => have := q4 hop; omega
                have haddr : a' = ⟨p.blk, p.off + a.off, none⟩ := by
                  have hoff := q3.resolve_left hk
                  obtain ⟨ab, ao, as⟩ := a'
                  simp only [] at q1 q2 hoff
                  subst q1; subst q2; subst hoff
                  rfl
                subst haddr
                refine goal_val (Emb.ext_refl _ _) (by rw [r3]; exact Nat.le_refl _) r2 (.of_plainV rfl) ?_
                simp [Builtin.copy_, ok.run_und hu w, lenV_ok hl hsr, ok.run_size hs w, h2w, r1]
            · cases hf
      · cases hf
    · cases hf
  · cases hf

theorem bMin_ok (ok : EnvOk E P nm) (h : WR nm K base φ A w) {b : Builtin} {ts : List TypeId} {args : List Value} {args' : Array Value} {ty : TypeId} {cs : Array Bool} (ha : LR nm φ args args'.toList)
    (hb : b = .min ∨ b = .max) (hf : bMin E A b ts ty args = some (nx, A')) : Goal P nm K base φ A w (builtin b ts.toArray ty cs args') nx A' := by
  unfold bMin at hf
  split at hf
  · rename_i hp
    have : args' = args.toArray := by
      apply Array.ext'
      apply List.ext_getElem?
      intro i
      cases hx : args[i]? with
      | none =>
        have : args.length ≤ i := by
          rcases Nat.lt_or_ge i args.length with g | g
          · rw [List.getElem?_eq_getElem g] at hx; cases hx
          · exact g
        rw [List.getElem?_eq_none (by rw [← ha.1]; exact this)]
      | some x =>
        obtain ⟨y, hy, hr⟩ := ha.get? hx
        rw [hy]
        rw [hr.plainV_eq (List.all_eq_true.1 hp x (List.mem_of_getElem? hx))]
    subst this
    split at hf
    · rename_i v hr
      split at hf
      · rename_i hv
        cases hf
        rw [ok.prog] at hr
        refine ⟨φ, w, Emb.ext_refl _ _, Nat.le_refl _, h, v, .of_plainV hv, ?_⟩
        have := pureRun_ok _ _ hr w
        rcases hb with rfl | rfl <;> exact this
      · cases hf
    · cases hf
  · cases hf

theorem bPanic_ok (h : WR nm K base φ A w) {args : List Value} {args' : Array Value} (ha : LR nm φ args args'.toList)
    (hf : bPanic A args = some (nx, A')) : Goal P nm K base φ A w (Instr.panic (args'.getD 0 .nilIface) >>= fun x => pure (Next.value x)) nx A' := by
  unfold bPanic at hf
  split at hf
  · rename_i t v
    cases hf
    obtain ⟨x', rfl, hx⟩ := args1 ha
    cases hx with
    | iface t v v' hv => exact goal_pan h (.iface t v v' hv) rfl
  · cases hf

theorem bUnsafeSliceData_ok (h : WR nm K base φ A w) {ts : Array TypeId} {args : List Value} {args' : Array Value} {ty : TypeId} (ha : LR nm φ args args'.toList)
    (hf : bUnsafeSliceData A args = some (nx, A')) : Goal P nm K base φ A w (Builtin.unsafeSliceData_ ts ty args' >>= fun x => pure (Next.value x)) nx A' := by
  unfold bUnsafeSliceData at hf
  split at hf
  · cases hf
    obtain ⟨x', rfl, hx⟩ := args1 ha
    rw [hx.nils_inv]
    exact goal_here h .nilp rfl
  · rename_i a l c
    split at hf
    · cases hf
    · rename_i hc
      cases hf
      obtain ⟨x', rfl, hx⟩ := args1 ha
      obtain ⟨a', k', p, rfl, hp, hsp, q1, q2, q3, q4, q5, q6⟩ := hx.slc_inv
      have hk : ¬ k' = 0 := by
        intro e0
        cases hop : p.opn with
        | true => have := (q5 hop).1; omega
        | false => have := q4 hop; omega
      have haddr : a' = ⟨p.blk, p.off + a.off, none⟩ := by
        have hoff := q3.resolve_left hk
        obtain ⟨ab, ao, as⟩ := a'
        simp only [] at q1 q2 hoff
        subst q1; subst q2; subst hoff
        rfl
      subst haddr
      refine goal_here h (.ptr a p hp hsp) ?_
      show ((if k' ≠ 0 then pure (Value.pointer (some ⟨p.blk, p.off + a.off, none⟩)) else _ : Sem Value)).run P w = _
      rw [if_pos hk]; rfl
  · cases hf
end
end Go.AM

namespace Go.AM
section
variable {E : Env} {P : Program} {nm : Nm} {K : Kp} {base : World} {φ : Emb} {A A' : St} {w : World} {ρ ρ' : Operand → Value} {nx : Nx}

theorem EntR.eraseIdx {es ces : List MapEntry} (h : EntR nm φ es ces) (i : Nat) : EntR nm φ (es.eraseIdx i) (ces.eraseIdx i) := by
  refine ⟨by rw [List.length_eraseIdx, List.length_eraseIdx, h.1], fun j e c h1 h2 => ?_⟩
  rw [List.getElem?_eraseIdx] at h1 h2
  split at h1
  · rename_i hj; rw [if_pos hj] at h2; exact h.2 _ _ _ h1 h2
  · rename_i hj; rw [if_neg hj] at h2; exact h.2 _ _ _ h1 h2

theorem putO_id {b : Nat} {o : Obj} (hb : w.heap[b]? = some o) : putO w b o = w := by
  have hlt : b < w.heap.size := (Array.getElem?_eq_some_iff.1 hb).1
  unfold putO
  have : w.heap.setIfInBounds b o = w.heap := by
    apply Array.ext_getElem?
    intro j
    rw [Array.getElem?_setIfInBounds]
    split
    · rename_i e; subst e; first | exact hb.symm | (simp only [hlt, if_true]; exact hb.symm)
    · rfl
  rw [this]

theorem bDelete_ok (ok : EnvOk E P nm) (h : WR nm K base φ A w) {ts : List TypeId} {args : List Value} {args' : Array Value} {ty : TypeId} (ha : LR nm φ args args'.toList)
    (hf : bDelete E A ts args = some (nx, A')) : Goal P nm K base φ A w (Builtin.delete_ ts.toArray ty args' >>= fun x => pure (Next.value x)) nx A' := by
  unfold bDelete at hf
  split at hf
  · rename_i kt et r k hu
    obtain ⟨t, l, rfl, hu⟩ := und0_some hu
    split at hf
    · rename_i kd es c hkd hes
      split at hf
      · rename_i hkk
        obtain ⟨m', k', rfl, hm, hk⟩ := args2 ha
        have hkx := hk.plainV_eq (keyOk_plain hkk)
        obtain ⟨p, hp, rfl⟩ := hm.map_inv
        obtain ⟨ces, hc, hent⟩ := map_at h hes hp
        have hgo := run_getObj (P := P) hc (by simp)
        have hlt := h.lt _ _ hp
        split at hf
        · rename_i i v hfe
          cases hf
          obtain ⟨r', g1, g2⟩ := findE_ok hkk es ces.toList 0 _ hent hfe
          obtain ⟨v', e1, e2, e3, e0, e4, e5, e6⟩ := g2
          subst e1
          have hfk := run_findKey (w := w) ok hkd g1
          refine goal_val (A' := A.setObj r (.map (es.eraseIdx i) c)) (w' := putO w p.blk (.map (ces.eraseIdxIfInBounds i) c)) (Emb.ext_refl _ _) (Nat.le_refl _) ?_ (.of_plainV rfl) ?_
          · refine h.setObj (o := .map es c) (o' := .map (es.eraseIdx i) c) hes rfl rfl (by simp) (by simp) rfl hp ⟨_, putO_same w _ hlt, ?_⟩
            rw [Array.toList_eraseIdxIfInBounds]
            exact hent.eraseIdx i
          · simp [Builtin.delete_, ok.run_und hu w, hgo, hkx, run_checkKey' ok hkd hkk, hfk, run_setObj hc (by simp)]
        · rename_i hfe
          cases hf
          obtain ⟨r', g1, g2⟩ := findE_ok hkk es ces.toList 0 _ hent hfe
          simp only [] at g2
          subst g2
          have hfk := run_findKey (w := w) ok hkd g1
          refine goal_here h (.of_plainV rfl) ?_
          simp [Builtin.delete_, ok.run_und hu w, hgo, hkx, run_checkKey' ok hkd hkk, hfk, run_setObj hc (by simp), putO_id hc]
        · cases hf
      · cases hf
    · cases hf
  · cases hf

theorem bClear_ok (ok : EnvOk E P nm) (h : WR nm K base φ A w) {ts : List TypeId} {args : List Value} {args' : Array Value} {ty : TypeId} (ha : LR nm φ args args'.toList)
    (hf : bClear E A ts args = some (nx, A')) : Goal P nm K base φ A w (Builtin.clear_ ts.toArray ty args' >>= fun x => pure (Next.value x)) nx A' := by
  unfold bClear at hf
  split at hf
  · rename_i e a n c hu
    obtain ⟨t, l, rfl, hu⟩ := und0_some hu
    split at hf
    · rename_i z hz
      obtain ⟨x', rfl, hx⟩ := args1 ha
      obtain ⟨a', k', p, rfl, hp, hsp, q1, q2, q3, q4, q5, q6⟩ := hx.slc_inv
      split at hf
      · rename_i h0
        cases hf
        subst h0
        refine goal_here h (.of_plainV rfl) ?_
        simp [Builtin.clear_, ok.run_und hu w]
      · rename_i h0
        split at hf
        · rename_i A1 hst
          cases hf
          obtain ⟨w', r1, r2, r3⟩ := h.store (P := P) hst (zeros_rel (zero_cells hz φ) n) hp
          have hk : ¬ k' = 0 := by
            intro e0
            cases hop : p.opn with
            | true => have := (q5 hop).1; omega
            | false => have := q4 hop; omega
          have haddr : a' = ⟨p.blk, p.off + a.off, none⟩ := by
            have hoff := q3.resolve_left hk
            obtain ⟨ab, ao, as⟩ := a'
            simp only [] at q1 q2 hoff
            subst q1; subst q2; subst hoff
            rfl
          subst haddr
          have hzc : Builtin.zeroCells z.cells n = (zeros z.cells.toList n).toArray := zeros_eq z.cells n z.cells.size rfl
          refine goal_val (Emb.ext_refl _ _) (by rw [r3]; exact Nat.le_refl _) r2 (.of_plainV rfl) ?_
          cases n with
          | zero => exact absurd rfl h0
          | succ n => simp [Builtin.clear_, ok.run_und hu w, ok.run_zero hz w, hzc, r1]
        · cases hf
    · cases hf
  · rename_i hu
    obtain ⟨t, l, rfl, hu⟩ := und0_some hu
    cases hf
    obtain ⟨x', rfl, hx⟩ := args1 ha
    rw [hx.nils_inv]
    refine goal_here h (.of_plainV rfl) ?_
    simp [Builtin.clear_, ok.run_und hu w]
  · cases hf

theorem freeze_putO {b off n : Nat} {cs : Array Value} {e : TypeId} {fz : Nat × Nat} (hb : w.heap[b]? = some (.cells cs e fz)) (hn : n ≠ 0) :
    w.freeze ⟨b, off, none⟩ n = putO w b (.cells cs e (if fz.1 == fz.2 then (off, off + n) else (min fz.1 off, max fz.2 (off + n)))) := by
  unfold World.freeze putO
  rw [if_neg hn]
  congr 1
  apply Array.ext_getElem?
  intro j
  rw [Array.getElem?_modify, Array.getElem?_setIfInBounds]
  have hlt : b < w.heap.size := (Array.getElem?_eq_some_iff.1 hb).1
  split
  · rename_i e; subst e
    obtain ⟨f1, f2⟩ := fz
    simp only [hb, Option.map]
  · rfl

theorem unsafeString_eq (t : TypeId) (l : List TypeId) (ty : TypeId) (a : Addr) (k : IntKind) (n : Int) : Builtin.unsafeString_ (t :: l).toArray ty #[.pointer (some a), .int k n] = (do
    if n < 0 then runtimePanic (.error "unsafe.String: len out of range")
    if n > IntKind.i64.max then unsupported (.unsafePointer "String: a length above the largest int")
    if n = 0 then pure (.string .empty)
    else if ← variablesAt a (← elemOf t) n.toNat then do
      let s ← loadBytes a .empty n.toNat
      freeze a n.toNat
      pure (.string s)
    else unsupported (.unsafePointer "String: not so many bytes at ptr")) := rfl

theorem bUnsafeString_ok (ok : EnvOk E P nm) (h : WR nm K base φ A w) {ts : List TypeId} {args : List Value} {args' : Array Value} {ty : TypeId} (ha : LR nm φ args args'.toList)
    (hts : ts ≠ []) (hf : bUnsafeString E A ts args = some (nx, A')) : Goal P nm K base φ A w (Builtin.unsafeString_ ts.toArray ty args' >>= fun x => pure (Next.value x)) nx A' := by
  have i63 : IntKind.i64.max = 9223372036854775807 := rfl
  obtain ⟨t, l, rfl⟩ : ∃ t l, ts = t :: l := by
    cases ts with
    | nil => exact absurd rfl hts
    | cons t l => exact ⟨t, l, rfl⟩
  unfold bUnsafeString at hf
  split at hf
  · rename_i k n
    split at hf
    · rename_i h0
      cases hf
      obtain ⟨p', n', rfl, hp, hn⟩ := args2 ha
      rw [hn.int_inv]
      cases hp
      refine goal_here h (.of_plainV rfl) ?_
      subst h0
      rfl
    · cases hf
  · rename_i a k n
    obtain ⟨p', n', rfl, hp, hn⟩ := args2 ha
    rw [hn.int_inv]
    obtain ⟨p, hpa, hsp, rfl⟩ := hp.ptr_inv
    split at hf
    · rename_i h0
      cases hf
      refine goal_here h (.of_plainV rfl) ?_
      subst h0
      rfl
    · rename_i h0
      split at hf
      · cases hf
      · rename_i hneg
        split at hf
        · rename_i r hr hs
          split at hf
          · rename_i hc
            unfold strOk at hc
            simp only [Bool.and_eq_true, Bool.not_eq_true'] at hc
            obtain ⟨⟨⟨hown, hsb⟩, hsize⟩, hlay⟩ := hc
            split at hf
            · rename_i bs hby
              cases hf
              have hb := row?_some hr
              obtain ⟨m, rfl⟩ := Int.eq_ofNat_of_zero_le (show 0 ≤ n by omega)
              have hm0 : 0 < m := by omega
              simp only [Int.toNat_natCast] at *
              obtain ⟨q, hq, ⟨cs, fz, ho⟩, hK⟩ := h.obj a.block _ hb rfl
              rw [hpa] at hq; cases hq
              have hlen : a.off + m ≤ r.size := by
                unfold bytesL at hby
                simp only [] at hby
                split at hby
                · rename_i vs hl
                  unfold St.loadN at hl
                  rw [hs, hr] at hl
                  simp only [] at hl
                  split at hl
                  · assumption
                  · cases hl
                · cases hby
              have hgoto : ∀ (x' : Value), x' = .slice (some ⟨p.blk, p.off + a.off, none⟩) m m → ∃ ns : List Int, bs = ns.map (fun n : Int => UInt8.ofNat n.toNat) ∧ ns.length = m ∧
                  (∀ j v, (ns.map (Value.int .u8))[j]? = some v → w.cell? ((⟨p.blk, p.off + a.off, none⟩ : Addr).add j) = some v) := by
                intro x' hx'
                unfold bytesL at hby
                simp only [] at hby
                split at hby
                · rename_i vs hl
                  obtain ⟨ns, e1, e2⟩ := bytes_foldr vs bs hby
                  obtain ⟨cvs, hrd⟩ := h.load hl hpa
                  subst e1
                  have := ints_eq ns .u8 cvs hrd.rel
                  subst this
                  exact ⟨ns, e2, by simpa using hrd.len, hrd.cell⟩
                · cases hby
              obtain ⟨ns, rfl, hnl, hcell⟩ := hgoto _ rfl
              split at hsize
              case h_2 => cases hsize
              rename_i k1 hk1
              have hk1' : k1 = 1 := Nat.eq_of_beq_eq_true hsize
              subst hk1'
              split at hlay
              case h_2 => cases hlay
              rename_i u hu
              obtain ⟨t', l', e', hu⟩ := und0_some hu
              cases e'
              have hcells : P.cellsOf r.elem = 1 := by
                obtain ⟨i, hi, hi2⟩ := size_inf hk1
                simp [Program.cellsOf, ok.inf _ _ hi, hi2]
              obtain ⟨h1, away⟩ := h.alone hb hown
              have hlies : liesAt P P.depth r.elem (cs.size / P.cellsOf r.elem) (p.off + a.off) u m = true := by
                rw [hcells, Nat.div_one]
                rw [ok.prog] at hlay
                have hfit : p.off + a.off + m ≤ cs.size := by have := ho.fit; omega
                have hrow : ∀ d, rowAt P (sameLayout P P.depth · u) (d + 1) r.elem cs.size (p.off + a.off) m = true := by
                  intro d
                  simp [rowAt, hcells, Nat.mod_one, hfit, hlay]
                have h2 : rowAt P (sameLayout P P.depth · u) P.depth r.elem cs.size (p.off + a.off) m = true := hrow (2 * (P.types.size + Made.depth) + 1)
                have h3 : ∀ d, liesAt P (d + 1) r.elem cs.size (p.off + a.off) u m = true := by
                  intro d
                  simp [liesAt, h2]
                exact h3 (2 * (P.types.size + Made.depth) + 1)
              have hvar : (variablesAt ⟨p.blk, p.off + a.off, none⟩ u m).run P w = .ok true w := by
                have hsh : w.shape? p.blk = some (r.elem, cs.size) := by simp [World.shape?, ho.blk]
                simp [variablesAt, hsh, hlies]
              have hel : (elemOf t).run P w = .ok u w := by
                simp [elemOf, ok.run_und hu w]
              have hld := lay_loadBytes (P := P) ns ⟨p.blk, p.off + a.off, none⟩ .empty hcell
              rw [hnl, push_data] at hld
              have hstr : (⟨ByteArray.empty.data ++ (ns.map fun n => UInt8.ofNat n.toNat).toArray⟩ : ByteArray) = ⟨(ns.map fun n => UInt8.ofNat n.toNat).toArray⟩ := by simp
              rw [hstr] at hld
              refine goal_val (w' := w.freeze ⟨p.blk, p.off + a.off, none⟩ m) (Emb.ext_refl _ _) ?_ ?_ (.str _) ?_
              · show A.next ≤ (A.alone a.block r).next
                rw [alone_next]; exact Nat.le_refl _
              · rw [freeze_putO ho.blk (by omega)]
                refine h1.setRow (alone_row _ _ hb) hown hpa (fun x u q hx hu lu ou hq => away x u q p hx hu lu ou hq hpa) hown rfl ?_
                have hlt := h.lt _ _ hpa
                refine ⟨cs, _, { blk := putO_same w _ hlt, csz := ho.csz, opn := ho.opn, esz := ho.esz, fit := ho.fit, cell := ho.cell, frz := ?_, sb := ?_, exact := ho.exact }⟩
                · intro _ j g1 g2 g3
                  show j < p.off + max r.frz (a.off + m)
                  have hmax1 := Nat.le_max_left r.frz (a.off + m)
                  have hmax2 := Nat.le_max_right r.frz (a.off + m)
                  rcases ho.sb hown hsb with e | ⟨e1, e2⟩
                  · rw [e] at g2
                    simp at g2
                    omega
                  · have hne : (fz.1 == fz.2) = false := by simp; omega
                    rw [hne] at g1 g2
                    simp only [Bool.false_eq_true, if_false] at g1 g2
                    have hlo := ho.frz hown fz.1 (Nat.le_refl _) e1 (by omega)
                    by_cases c1 : fz.1 ≤ j ∧ j < fz.2
                    · have := ho.frz hown j c1.1 c1.2 g3; omega
                    · rcases Nat.lt_or_ge j (p.off + a.off + m) with g | g
                      · omega
                      · have : j < fz.2 := by
                          rcases Nat.lt_or_ge j fz.2 with g' | g'
                          · exact g'
                          · have := Nat.max_le.2 ⟨g', g⟩; omega
                        omega
                · intro _ _
                  right
                  have := ho.fit
                  rcases ho.sb hown hsb with e | ⟨e1, e2⟩
                  · rw [e]; simp; omega
                  · have hne : (fz.1 == fz.2) = false := by simp; omega
                    rw [hne]
                    simp only [Bool.false_eq_true, if_false]
                    omega
              · have hfr : (freeze ⟨p.blk, p.off + a.off, none⟩ m).run P w = .ok () (w.freeze ⟨p.blk, p.off + a.off, none⟩ m) := rfl
                have n1 : ¬ ((m : Int) < 0) := by omega
                have hb48 : ¬ ((m : Int) > IntKind.i64.max) := by omega
                rw [unsafeString_eq]
                rw [if_neg n1, if_neg hb48, if_neg h0]
                simp only [Sem.run_bind, hel, hvar, Result.andThen_ok, if_true, Int.toNat_natCast, hld, hfr, Sem.run_pure]
            · cases hf
          · cases hf
        · cases hf
  · cases hf
end
end Go.AM
