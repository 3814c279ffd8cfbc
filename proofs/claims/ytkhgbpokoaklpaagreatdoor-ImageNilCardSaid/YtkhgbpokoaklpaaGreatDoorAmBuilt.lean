/- Built-in functions, and the model's stand-ins. -/
import Derived.Test.YtkhgbpokoaklpaaGreatDoorAmApp3
import Derived.Lib.Bytealg
import Derived.Laws.BytesString
namespace Go.AM
section
variable {E : Env} {P : Program} {nm : Nm} {K : Kp} {base : World} {φ : Emb} {A A' : St} {w : World} {ρ ρ' : Operand → Value} {nx : Nx}

theorem args1 {a : Value} {args' : Array Value} (h : LR nm φ [a] args'.toList) : ∃ a', args' = #[a'] ∧ VR nm φ a a' := by
  obtain ⟨a', l, e, h1, h2⟩ := h.cons_inv
  have := h2.nil_inv
  subst this
  exact ⟨a', Array.ext' e, h1⟩
theorem args2 {a b : Value} {args' : Array Value} (h : LR nm φ [a, b] args'.toList) : ∃ a' b', args' = #[a', b'] ∧ VR nm φ a a' ∧ VR nm φ b b' := by
  obtain ⟨a', l, e, h1, h2⟩ := h.cons_inv
  obtain ⟨b', l2, rfl, h3, h4⟩ := h2.cons_inv
  have := h4.nil_inv
  subst this
  exact ⟨a', b', Array.ext' e, h1, h3⟩

/-- Bytes in memory. -/
theorem bytes_foldr : ∀ (vs : List Value) (l : List UInt8), vs.foldr (fun v acc => match v, acc with | .int .u8 b, some l => some (UInt8.ofNat b.toNat :: l) | _, _ => none) (some []) = some l →
    ∃ ns : List Int, vs = ns.map (Value.int .u8) ∧ l = ns.map fun n => UInt8.ofNat n.toNat := by
  intro vs
  induction vs with
  | nil => intro l h; simp at h; subst h; exact ⟨[], rfl, rfl⟩
  | cons v vs ih =>
    intro l h
    simp only [List.foldr_cons] at h
    split at h
    · rename_i b l' hl
      cases h
      obtain ⟨ns, e1, e2⟩ := ih _ hl
      exact ⟨b :: ns, by simp [e1], by simp [e2]⟩
    · cases h

theorem ints_eq : ∀ (ns : List Int) (k : IntKind) (cvs : List Value), LR nm φ (ns.map (Value.int k)) cvs → cvs = ns.map (Value.int k)
  | [], k, cvs, h => h.nil_inv
  | n :: ns, k, cvs, h => by
    obtain ⟨v', m, rfl, h1, h2⟩ := LR.cons_inv (v := .int k n) (l := ns.map (Value.int k)) h
    rw [h1.int_inv, ints_eq ns k m h2]; rfl

theorem push_data : ∀ (ns : List Int) (s : ByteArray), ns.foldl (fun r n => r.push (UInt8.ofNat n.toNat)) s = ⟨s.data ++ (ns.map fun n => UInt8.ofNat n.toNat).toArray⟩
  | [], s => by simp
  | n :: ns, s => by
    simp only [List.foldl_cons, List.map_cons]
    rw [push_data ns]
    have : (s.push (UInt8.ofNat n.toNat)).data = s.data.push (UInt8.ofNat n.toNat) := rfl
    rw [this]
    congr 1
    apply Array.ext'
    simp

theorem mk_data (s : ByteArray) : (⟨s.data.toList.toArray⟩ : ByteArray) = s := by cases s; simp

theorem ext_loadBytes {w : World} : ∀ (ns : List Int) (a : Addr) (acc : ByteArray), (∀ j v, (ns.map (Value.int .u8))[j]? = some v → w.cell? (a.add j) = some v) →
    (Extern.Bytes.loadBytes a ns.length acc).run P w = .ok (ns.foldl (fun r n => r.push (UInt8.ofNat n.toNat)) acc) w := by
  intro ns
  induction ns with
  | nil => intro a acc _; rfl
  | cons n ns ih =>
    intro a acc h
    have h0 := h 0 (.int .u8 n) (by simp)
    have hz : a.add 0 = a := rfl
    rw [hz] at h0
    simp only [List.length_cons, Extern.Bytes.loadBytes, Sem.run_bind, run_load, h0, Result.andThen_ok, List.foldl_cons]
    exact ih (a.add 1) _ fun j v hj => by
      have := h (j + 1) v (by simpa using hj)
      have e : (a.add 1).add j = a.add (j + 1) := by
        unfold Addr.add
        by_cases g : j = 0
        · subst g; simp
        · simp [g, Nat.add_assoc, Nat.add_comm 1 j]
      rw [e]; exact this

theorem lay_loadBytes {w : World} : ∀ (ns : List Int) (a : Addr) (acc : ByteArray), (∀ j v, (ns.map (Value.int .u8))[j]? = some v → w.cell? (a.add j) = some v) →
    (Go.loadBytes a acc ns.length).run P w = .ok (ns.foldl (fun r n => r.push (UInt8.ofNat n.toNat)) acc) w := by
  intro ns
  induction ns with
  | nil => intro a acc _; rfl
  | cons n ns ih =>
    intro a acc h
    have h0 := h 0 (.int .u8 n) (by simp)
    have hz : a.add 0 = a := rfl
    rw [hz] at h0
    simp only [List.length_cons, Go.loadBytes, Sem.run_bind, run_load, h0, Result.andThen_ok, List.foldl_cons]
    exact ih (a.add 1) _ fun j v hj => by
      have := h (j + 1) v (by simpa using hj)
      have e : (a.add 1).add j = a.add (j + 1) := by
        unfold Addr.add
        by_cases g : j = 0
        · subst g; simp
        · simp [g, Nat.add_assoc, Nat.add_comm 1 j]
      rw [e]; exact this

/-- What a text, or bytes in memory, are in the model. -/
theorem bytesL_cases (h : WR nm K base φ A w) {x x' : Value} {l : List UInt8} (hf : bytesL A x = some l) (hx : VR nm φ x x') :
    (∃ s : ByteArray, x = .string s ∧ x' = .string s ∧ l = s.data.toList) ∨ (∃ m c, x = .slice none m c ∧ x' = .slice none m c ∧ l = []) ∨
    (∃ (a a' : Addr) (n c c' : Nat) (ns : List Int), x = .slice (some a) n c ∧ x' = .slice (some a') n c' ∧ l = ns.map (fun n : Int => UInt8.ofNat n.toNat) ∧ ns.length = n ∧
      (∀ j v, (ns.map (Value.int .u8))[j]? = some v → w.cell? (a'.add j) = some v)) := by
  unfold bytesL at hf
  split at hf
  · rename_i s
    cases hf
    exact .inl ⟨s, rfl, hx.str_inv, rfl⟩
  · rename_i m c
    cases hf
    exact .inr (.inl ⟨m, c, rfl, hx.nils_inv, rfl⟩)
  · rename_i a n c
    split at hf
    · rename_i vs hv
      obtain ⟨ns, e1, e2⟩ := bytes_foldr vs l hf
      refine .inr (.inr ?_)
      rcases Nat.eq_zero_or_pos n with h0 | h0
      · subst h0
        obtain ⟨a', k', p, rfl, _⟩ := hx.slc_inv
        have hl : vs = [] := by
          unfold St.loadN at hv
          split at hv
          · cases hv
          split at hv
          · split at hv
            · exact List.eq_nil_of_length_eq_zero (T.range_some _ _ _ _ hv).1
            · cases hv
          · cases hv
        have hns : ns = [] := by
          rw [hl] at e1
          cases ns with
          | nil => rfl
          | cons n ns => simp at e1
        subst hns
        exact ⟨a, a', 0, c, k', [], rfl, rfl, e2, rfl, fun j v hj => by simp at hj⟩
      · obtain ⟨k', p, rfl, hp, hsp, _⟩ := slc_place hx h0
        obtain ⟨cvs, hr⟩ := h.load hv hp
        subst e1
        have := ints_eq ns .u8 cvs hr.rel
        subst this
        exact ⟨a, _, n, c, k', ns, rfl, rfl, e2, by simpa using hr.len, hr.cell⟩
    · cases hf
  · cases hf

theorem bytesOf_ok (h : WR nm K base φ A w) {x x' : Value} {l : List UInt8} (hf : bytesL A x = some l) (hx : VR nm φ x x') : (Extern.Bytes.bytesOf x').run P w = .ok ⟨l.toArray⟩ w := by
  rcases bytesL_cases h hf hx with ⟨s, _, rfl, rfl⟩ | ⟨m, c, _, rfl, rfl⟩ | ⟨a, a', n, c, c', ns, _, rfl, rfl, hl, hc⟩
  · rw [mk_data]; rfl
  · rfl
  · subst hl
    simp only [Extern.Bytes.bytesOf]
    rw [ext_loadBytes ns a' .empty hc, push_data]
    simp

theorem toString_ok (h : WR nm K base φ A w) {x x' : Value} {l : List UInt8} (hf : bytesL A x = some l) (hx : VR nm φ x x') (hns : ∀ s, x ≠ .string s) : (Conv.bytesToString x').run P w = .ok (mkStr l) w := by
  rcases bytesL_cases h hf hx with ⟨s, rfl, _, _⟩ | ⟨m, c, _, rfl, rfl⟩ | ⟨a, a', n, c, c', ns, _, rfl, rfl, hl, hc⟩
  · exact absurd rfl (hns s)
  · rfl
  · subst hl
    have hld : (loadCells a' ns.length).run P w = .ok (ns.map (Value.int .u8)).toArray w := by
      have := run_loadCells_list (P := P) w a' (ns.map (Value.int .u8)) hc
      simpa using this
    rw [run_bytesToString w a' ns.length c' ns hld, push_data]
    simp [mkStr]

theorem run_indexByte_any {x' : Value} {c : Int} {s : ByteArray} (h : (Extern.Bytes.bytesOf x').run P w = .ok s w) :
    (Extern.BytealgIndexByte.indexByte #[x', .int .u8 c]).run P w = (Extern.BytealgIndexByte.indexByte #[.string s, .int .u8 c]).run P w := by
  change Sem.run P (Extern.Bytes.bytesOf x' >>= fun b => Extern.Bytes.asByte (.int .u8 c) >>= fun c => match (List.range b.size).find? fun i => b[i]! == c with
    | some i => pure (goInt i)
    | none => pure (goInt (-1))) w = Sem.run P (Extern.Bytes.bytesOf (.string s) >>= fun b => Extern.Bytes.asByte (.int .u8 c) >>= fun c => match (List.range b.size).find? fun i => b[i]! == c with
    | some i => pure (goInt i)
    | none => pure (goInt (-1))) w
  have h2 : (Extern.Bytes.bytesOf (.string s)).run P w = .ok s w := rfl
  simp only [Sem.run_bind, h, h2, Result.andThen_ok]

theorem byteIdx_eq (l : List UInt8) (c : UInt8) : (match l.findIdx? (· == c) with | some i => (i : Int) | none => -1) = Lib.indexByte l c := by
  induction l with
  | nil => rfl
  | cons b l ih =>
    rw [List.findIdx?_cons]
    unfold Lib.indexByte
    by_cases e : b == c
    · simp [e]
    · simp only [e, Bool.false_eq_true, if_false, ← ih]
      cases hq : l.findIdx? (· == c) with
      | none => simp
      | some i =>
        have : ¬ ((i : Int) == -1) = true := by simp
        simp [this]

/-- The stand-ins. -/
theorem extern_ok (h : WR nm K base φ A w) {name : String} {args : List Value} {args' : Array Value} {v : Value} (ha : LR nm φ args args'.toList)
    (hf : externOp A name args = some (v, A')) : (name = "internal/bytealg.IndexByteString" ∨ name = "internal/bytealg.IndexByte" ∨ name = "internal/abi.NoEscape" ∨ name = "internal/bytealg.abigen_runtime_cmpstring" ∨ name = "internal/bytealg.CountString") ∧
      A' = A ∧ ∃ v', VR nm φ v v' ∧ (rowOf name args').run P w = .ok v' w := by
  unfold externOp at hf
  split at hf
  · rename_i hn
    split at hf
    · rename_i b c
      split at hf
      · rename_i l hl
        cases hf
        obtain ⟨b', c', rfl, hb, hc⟩ := args2 ha
        have := hc.int_inv
        subst this
        have hby := bytesOf_ok (P := P) h hl hb
        refine ⟨hn.elim .inl (fun g => .inr (.inl g)), rfl, _, .of_plainV rfl, ?_⟩
        have hrow : rowOf name = Extern.BytealgIndexByte.indexByte := by unfold rowOf; rw [if_pos hn]
        rw [hrow]
        have hs := Lib.run_indexByteString (P := P) ⟨l.toArray⟩ c w
        rw [run_indexByte_any hby, hs]
        exact congrArg (fun z => Result.ok (Value.int .i64 z) w) (byteIdx_eq l c.toNat.toUInt8).symm
      · cases hf
    · cases hf
  · rename_i hn
    split at hf
    · rename_i hn2
      split at hf
      · cases hf
        obtain ⟨b', rfl, hb⟩ := args1 ha
        refine ⟨.inr (.inr (.inl hn2)), rfl, _, hb, ?_⟩
        have hrow : rowOf name = Extern.AbiNoEscape.same := by unfold rowOf; rw [if_neg hn, if_pos hn2]
        rw [hrow]; rfl
      · cases hf
    · rename_i hn2
      split at hf
      · rename_i hn3
        split at hf
        · rename_i a b
          cases hf
          obtain ⟨a', b', rfl, ha', hb'⟩ := args2 ha
          have e1 := ha'.str_inv
          have e2 := hb'.str_inv
          subst e1; subst e2
          refine ⟨.inr (.inr (.inr (.inl hn3))), rfl, _, .of_plainV rfl, ?_⟩
          have hrow : rowOf name = Extern.BytealgCompare.compare := by unfold rowOf; rw [if_neg hn, if_neg hn2, if_pos hn3]
          rw [hrow]; rfl
        · cases hf
      · rename_i hn3
        split at hf
        · rename_i hn4
          split at hf
          · rename_i a c
            cases hf
            obtain ⟨a', b', rfl, ha', hb'⟩ := args2 ha
            have e1 := ha'.str_inv
            have e2 := hb'.int_inv
            subst e1; subst e2
            refine ⟨.inr (.inr (.inr (.inr hn4))), rfl, _, .of_plainV rfl, ?_⟩
            have hrow : rowOf name = Extern.BytealgCount.count := by unfold rowOf; rw [if_neg hn, if_neg hn2, if_neg hn3]
            rw [hrow, Lib.run_countString]
            simp only [goInt, Lib.countByte, List.count, List.countP_eq_length_filter]
          · cases hf
        · cases hf
end
end Go.AM
