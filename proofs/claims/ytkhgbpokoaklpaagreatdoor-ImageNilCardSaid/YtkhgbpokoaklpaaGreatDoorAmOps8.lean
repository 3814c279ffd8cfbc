/- Conversions, and what a type is asked for. -/
import Derived.Test.YtkhgbpokoaklpaaGreatDoorAmCall
namespace Go.AM
section
variable {E : Env} {P : Program} {nm : Nm} {K : Kp} {base : World} {φ : Emb} {A A' : St} {w : World} {ρ ρ' : Operand → Value} {nx : Nx}

theorem VR.nili_inv {c : Value} (h : VR nm φ .nilIface c) : c = .nilIface := by cases h; rfl
theorem VR.nilp_inv {c : Value} (h : VR nm φ (.pointer none) c) : c = .pointer none := by cases h; rfl

theorem tup2 {a a' : Value} (h : VR nm φ a a') (b : Bool) : VR nm φ (.tuple #[a, .bool b]) (.tuple #[a', .bool b]) := .tuple' (.cons h (.cons (.bool b) .nil))

theorem xTypeAssert_ok (ok : EnvOk E P nm) (h : WR nm K base φ A w) (x : Operand) (xt t : TypeId) (cok : Bool) (hv : VR nm φ (ρ x) (ρ' x)) (hf : xTypeAssert E A ρ x t cok = some (nx, A')) :
    Goal P nm K base φ A w (Instr.typeAssert (ρ' x) xt t cok >>= fun y => pure (Next.value y)) nx A' := by
  unfold xTypeAssert at hf
  revert hv hf
  generalize ρ' x = c
  generalize ρ x = v
  intro hv hf
  split at hf
  · rename_i z hu hz
    split at hf
    · cases hf
      rw [hv.nili_inv]
      refine goal_here h (tup2 (.of_plainV (zero_plain hz)) false) ?_
      simp_all [Instr.typeAssert, ok.run_und hu w, ok.run_zero hz w]
    · cases hf
  · rename_i want ty v z hu hz
    obtain ⟨v', rfl, hv'⟩ := hv.iface_inv
    split at hf
    · rename_i i hi
      split at hf
      · rename_i hm
        cases hf
        cases cok with
        | true => exact goal_here h (tup2 (.iface _ _ _ hv') true) (by simp [Instr.typeAssert, ok.run_und hu w, ok.run_inf hi w, hm])
        | false => exact goal_here h (.iface _ _ _ hv') (by simp [Instr.typeAssert, ok.run_und hu w, ok.run_inf hi w, hm])
      · rename_i m hm
        split at hf
        · cases hf
          refine goal_here h (tup2 (.of_plainV (zero_plain hz)) false) ?_
          simp_all [Instr.typeAssert, ok.run_und hu w, ok.run_inf hi w, ok.run_zero hz w]
        · cases hf
    · cases hf
  · rename_i d z hni hu hz
    split at hf
    · cases hf
      rw [hv.nili_inv]
      refine goal_here h (tup2 (.of_plainV (zero_plain hz)) false) ?_
      cases d <;> first | exact absurd rfl (hni _) | simp_all [Instr.typeAssert, ok.run_und hu w, ok.run_zero hz w]
    · cases hf
  · rename_i d ty v z hni hu hz
    obtain ⟨v', rfl, hv'⟩ := hv.iface_inv
    split at hf
    · rename_i e
      subst e
      cases hf
      cases cok with
      | true =>
        refine goal_here h (tup2 hv' true) ?_
        cases d <;> first | exact absurd rfl (hni _) | simp [Instr.typeAssert, ok.run_und hu w]
      | false =>
        refine goal_here h hv' ?_
        cases d <;> first | exact absurd rfl (hni _) | simp [Instr.typeAssert, ok.run_und hu w]
    · rename_i e
      split at hf
      · cases hf
        refine goal_here h (tup2 (.of_plainV (zero_plain hz)) false) ?_
        cases d <;> first | exact absurd rfl (hni _) | simp_all [Instr.typeAssert, ok.run_und hu w, ok.run_zero hz w]
      · cases hf
  · cases hf

theorem run_appendCap {n o : Nat} {e : TypeId} : (choose (.appendCap n o e)).run P w = .ok (grownCap w n o e) w.drew := run_choose _ _ _ |>.trans rfl

theorem putO_push (o o' : Obj) : putO (w.alloc o) w.heap.size o' = w.alloc o' := by
  unfold putO World.alloc
  congr 1
  apply Array.ext_getElem?
  intro j
  rw [Array.getElem?_setIfInBounds]
  by_cases e : w.heap.size = j
  · subst e; simp
  · rw [if_neg e, Array.getElem?_push, Array.getElem?_push]
    simp [Ne.symm e]

/-- A text's bytes, or its runes, in a new array. -/
theorem newOpen_ok (h : WR nm K base φ A w) {e : TypeId} {vs cvs : List Value} {pad : Array Value} {fz : Nat × Nat} {sb : Bool} {cap : Nat} (hv : LR nm φ vs cvs) (hcap : vs.length ≤ cap) (hpad : cvs.length + pad.size = cap)
    (hfz : ∀ j, fz.1 ≤ j → j < fz.2 → cap ≤ j) (hsb : sb = false → fz.1 = fz.2) {n : Nat} (hn : n = vs.length) :
    ∃ φ', Emb.ext A.next φ φ' ∧
      WR nm K base φ' { A with next := A.next + 1, h := A.h.set A.next (.row { own := true, size := n, cells := T.ofList vs, elem := e, esz := 1, opn := true, grp := A.next, frz := 0, sb }) } (w.drew.alloc (.cells (cvs.toArray ++ pad) e fz)) ∧
      VR nm φ' (.slice (some ⟨A.next, 0, none⟩) n n) (.slice (some ⟨w.heap.size, 0, none⟩) n cap) := by
  subst hn
  have hnx := h.dom A.next (Nat.le_refl _)
  have hlen := hv.length
  let p := plGrow w cap 1
  refine ⟨φ.upd A.next p, Emb.upd_ext _ _ _, ?_, ?_⟩
  · refine (h.drew (w.drawn + 1)).new A.next p _ _ (A.next + 1) hnx (Nat.le_succ _) (Nat.lt_succ_self _) rfl ?_ rfl
    refine ⟨cvs.toArray ++ pad, fz, { blk := ?_, csz := ?_, opn := rfl, esz := fun _ => rfl, fit := ?_, cell := ?_, frz := ?_, sb := ?_, exact := fun g => by cases g }⟩
    · simp [p, plGrow]
    · simp [p, plGrow, hpad]
    · simp [p, plGrow, hpad]; omega
    · intro i hi
      have hi' : i < vs.length := hi
      refine ⟨_, (T.get_ofList _ _).trans (List.getElem?_eq_getElem hi'), ?_⟩
      obtain ⟨v', e1, e2⟩ := (hv.mono (Emb.upd_le p hnx)).get? (List.getElem?_eq_getElem hi')
      have : (cvs.toArray ++ pad).getD (p.off + i) undef = v' := by
        simp only [p, plGrow, Nat.zero_add]
        rw [Array.getD_eq_getD_getElem?, Array.getElem?_append_left (by simp; omega)]
        simp [e1]
      rw [this]; exact e2
    · intro _ j g1 g2 g3
      have := hfz j g1 g2
      simp [hpad] at g3
      omega
    · intro _ g; exact .inl (hsb g)
  · refine .slc ⟨A.next, 0, none⟩ ⟨w.heap.size, 0, none⟩ _ _ cap p (Emb.upd_same _ _ _) rfl rfl rfl (.inr rfl) (fun g => by cases g) (fun _ => ⟨hcap, ?_⟩) (Nat.le_refl _)
    show 0 + cap * 1 ≤ cap
    omega

theorem run_newO (o : Obj) (w : World) : (newObj o).run P w = .ok w.heap.size (w.alloc o) := rfl

theorem run_mark {cs : Array Value} {e : TypeId} (w : World) : (markStringish ⟨w.heap.size, 0, none⟩).run P (w.alloc (.cells cs e)) = .ok () (w.alloc (.cells cs e (cs.size, cs.size + 1))) := by
  have hb : (w.alloc (.cells cs e)).heap[w.heap.size]? = some (.cells cs e (0, 0)) := by
    show (w.heap.push _)[w.heap.size]? = _
    simp
  have hsh : (w.alloc (.cells cs e)).shape? w.heap.size = some (e, cs.size) := by unfold World.shape?; rw [hb]
  unfold markStringish
  simp only [Sem.run_bind, run_shape, hsh, Result.andThen_ok, run_freeze]
  rw [freeze_putO hb (by omega), putO_push]
  simp

theorem run_stringToBytes {e : TypeId} {s : ByteArray} : (Conv.stringToBytes e s).run P w = .ok (.slice (some ⟨w.heap.size, 0, none⟩) s.size (grownCap w s.size 0 e))
    (w.drew.alloc (.cells ((s.data.toList.map fun c : UInt8 => Value.int .u8 c.toNat).toArray ++ Array.replicate (grownCap w s.size 0 e - s.size) (.int .u8 0)) e (grownCap w s.size 0 e, grownCap w s.size 0 e + 1))) := by
  have hge := grownCap_ge w s.size 0 e
  have hcells : (s.data.map fun b : UInt8 => Value.int .u8 b.toNat) = (s.data.toList.map fun c : UInt8 => Value.int .u8 c.toNat).toArray := by
    apply Array.ext'; simp
  have hsz : ((s.data.toList.map fun c : UInt8 => Value.int .u8 c.toNat).toArray ++ Array.replicate (grownCap w s.size 0 e - s.size) (Value.int .u8 0)).size = grownCap w s.size 0 e := by
    have : s.data.size = s.size := rfl
    simp; omega
  have hm := run_mark (P := P) (cs := (s.data.toList.map fun c : UInt8 => Value.int .u8 c.toNat).toArray ++ Array.replicate (grownCap w s.size 0 e - s.size) (Value.int .u8 0)) (e := e) w.drew
  rw [hsz] at hm
  unfold Conv.stringToBytes
  simp only [Sem.run_bind, run_appendCap, Result.andThen_ok, newRow, run_newO, Sem.run_pure, hcells, hm]
  rfl

theorem runes_ints (s : ByteArray) : ∀ (b i : Nat) (acc : Array Value), (∃ ns : List Int, acc.toList = ns.map (Value.int .i32)) → ∃ ns : List Int, (Conv.runesFrom s b i acc).toList = ns.map (Value.int .i32) := by
  intro b
  induction b with
  | zero => intro i acc h; exact h
  | succ b ih =>
    intro i acc h
    unfold Conv.runesFrom
    split
    · obtain ⟨ns, e⟩ := h
      exact ih _ _ ⟨ns ++ [Int.ofNat (Utf8.decode s i).1], by rw [Array.toList_push, e, List.map_append]; rfl⟩
    · exact h

theorem ints_rel (ns : List Int) (k : IntKind) : LR nm φ (ns.map (Value.int k)) (ns.map (Value.int k)) := LR.map _ fun n _ => .int k n

theorem xConvert_ok (ok : EnvOk E P nm) (h : WR nm K base φ A w) {o : Oper} (src dst : TypeId) (x : Operand) (ho : o.op = .convert src dst x) (hv : VR nm φ (ρ x) (ρ' x)) (hf : xConvert E A ρ o src dst x = some (nx, A')) :
    Goal P nm K base φ A w (execOp ρ' o) nx A' := by
  have hexec : execOp ρ' o = (convert src dst (ρ' x) >>= fun y => pure (Next.value y)) := by unfold execOp; simp only [ho]
  have hpure : ∀ {nx}, viaPure E A ρ o = some (nx, A') → Goal P nm K base φ A w (execOp ρ' o) nx A' := fun hh => viaPure_ok ok h o (fun y hy => by
    rw [ho] at hy; simp [Op.operands] at hy; subst hy; exact hv) hh
  unfold xConvert at hf
  split at hf
  · rename_i e hs hd
    rw [hexec]
    split at hf
    · rename_i he
      split at hf
      · rename_i l hl
        cases hf
        rcases bytesL_cases h hl hv with ⟨s, g1, g2, rfl⟩ | ⟨m, c, g1, g2, rfl⟩ | ⟨a, a', n, c, c', ns, g1, g2, g3, g4, g5⟩
        · rw [g2]
          refine goal_here h (.str s) ?_
          have : mkStr s.data.toList = .string s := by unfold mkStr; rw [mk_data]
          simp [convert, ok.run_und hs w, ok.run_und hd w]
        · have := toString_ok (P := P) h hl hv (by rw [g1]; simp)
          rw [g2] at this ⊢
          refine goal_here h (.str _) ?_
          rw [run_convert_bytes_string w src dst e none m c (ok.und hs) (ok.und he) (ok.und hd)]
          exact this
        · have := toString_ok (P := P) h hl hv (by rw [g1]; simp)
          rw [g2] at this ⊢
          refine goal_here h (.str _) ?_
          rw [run_convert_bytes_string w src dst e (some a') n c' (ok.und hs) (ok.und he) (ok.und hd)]
          exact this
      · cases hf
    · cases hf
  · rename_i e s hs hd hx
    rw [hexec]
    rw [hx] at hv
    have hsv := hv.str_inv
    rw [hsv]
    split at hf
    · rename_i he
      cases hf
      have hge := grownCap_ge w s.size 0 e
      obtain ⟨φ', g1, g2, g3⟩ := newOpen_ok (e := e) (cap := grownCap w s.size 0 e) (fz := (grownCap w s.size 0 e, grownCap w s.size 0 e + 1)) (sb := true) h
        (vs := s.data.toList.map fun c => .int .u8 c.toNat) (cvs := s.data.toList.map fun c => .int .u8 c.toNat) (pad := Array.replicate (grownCap w s.size 0 e - s.size) (.int .u8 0)) (LR.map _ fun b _ => .int _ _) (by simpa using hge)
        (by simp; have : s.data.size = s.size := rfl; omega) (fun j k1 k2 => k1) (by simp) (n := s.size) (by simp)
      refine goal_val g1 (Nat.le_succ _) g2 g3 ?_
      have hconv : (convert src dst (.string s)).run P w = (Conv.stringToBytes e s).run P w := by
        simp [convert, ok.run_und hs w, ok.run_und hd w, ok.run_und he w]
      rw [hconv]
      exact run_stringToBytes
    · rename_i he
      cases hf
      obtain ⟨ns, hns⟩ := runes_ints s s.size 0 #[] ⟨[], rfl⟩
      have harr : Conv.runesFrom s s.size 0 #[] = (ns.map (Value.int .i32)).toArray := Array.ext' (by simpa using hns)
      rw [harr]
      have hge := grownCap_ge w ns.length 0 e
      obtain ⟨φ', g1, g2, g3⟩ := newOpen_ok (e := e) (cap := grownCap w ns.length 0 e) (fz := (0, 0)) (sb := false) h
        (vs := ns.map (Value.int .i32)) (cvs := ns.map (Value.int .i32)) (pad := Array.replicate (grownCap w ns.length 0 e - ns.length) (.int .i32 0)) (ints_rel ns .i32) (by simpa using hge)
        (by simp; omega) (fun j k1 k2 => by simp at k2) (by simp) (n := (ns.map (Value.int .i32)).length) rfl
      refine goal_val g1 (Nat.le_succ _) g2 g3 ?_
      have hconv : (convert src dst (.string s)).run P w = (Conv.stringToRunes e s).run P w := by
        simp [convert, ok.run_und hs w, ok.run_und hd w, ok.run_und he w]
      rw [hconv]
      simp only [Conv.stringToRunes, harr, List.size_toArray, List.length_map, Sem.run_bind, run_appendCap, Result.andThen_ok, newRow, run_newO, Sem.run_pure]
      rfl
    · cases hf
  · rename_i u a hs hd hx
    rw [hexec]
    rw [hx] at hv
    obtain ⟨p, hp, hsp, e⟩ := hv.ptr_inv
    rw [e]
    split at hf
    · rename_i r hr
      split at hf
      · rename_i hc
        simp only [Bool.and_eq_true, Bool.not_eq_true'] at hc
        obtain ⟨⟨hop, hsu⟩, hlies⟩ := hc
        cases hf
        obtain ⟨q, hq, ⟨cs, fz, hrow⟩, _⟩ := h.obj a.block _ (row?_some hr) rfl
        rw [hp] at hq; cases hq
        obtain ⟨hoff, hsize⟩ := hrow.exact hop
        obtain ⟨n, hn⟩ := Option.isSome_iff_exists.1 hsu
        refine goal_here h (.ptr a p hp hsp) ?_
        have hsh : w.shape? p.blk = some (r.elem, cs.size) := by simp [World.shape?, hrow.blk]
        have hvar : (variablesAt ⟨p.blk, p.off + a.off, none⟩ u 1).run P w = .ok true w := by
          rw [ok.prog, hsize] at hlies
          rw [hoff, Nat.zero_add]
          simp [variablesAt, hsh, hlies]
        simp [convert, ok.run_und hs w, ok.run_und hd w, Conv.unsafePointer, Conv.seenAt, viewAt, hsh, ok.run_size hn w, hvar]
      · cases hf
    · cases hf
  · rename_i t a hs hd hx
    rw [hexec]
    rw [hx] at hv
    obtain ⟨p, hp, hsp, e⟩ := hv.ptr_inv
    rw [e]
    split at hf
    · rename_i r n hr hn
      split at hf
      · rename_i hc
        simp only [Bool.and_eq_true, Bool.not_eq_true', bne_iff_ne] at hc
        obtain ⟨⟨hop, hn0⟩, hlt⟩ := hc
        cases hf
        obtain ⟨q, hq, ⟨cs, fz, hrow⟩, _⟩ := h.obj a.block _ (row?_some hr) rfl
        rw [hp] at hq; cases hq
        obtain ⟨hoff, hsize⟩ := hrow.exact hop
        refine goal_here h (.ptr a p hp hsp) ?_
        have hsh : w.shape? p.blk = some (r.elem, cs.size) := by simp [World.shape?, hrow.blk]
        have hlt' : a.off < cs.size := by
          rw [← hsize]; exact (by simpa using hlt)
        have hle : ¬ (cs.size ≤ p.off + a.off) := by omega
        simp [convert, ok.run_und hs w, ok.run_und hd w, Conv.unsafePointer, Conv.seenAt, viewAt, cellsIn, hsh, ok.run_size hn w, hn0, hle]
      · cases hf
    · cases hf
  · exact hpure hf
end
end Go.AM
