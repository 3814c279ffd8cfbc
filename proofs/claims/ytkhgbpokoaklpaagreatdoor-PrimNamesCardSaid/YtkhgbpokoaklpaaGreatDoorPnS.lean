/- What the law comes to at a name that is known: the trees of three functions, and what they say. -/
import Derived.Test.YtkhgbpokoaklpaaGreatDoorPnC
import Derived.Test.YtkhgbpokoaklpaaGreatDoorSxTop
namespace Go.Proofs.YtkhgbpokoaklpaaGreatDoor
open Go Go.AM Go.AM.SX
def t19 : N :=
  .op .lenL [vn 0] <|
  .op .lenL [vn 1] <|
  .op (.bin .neq) [vn 2, vn 3] <|
  .br (vn 4) (.fin 1 [vv (.bool false)]) <|
  .loop [vv (.bool false), vv (.int .i64 0)] (.op .lenL [vn 0] <|
  .op (.bin .lss) [vn 6, vn 7] <|
  .br (vn 8) (.bump 9 <|
  .save <|
  .op (.idxA 1) [vn 0, vn 6] <|
  .op (.load none) [vn 10] <|
  .op (.idxA 1) [vn 1, vn 6] <|
  .op (.load none) [vn 12] <|
  .op (.bin .neq) [vn 11, vn 13] <|
  .self (vn 0) <|
  .self (vn 6) <|
  .chk 0 (.idxA 1) [vn 0, vn 6] (vn 10) <|
  .chk 0 (.load none) [vn 10] (vn 11) <|
  .self (vn 1) <|
  .self (vn 6) <|
  .chk 0 (.idxA 1) [vn 1, vn 6] (vn 12) <|
  .chk 0 (.load none) [vn 12] (vn 13) <|
  .chk 0 (.bin .neq) [vn 11, vn 13] (vn 14) <|
  .br (vn 14) (.fin 1 [vv (.bool false), vn 6]) <|
  .op (.bin .add) [vn 6, vv (.int .i64 1)] <|
  .fin 0 [vn 5, vn 15]) <|
  .fin 2 [vn 5, vn 6]) <|
  .sw 5 1 (.fin 1 [vn 6]) <|
  .sw 5 2 (.fin 1 [vv (.bool true)]) <|
  .bad
def t96 : N :=
  .op .lenL [vn 0] <|
  .loop [vv (.int .i64 0), vv (.int .i64 0)] (.op (.bin .lss) [vn 4, vn 2] <|
  .br (vn 5) (.op (.idxA 1) [vn 0, vn 4] <|
  .op (.load none) [vn 6] <|
  .op (.bin .eql) [vn 1, vn 7] <|
  .br (vn 8) (.fin 1 [vn 4, vn 4]) <|
  .op (.bin .add) [vn 4, vv (.int .i64 1)] <|
  .fin 0 [vn 3, vn 9]) <|
  .fin 2 [vn 3, vn 4]) <|
  .sw 3 1 (.fin 1 [vn 4]) <|
  .sw 3 2 (.fin 1 [vv (.int .i64 (-1))]) <|
  .bad
def t5 : N :=
  .call 18 [] <|
  .op .not [vn 1] <|
  .br (vn 2) (.fin 1 [vv (.bool false)]) <|
  .call 20 [] <|
  .call 21 [] <|
  .call 19 [vn 3, vn 4] <|
  .op .not [vn 5] <|
  .br (vn 6) (.fin 1 [vv (.bool false)]) <|
  .call 20 [] <|
  .call 96 [vn 7, vn 0] <|
  .op (.bin .geq) [vn 8, vv (.int .i64 0)] <|
  .call 25 [vn 0] <|
  .op (.ext 0) [vn 10] <|
  .op (.ext 1) [vn 10] <|
  .op (.ext 2) [vn 10] <|
  .br (vn 13) (.op (.beq true) [vn 9, vv (.bool true)] <|
  .br (vn 14) (.fin 1 [vv (.bool false)]) <|
  .op (.alloc 24 [(.int .i64 0), (.int .i64 0)]) [] <|
  .call 48 [vn 0] <|
  .op (.ext 0) [vn 16] <|
  .op (.ext 1) [vn 16] <|
  .op (.store 2) [vn 15, vn 17] <|
  .op (.load (some 2)) [vn 15] <|
  .op .tup [vn 20, vn 18] <|
  .op (.ext 0) [vn 21] <|
  .op (.ext 1) [vn 21] <|
  .op (.alloc 24 [(.int .i64 0), (.int .i64 0)]) [] <|
  .op (.store 2) [vn 24, vn 22] <|
  .call 25 [vn 0] <|
  .op (.ext 0) [vn 26] <|
  .op (.ext 1) [vn 26] <|
  .op (.ext 2) [vn 26] <|
  .op (.beq false) [vn 23, vn 29] <|
  .br (vn 30) (.op (.fld 0) [vn 24] <|
  .op (.load none) [vn 31] <|
  .op (.bin .eql) [vn 32, vn 27] <|
  .br (vn 33) (.op (.fld 1) [vn 24] <|
  .op (.load none) [vn 34] <|
  .op (.bin .eql) [vn 35, vn 28] <|
  .fin 1 [vn 36]) <|
  .fin 1 [vv (.bool false)]) <|
  .fin 1 [vv (.bool false)]) <|
  .call 47 [vn 0] <|
  .op (.beq true) [vn 9, vn 14] <|
  .br (vn 15) (.fin 1 [vv (.bool false)]) <|
  .op (.alloc 24 [(.int .i64 0), (.int .i64 0)]) [] <|
  .call 48 [vn 0] <|
  .op (.ext 0) [vn 17] <|
  .op (.ext 1) [vn 17] <|
  .op (.store 2) [vn 16, vn 18] <|
  .op (.load (some 2)) [vn 16] <|
  .op .tup [vn 21, vn 19] <|
  .op (.ext 0) [vn 22] <|
  .op (.ext 1) [vn 22] <|
  .op (.alloc 24 [(.int .i64 0), (.int .i64 0)]) [] <|
  .op (.store 2) [vn 25, vn 23] <|
  .call 25 [vn 0] <|
  .op (.ext 0) [vn 27] <|
  .op (.ext 1) [vn 27] <|
  .op (.ext 2) [vn 27] <|
  .op (.beq false) [vn 24, vn 30] <|
  .br (vn 31) (.op (.fld 0) [vn 25] <|
  .op (.load none) [vn 32] <|
  .op (.bin .eql) [vn 33, vn 28] <|
  .br (vn 34) (.op (.fld 1) [vn 25] <|
  .op (.load none) [vn 35] <|
  .op (.bin .eql) [vn 36, vn 29] <|
  .fin 1 [vn 37]) <|
  .fin 1 [vv (.bool false)]) <|
  .fin 1 [vv (.bool false)]

section
variable {E : Env}
theorem index_spec (hE : SxEnv E) {cfg : Cfg} {fuel f : Nat} (ht : sxFn E cfg fuel f 2 = some t96) {l : List Value} (hl : ∀ v, v ∈ l → ∃ s, v = .string s) {A : St} {p : Addr} {c : Nat} (hp : SX.Rd A p l) {s : ByteArray} (hs : .string s ∈ l) (hlen : l.length < 1000000) :
    ∃ v A', Runs E f [.slice (some p) l.length c, .string s] A v A' ∧ (∃ i : Nat, v = goInt i) ∧ A' = A := by
  refine fn_ok (Q := fun v A' => (∃ i : Nat, v = goInt i) ∧ A' = A) hE ht ?_
  refine ⟨_, _, rfl, ?_⟩
  refine loop_rule (κ := l.length) (I := fun κ vs A' => A' = A ∧ ∃ i : Nat, vs = [goInt 0, goInt i] ∧ i + κ = l.length ∧ .string s ∈ l.drop i) ?_ ⟨rfl, 0, rfl, by simp, by simpa using hs⟩
  rintro κ vs A' ⟨rfl, i, rfl, hi, hmem⟩
  have hlt : i < l.length := by
    rcases Nat.lt_or_ge i l.length with g | g
    · exact g
    · rw [List.drop_eq_nil_of_le g] at hmem; simp at hmem
  obtain ⟨u, hu⟩ : ∃ u, l[i]? = some u := ⟨l[i], List.getElem?_eq_getElem hlt⟩
  obtain ⟨su, rfl⟩ := hl u (List.mem_of_getElem? hu)
  refine ⟨_, _, rfl, ?_⟩
  refine ⟨_, rfl, fun hc => ?_, fun hc => ?_⟩
  · refine ⟨_, _, idx1 hlt, ?_⟩
    refine ⟨_, _, load1 hp hu, ?_⟩
    refine ⟨_, _, rfl, ?_⟩
    refine ⟨_, rfl, fun he => ?_, fun he => ?_⟩
    · refine ⟨fun _ => ?_, fun hne => absurd rfl hne⟩
      rintro v hv
      cases hv
      exact ⟨⟨i, rfl⟩, rfl⟩
    · refine ⟨_, _, add_one (by omega), ?_⟩
      refine ⟨κ - 1, by omega, rfl, i + 1, rfl, by omega, ?_⟩
      have hd : l.drop i = .string su :: l.drop (i + 1) := by
        rw [List.drop_eq_getElem_cons hlt]
        rw [List.getElem?_eq_getElem hlt] at hu
        rw [Option.some.inj hu]
      rw [hd] at hmem
      rcases List.mem_cons.1 hmem with e | e
      · cases e
        simp at he
      · exact e
  · simp only [decide_eq_false_iff_not] at hc
    omega

set_option maxHeartbeats 4000000 in
theorem same_spec (hE : SxEnv E) {cfg : Cfg} {fuel f : Nat} (ht : sxFn E cfg fuel f 2 = some t19) {l : List Value} (hl : ∀ v, v ∈ l → ∃ s, v = .string s) {A : St} {p q : Addr} {c d : Nat} (hp : SX.Rd A p l) (hq : SX.Rd A q l) (hlen : l.length < 1000000) :
    ∃ v A', Runs E f [.slice (some p) l.length c, .slice (some q) l.length d] A v A' ∧ v = .bool true ∧ Keep A A' := by
  refine fn_ok (Q := fun v A' => v = .bool true ∧ Keep A A') hE ht ?_
  refine ⟨_, _, rfl, ?_⟩
  refine ⟨_, _, rfl, ?_⟩
  refine ⟨_, _, rfl, ?_⟩
  refine ⟨_, rfl, fun hc => ?_, fun hc => ?_⟩
  · simp at hc
  refine loop_rule (κ := l.length) (I := fun κ vs A' => (A'.h = A.h ∧ A.next ≤ A'.next ∧ A'.g = A.g) ∧ ∃ i : Nat, vs = [.bool false, goInt i] ∧ i + κ = l.length) ?_ ⟨⟨rfl, Nat.le_refl _, rfl⟩, 0, rfl, by simp⟩
  rintro κ vs A' ⟨⟨hh, hn, hgg⟩, i, rfl, hi⟩
  have hp' : SX.Rd A' p l := by unfold SX.Rd; rw [hh]; exact hp
  have hq' : SX.Rd A' q l := by unfold SX.Rd; rw [hh]; exact hq
  refine ⟨_, _, rfl, ?_⟩
  refine ⟨_, _, rfl, ?_⟩
  refine ⟨_, rfl, fun hc => ?_, fun hc => ?_⟩
  · have hlt : i < l.length := by simpa using hc
    obtain ⟨u, hu⟩ : ∃ u, l[i]? = some u := ⟨l[i], List.getElem?_eq_getElem hlt⟩
    obtain ⟨su, rfl⟩ := hl u (List.mem_of_getElem? hu)
    refine ⟨_, _, idx1 hlt, ?_⟩
    refine ⟨_, _, load1 (hp'.next _) hu, ?_⟩
    refine ⟨_, _, idx1 hlt, ?_⟩
    refine ⟨_, _, load1 (hq'.next _) hu, ?_⟩
    refine ⟨_, _, rfl, ?_⟩
    refine ⟨self_of rfl (veq_sl _ _ _), ?_⟩
    refine ⟨self_of rfl (veq_int _ _), ?_⟩
    refine ⟨chk_of rfl (idx1 hlt) rfl (veq_ptr _), ?_⟩
    refine ⟨chk_of rfl (load1 (hp'.next _) hu) rfl (veq_str _), ?_⟩
    refine ⟨self_of rfl (veq_sl _ _ _), ?_⟩
    refine ⟨self_of rfl (veq_int _ _), ?_⟩
    refine ⟨chk_of rfl (idx1 hlt) rfl (veq_ptr _), ?_⟩
    refine ⟨chk_of rfl (load1 (hq'.next _) hu) rfl (veq_str _), ?_⟩
    refine ⟨chk_of rfl rfl rfl (veq_bool _), ?_⟩
    refine ⟨_, rfl, fun he => ?_, fun he => ?_⟩
    · simp at he
    · refine ⟨_, _, add_one (by omega), ?_⟩
      exact ⟨κ - 1, by omega, ⟨hh, Nat.le_trans hn (Nat.le_add_right _ _), hgg⟩, i + 1, rfl, by omega⟩
  · refine ⟨fun h1 => ?_, fun _ => ⟨fun _ => ?_, fun h2 => absurd rfl h2⟩⟩
    · exact absurd (show (2 : Nat) = 1 from h1) (by decide)
    · rintro v hv
      cases hv
      exact ⟨rfl, .of_h hh hn hgg⟩

end

/-- What a state has to have: the row of the blanks; no group. -/
def Ready (A : St) : Prop := lookOk A asc = true ∧ 1 ≤ A.next ∧ A.g = _root_.Go.AM.T.nil
theorem Ready.keep {A B : St} (h : Ready A) (k : Keep A B) : Ready B := by
  refine ⟨?_, Nat.le_trans h.2.1 k.1, k.2.2.trans h.2.2⟩
  have h0 : B.h.get 0 = A.h.get 0 := k.2.1 0 h.2.1
  have := h.1
  unfold lookOk at this ⊢
  rw [show asc.g = 0 from rfl] at this ⊢
  rw [h0]
  exact this

/-- What is asked of the calls. -/
structure Calls5 (E : Env) (c : ByteArray) : Prop where
  awake : ∀ A, Ready A → ∃ B, Runs E 18 [] A (.bool true) B ∧ Keep A B
  prog : ∀ A, Ready A → ∃ B p, Runs E 20 [] A (.slice (some p) 52 52) B ∧ Keep A B ∧ SX.Rd B p YtkhgbpokoaklpaaGreatDoor.names ∧ p.block < B.next
  refs : ∀ A, Ready A → ∃ B p, Runs E 21 [] A (.slice (some p) 52 52) B ∧ Keep A B ∧ SX.Rd B p YtkhgbpokoaklpaaGreatDoor.names ∧ p.block < B.next
  one : ∃ (i o : Int) (ok : Bool), (∀ A, Ready A → ∃ B, Runs E 25 [.string c] A (.tuple #[.int .i64 i, .int .i64 o, .bool ok]) B ∧ Keep A B) ∧
    (∀ A, Ready A → ∃ B, Runs E 48 [.string c] A (.tuple #[.agg #[.int .i64 i, .int .i64 o], .bool ok]) B ∧ Keep A B) ∧
    (ok = false → ∀ A, Ready A → ∃ B, Runs E 47 [.string c] A (.bool true) B ∧ Keep A B)
  mem : Value.string c ∈ YtkhgbpokoaklpaaGreatDoor.names
theorem names_str : ∀ v, v ∈ names → ∃ s, v = .string s := by
  intro v hv
  simp only [names, bs, List.mem_cons, List.mem_nil_iff, or_false] at hv
  rcases hv with rfl | rfl | rfl | rfl | rfl | rfl | rfl | rfl | rfl | rfl | rfl | rfl | rfl | rfl | rfl | rfl | rfl | rfl | rfl | rfl | rfl | rfl | rfl | rfl | rfl | rfl | rfl | rfl | rfl | rfl | rfl | rfl | rfl | rfl | rfl | rfl | rfl | rfl | rfl | rfl | rfl | rfl | rfl | rfl | rfl | rfl | rfl | rfl | rfl | rfl | rfl | rfl <;> exact ⟨_, rfl⟩

theorem Ready.other {A B : St} {b : Nat} (h : Ready A) (hb : b ≠ 0) (hn : B.next = A.next) (hg : B.g = A.g) (ho : ∀ c, c ≠ b → B.h.get c = A.h.get c) : Ready B := by
  refine ⟨?_, by rw [hn]; exact h.2.1, hg.trans h.2.2⟩
  have := h.1
  unfold lookOk at this ⊢
  rw [show asc.g = 0 from rfl] at this ⊢
  rw [ho 0 (Ne.symm hb)]
  exact this

set_option maxHeartbeats 4000000 in
theorem law_in {E : Env} (hE : SxEnv E) {cfg : Cfg} {fuel : Nat} (h5 : sxFn E cfg fuel 5 1 = some t5) (h19 : sxFn E cfg fuel 19 2 = some t19) (h96 : sxFn E cfg fuel 96 2 = some t96) {c : ByteArray} (hc : Calls5 E c) {A : St} (hA : Ready A) :
    ∃ v A', Runs E 5 [.string c] A v A' ∧ v = .bool true := by
  obtain ⟨i, o, ok, h25, h48, h47⟩ := hc.one
  refine fn_ok (Q := fun v _ => v = .bool true) hE h5 ?_
  unfold t5
  obtain ⟨A1, r1, k1⟩ := hc.awake A hA
  have g1 := hA.keep k1
  refine wp_call r1 ?_
  simp only [List.cons_append, List.nil_append]
  refine wp_op rfl ?_
  simp only [List.cons_append, List.nil_append]
  refine wp_false rfl ?_
  obtain ⟨A2, p, r2, k2, d2, l2⟩ := hc.prog A1 g1
  have g2 := g1.keep k2
  refine wp_call r2 ?_
  simp only [List.cons_append, List.nil_append]
  obtain ⟨A3, q, r3, k3, d3, l3⟩ := hc.refs A2 g2
  have g3 := g2.keep k3
  refine wp_call r3 ?_
  simp only [List.cons_append, List.nil_append]
  obtain ⟨v4, A4, r4, rfl, k4⟩ := same_spec hE h19 names_str (c := 52) (d := 52) (d2.keep k3 l2) d3 (by decide)
  have g4 := g3.keep k4
  refine wp_call r4 ?_
  simp only [List.cons_append, List.nil_append]
  refine wp_op rfl ?_
  simp only [List.cons_append, List.nil_append]
  refine wp_false rfl ?_
  obtain ⟨A5, p5, r5, k5, d5, l5⟩ := hc.prog A4 g4
  have g5 := g4.keep k5
  refine wp_call r5 ?_
  simp only [List.cons_append, List.nil_append]
  obtain ⟨v6, A6, r6, ⟨j, rfl⟩, rfl⟩ := index_spec hE h96 names_str (c := 52) d5 hc.mem (by decide)
  refine wp_call r6 ?_
  simp only [List.cons_append, List.nil_append]
  have hge : semR (.bin .geq) [goInt j, .int .i64 0] A6 = some (.bool true, A6) := by
    show some (Value.bool (decide ((j : Int) ≥ 0)), A6) = _
    simp
  refine wp_op hge ?_
  simp only [List.cons_append, List.nil_append]
  obtain ⟨A7, r7, k7⟩ := h25 A6 g5
  have g7 := g5.keep k7
  refine wp_call r7 ?_
  simp only [List.cons_append, List.nil_append]
  refine wp_op rfl ?_
  simp only [List.cons_append, List.nil_append]
  refine wp_op rfl ?_
  simp only [List.cons_append, List.nil_append]
  refine wp_op rfl ?_
  simp only [List.cons_append, List.nil_append]
  cases ok with
  | true =>
    refine wp_true rfl ?_
    refine wp_op rfl ?_
    simp only [List.cons_append, List.nil_append]
    refine wp_false rfl ?_
    obtain ⟨A8, s8, k8, c8, n8⟩ := alloc_cell A7 24 [.int .i64 0, .int .i64 0]
    have g8 := g7.keep k8
    refine wp_op s8 ?_
    simp only [List.cons_append, List.nil_append]
    obtain ⟨A9, r9, k9⟩ := h48 _ g8
    have g9 := g8.keep k9
    refine wp_call r9 ?_
    simp only [List.cons_append, List.nil_append]
    refine wp_op rfl ?_
    simp only [List.cons_append, List.nil_append]
    refine wp_op rfl ?_
    simp only [List.cons_append, List.nil_append]
    obtain ⟨A10, s10, c10, n10, e10, o10⟩ := store_cell (v := .agg #[.int .i64 i, .int .i64 o]) (n := 2) (c8.keep k9 (by omega)) g9.2.2 rfl rfl rfl
    refine wp_op s10 ?_
    simp only [List.cons_append, List.nil_append]
    refine wp_op (load_agg c10 rfl) ?_
    simp only [List.cons_append, List.nil_append]
    refine wp_op rfl ?_
    simp only [List.cons_append, List.nil_append]
    refine wp_op rfl ?_
    simp only [List.cons_append, List.nil_append]
    refine wp_op rfl ?_
    simp only [List.cons_append, List.nil_append]
    have g10 : Ready A10 := g9.other (by have := g7.2.1; omega) n10 e10 o10
    obtain ⟨A11, s11, k11, c11, n11⟩ := alloc_cell A10 24 [.int .i64 0, .int .i64 0]
    have g11 := g10.keep k11
    refine wp_op s11 ?_
    simp only [List.cons_append, List.nil_append]
    obtain ⟨A12, s12, c12, n12, e12, o12⟩ := store_cell (v := .agg #[.int .i64 i, .int .i64 o]) (n := 2) c11 g11.2.2 rfl rfl rfl
    have g12 : Ready A12 := g11.other (by have := g10.2.1; omega) n12 e12 o12
    refine wp_op s12 ?_
    simp only [List.cons_append, List.nil_append]
    obtain ⟨A13, r13, k13⟩ := h25 A12 g12
    have c13 := c12.keep k13 (by omega)
    refine wp_call r13 ?_
    simp only [List.cons_append, List.nil_append]
    refine wp_op rfl ?_
    simp only [List.cons_append, List.nil_append]
    refine wp_op rfl ?_
    simp only [List.cons_append, List.nil_append]
    refine wp_op rfl ?_
    simp only [List.cons_append, List.nil_append]
    refine wp_op rfl ?_
    simp only [List.cons_append, List.nil_append]
    refine wp_true rfl ?_
    refine wp_op rfl ?_
    simp only [List.cons_append, List.nil_append]
    refine wp_op (load_at (i := 0) c13 rfl) ?_
    simp only [List.cons_append, List.nil_append]
    refine wp_op rfl ?_
    simp only [List.cons_append, List.nil_append]
    refine wp_true (show Value.bool (i == i) = _ by simp) ?_
    refine wp_op rfl ?_
    simp only [List.cons_append, List.nil_append]
    refine wp_op (load_at (i := 1) c13 rfl) ?_
    simp only [List.cons_append, List.nil_append]
    refine wp_op rfl ?_
    simp only [List.cons_append, List.nil_append]
    refine wp_fin ?_
    rintro v hv
    cases hv
    exact (show Value.bool (o == o) = _ by simp)
  | false =>
    refine wp_false rfl ?_
    obtain ⟨A7b, r7b, k7b⟩ := h47 rfl A7 g7
    have g7b := g7.keep k7b
    refine wp_call r7b ?_
    simp only [List.cons_append, List.nil_append]
    refine wp_op rfl ?_
    simp only [List.cons_append, List.nil_append]
    refine wp_false rfl ?_
    obtain ⟨A8, s8, k8, c8, n8⟩ := alloc_cell A7b 24 [.int .i64 0, .int .i64 0]
    have g8 := g7b.keep k8
    refine wp_op s8 ?_
    simp only [List.cons_append, List.nil_append]
    obtain ⟨A9, r9, k9⟩ := h48 _ g8
    have g9 := g8.keep k9
    refine wp_call r9 ?_
    simp only [List.cons_append, List.nil_append]
    refine wp_op rfl ?_
    simp only [List.cons_append, List.nil_append]
    refine wp_op rfl ?_
    simp only [List.cons_append, List.nil_append]
    obtain ⟨A10, s10, c10, n10, e10, o10⟩ := store_cell (v := .agg #[.int .i64 i, .int .i64 o]) (n := 2) (c8.keep k9 (by omega)) g9.2.2 rfl rfl rfl
    refine wp_op s10 ?_
    simp only [List.cons_append, List.nil_append]
    refine wp_op (load_agg c10 rfl) ?_
    simp only [List.cons_append, List.nil_append]
    refine wp_op rfl ?_
    simp only [List.cons_append, List.nil_append]
    refine wp_op rfl ?_
    simp only [List.cons_append, List.nil_append]
    refine wp_op rfl ?_
    simp only [List.cons_append, List.nil_append]
    have g10 : Ready A10 := g9.other (by have := g7b.2.1; omega) n10 e10 o10
    obtain ⟨A11, s11, k11, c11, n11⟩ := alloc_cell A10 24 [.int .i64 0, .int .i64 0]
    have g11 := g10.keep k11
    refine wp_op s11 ?_
    simp only [List.cons_append, List.nil_append]
    obtain ⟨A12, s12, c12, n12, e12, o12⟩ := store_cell (v := .agg #[.int .i64 i, .int .i64 o]) (n := 2) c11 g11.2.2 rfl rfl rfl
    have g12 : Ready A12 := g11.other (by have := g10.2.1; omega) n12 e12 o12
    refine wp_op s12 ?_
    simp only [List.cons_append, List.nil_append]
    obtain ⟨A13, r13, k13⟩ := h25 A12 g12
    have c13 := c12.keep k13 (by omega)
    refine wp_call r13 ?_
    simp only [List.cons_append, List.nil_append]
    refine wp_op rfl ?_
    simp only [List.cons_append, List.nil_append]
    refine wp_op rfl ?_
    simp only [List.cons_append, List.nil_append]
    refine wp_op rfl ?_
    simp only [List.cons_append, List.nil_append]
    refine wp_op rfl ?_
    simp only [List.cons_append, List.nil_append]
    refine wp_true rfl ?_
    refine wp_op rfl ?_
    simp only [List.cons_append, List.nil_append]
    refine wp_op (load_at (i := 0) c13 rfl) ?_
    simp only [List.cons_append, List.nil_append]
    refine wp_op rfl ?_
    simp only [List.cons_append, List.nil_append]
    refine wp_true (show Value.bool (i == i) = _ by simp) ?_
    refine wp_op rfl ?_
    simp only [List.cons_append, List.nil_append]
    refine wp_op (load_at (i := 1) c13 rfl) ?_
    simp only [List.cons_append, List.nil_append]
    refine wp_op rfl ?_
    simp only [List.cons_append, List.nil_append]
    refine wp_fin ?_
    rintro v hv
    cases hv
    exact (show Value.bool (o == o) = _ by simp)
end Go.Proofs.YtkhgbpokoaklpaaGreatDoor
