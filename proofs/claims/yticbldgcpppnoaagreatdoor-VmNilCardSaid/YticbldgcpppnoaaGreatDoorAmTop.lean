/- Known calls. -/
import Derived.Test.YticbldgcpppnoaaGreatDoorAmDraw
import Derived.Recover
import GoSem.ClaimChange
import Derived.KernelRfl
namespace Go.AM

theorem shiftV_ok {nm : Nm} {s : Nat} {φ ψ : Emb} (h : ∀ b p, φ b = some p → ψ (b + s) = some p) : ∀ (n : Nat) (v v' : Value), VR nm φ v v' → shallow n v = true → VR nm ψ (shiftV s n v) v' := by
  have arr : ∀ (n : Nat), (∀ v v', VR nm φ v v' → shallow n v = true → VR nm ψ (shiftV s n v) v') → ∀ (a a' : Array Value), AR nm φ a a' → a.toList.all (shallow n) = true → AR nm ψ (a.map (shiftV s n)) a' := by
    intro n ih a a' hr hs
    refine .of_get? (by simpa using hr.1) fun i v v' h1 h2 => ?_
    rw [Array.toList_map, List.getElem?_map] at h1
    cases hx : a.toList[i]? with
    | none => rw [hx] at h1; cases h1
    | some x =>
      rw [hx] at h1
      cases h1
      obtain ⟨y, hy, hxy⟩ := hr.get? hx
      rw [hy] at h2
      cases h2
      exact ih x _ hxy (List.all_eq_true.1 hs x (List.mem_of_getElem? hx))
  intro n
  induction n with
  | zero =>
    intro v v' hr hs
    cases hr with
    | bool b => exact .bool b
    | int k n => exact .int k n
    | str s => exact .str s
    | sym => exact .sym
    | nilp => exact .nilp
    | ptr a p h1 h2 => exact .ptr ⟨a.block + s, a.off, a.spot⟩ p (h _ _ h1) h2
    | nils l c => exact .nils l c
    | slc a a' l c c' p h1 h2 h3 h4 h5 h6 h7 h8 => exact .slc ⟨a.block + s, a.off, a.spot⟩ a' l c c' p (h _ _ h1) h2 h3 h4 h5 h6 h7 h8
    | nilm => exact .nilm
    | map r p h1 => exact .map (r + s) p (h _ _ h1)
    | nilf => exact .nilf
    | nili => exact .nili
    | _ => simp [shallow] at hs
  | succ n ih =>
    intro v v' hr hs
    cases hr with
    | bool b => exact .bool b
    | int k n => exact .int k n
    | str s => exact .str s
    | sym => exact .sym
    | nilp => exact .nilp
    | ptr a p h1 h2 => exact .ptr ⟨a.block + s, a.off, a.spot⟩ p (h _ _ h1) h2
    | nils l c => exact .nils l c
    | slc a a' l c c' p h1 h2 h3 h4 h5 h6 h7 h8 => exact .slc ⟨a.block + s, a.off, a.spot⟩ a' l c c' p (h _ _ h1) h2 h3 h4 h5 h6 h7 h8
    | nilm => exact .nilm
    | map r p h1 => exact .map (r + s) p (h _ _ h1)
    | nilf => exact .nilf
    | nili => exact .nili
    | iface t v v' hv => exact .iface t _ _ (ih v v' hv hs)
    | agg a a' h1 h2 => exact .agg' (arr n ih a a' (.of h1 h2) hs)
    | tuple a a' h1 h2 => exact .tuple' (arr n ih a a' (.of h1 h2) hs)
    | func f f' a a' c c' h1 h2 h3 h4 h5 =>
      simp only [shallow, Bool.and_eq_true] at hs
      refine .func' ?_ (arr n ih a a' (.of h2 h3) hs.1) (arr n ih c c' (.of h4 h5) hs.2)
      cases h1 with
      | func f => exact .func f
      | method m => exact .method m
      | yield l l' p g1 g2 => exact .yield (l + s) l' p (h _ _ g1) g2

theorem addRows_get {s b : Nat} {o : AObj} : ∀ {l : List KRow} {h : T AObj}, (addRows s h l).get b = some o → h.get b = some o ∨ ∃ r, r ∈ l ∧ b = r.b + s ∧ o = .row (kRow s r)
  | [], h, hb => .inl hb
  | r :: l, h, hb => by
    rcases addRows_get (l := l) hb with g | ⟨r', g1, g2, g3⟩
    · rw [T.get_set] at g
      split at g
      · rename_i e
        cases g
        exact .inr ⟨r, by simp, e, rfl⟩
      · exact .inl g
    · exact .inr ⟨r', by simp [g1], g2, g3⟩
theorem addRows_low {s b : Nat} (hb : b < s) : ∀ {l : List KRow} {h : T AObj}, (addRows s h l).get b = h.get b
  | [], h => rfl
  | r :: l, h => by
    rw [addRows, addRows_low hb, T.get_set_other]
    omega

section
variable {E : Env} {P : Program} {nm : Nm} {K : Kp} {base : World} {φ : Emb} {A A' : St} {w : World}

theorem known_wr {k : Known} {e : Ending} {w' : World} (h : WR nm K base φ A w) (hk : KRes nm k w e w') (hs : shallow 8 k.v = true) (hr : (k.objs.all fun r => r.cells.all (shallow 8)) = true) :
    ∃ ψ v', Emb.ext A.next φ ψ ∧ A.next ≤ A.next + k.cnt ∧ WR nm K base ψ { A with next := A.next + k.cnt, h := addRows A.next A.h k.objs } w' ∧ VR nm ψ (shiftV A.next 8 k.v) v' ∧ e = .returned v' := by
  obtain ⟨φ1, v', k1, k2, k3, k4, k5, k6, k7, k8, k9⟩ := hk
  let ψ : Emb := fun b => if b < A.next then φ b else φ1 (b - A.next)
  have hψ1 : ∀ b, b < A.next → ψ b = φ b := fun b hb => by simp only [ψ]; rw [if_pos hb]
  have hψ2 : ∀ b p, φ1 b = some p → ψ (b + A.next) = some p := fun b p hp => by
    simp only [ψ]; rw [if_neg (by omega), Nat.add_sub_cancel]; exact hp
  have hext : Emb.ext A.next φ ψ := hψ1
  have hle := h.le hext
  have hcases : ∀ b p, ψ b = some p → (b < A.next ∧ φ b = some p ∧ p.blk < w.heap.size) ∨ (A.next ≤ b ∧ φ1 (b - A.next) = some p) := by
    intro b p hb
    by_cases hlt : b < A.next
    · rw [hψ1 b hlt] at hb; exact .inl ⟨hlt, hb, h.lt _ _ hb⟩
    · simp only [ψ] at hb; rw [if_neg hlt] at hb; exact .inr ⟨by omega, hb⟩
  have hobj : ∀ b o, (addRows A.next A.h k.objs).get b = some o → (A.h.get b = some o ∧ b < A.next ∨ A.h.get b = some o ∧ A.next ≤ b) ∨ ∃ r, r ∈ k.objs ∧ b = r.b + A.next ∧ o = .row (kRow A.next r) := by
    intro b o hb
    rcases addRows_get hb with g | g
    · rcases Nat.lt_or_ge b A.next with l | l
      · exact .inl (.inl ⟨g, l⟩)
      · exact .inl (.inr ⟨g, l⟩)
    · exact .inr g
  have hdead : ∀ b o, A.h.get b = some o → A.next ≤ b → o.live = false := by
    intro b o hb hl
    cases hlv : o.live with
    | false => rfl
    | true =>
      obtain ⟨p, hp, _⟩ := h.obj b o hb hlv
      rw [h.dom b hl] at hp; cases hp
  have hnew : ∀ r, r ∈ k.objs → ∃ p cs fz, φ1 r.b = some p ∧ ψ (r.b + A.next) = some p ∧ RowR nm ψ w'.heap p (kRow A.next r) cs fz ∧ w.heap.size ≤ p.blk := by
    intro r hrm
    obtain ⟨p, cs, fz, r1, r2, r3⟩ := k3 r hrm
    refine ⟨p, cs, fz, r1, hψ2 _ _ r1, ?_, r3⟩
    have hsh := List.all_eq_true.1 hr r hrm
    exact { blk := r2.blk, csz := r2.csz, opn := r2.opn, esz := r2.esz, fit := r2.fit, frz := r2.frz, sb := r2.sb, exact := r2.exact, cell := by
              intro i hi
              obtain ⟨v, c1, c2⟩ := r2.cell i hi
              have c1' : (T.ofList r.cells).get i = some v := c1
              rw [T.get_ofList] at c1'
              refine ⟨shiftV A.next 8 v, ?_, shiftV_ok hψ2 8 _ _ c2 (List.all_eq_true.1 hsh v (List.mem_of_getElem? c1'))⟩
              show (T.ofList (r.cells.map (shiftV A.next 8))).get i = _
              rw [T.get_ofList, List.getElem?_map, c1']; rfl }
  have hKnone : ∀ B, w.heap.size ≤ B → K B = none := by
    intro B hB
    cases hk : K B with
    | none => rfl
    | some x => have := h.key _ _ hk; rw [Array.getElem?_eq_none hB] at this; cases this
  refine ⟨ψ, v', hext, Nat.le_add_right _ _, ?_, shiftV_ok hψ2 8 _ _ k8 hs, k9⟩
  refine { dom := ?_, lt := ?_, obj := ?_, key := ?_, sep := ?_, tip := ?_, grp := ?_, env := ?_, size := Nat.le_trans h.size k6, old := ?_ }
  · intro b hb
    have hb' : A.next + k.cnt ≤ b := hb
    simp only [ψ]
    rw [if_neg (by omega)]
    exact k2 _ (by omega)
  · intro b p hb
    rcases hcases b p hb with ⟨_, _, g⟩ | ⟨_, g⟩
    · exact Nat.lt_of_lt_of_le g k6
    · exact k1 _ _ g
  · intro b o hb hl
    rcases hobj b o hb with (⟨g1, g2⟩ | ⟨g1, g2⟩) | ⟨r, g1, rfl, rfl⟩
    · obtain ⟨p, p1, p2, p3⟩ := h.obj b o g1 hl
      exact ⟨p, hle _ _ p1, p2.mono hle (k5 _ (h.lt _ _ p1)), p3⟩
    · rw [hdead b o g1 g2] at hl; cases hl
    · obtain ⟨p, cs, fz, p1, p2, p3, p4⟩ := hnew r g1
      exact ⟨p, p2, ⟨cs, fz, p3⟩, by rw [hKnone _ p4]; rfl⟩
  · intro B o hB
    have h1 := h.key _ _ hB
    rw [k5 B (by rcases Nat.lt_or_ge B w.heap.size with g | g; exact g; rw [Array.getElem?_eq_none g] at h1; cases h1)]
    exact h1
  · intro b c o u p q hbc hb hc lo lu oo ou hp hq hblk
    rcases hobj b o hb with (⟨g1, g2⟩ | ⟨g1, g2⟩) | ⟨r, g1, rfl, rfl⟩
    · rcases hobj c u hc with (⟨l1, l2⟩ | ⟨l1, l2⟩) | ⟨s, l1, rfl, rfl⟩
      · rw [hψ1 b g2] at hp
        rw [hψ1 c l2] at hq
        exact h.sep b c o u p q hbc g1 l1 lo lu oo ou hp hq hblk
      · rw [hdead c u l1 l2] at lu; cases lu
      · obtain ⟨q', _, _, _, q2, _, q4⟩ := hnew s l1
        rw [q2] at hq; cases hq
        rw [hψ1 b g2] at hp
        have := h.lt _ _ hp
        omega
    · rw [hdead b o g1 g2] at lo; cases lo
    · obtain ⟨p', _, _, p1, p2, _, p4⟩ := hnew r g1
      rw [p2] at hp; cases hp
      rcases hobj c u hc with (⟨l1, l2⟩ | ⟨l1, l2⟩) | ⟨s, l1, rfl, rfl⟩
      · rw [hψ1 c l2] at hq
        have := h.lt _ _ hq
        omega
      · rw [hdead c u l1 l2] at lu; cases lu
      · obtain ⟨q', _, _, q1, q2, _, q4⟩ := hnew s l1
        rw [q2] at hq; cases hq
        exact absurd hblk (k4 r s _ _ g1 l1 (by intro e; exact hbc (by rw [e])) p1 q1)
  · intro g m ms hg b hb r s p q h1 h2 hp hq hblk
    obtain ⟨pb, e1, _⟩ := h.grp g _ hg b (by simp [hb])
    obtain ⟨pm, e2, _⟩ := h.grp g _ hg m (by simp)
    have lb : b < A.next := by
      rcases Nat.lt_or_ge b A.next with l | l
      · exact l
      · rw [h.dom b l] at e1; cases e1
    have lm : m < A.next := by
      rcases Nat.lt_or_ge m A.next with l | l
      · exact l
      · rw [h.dom m l] at e2; cases e2
    simp only at h1 h2
    rw [addRows_low lb] at h1
    rw [addRows_low lm] at h2
    rw [hψ1 b lb] at hp
    rw [hψ1 m lm] at hq
    exact h.tip g m ms hg b hb r s p q h1 h2 hp hq hblk
  · intro g ms hg m hm
    obtain ⟨p, p1, p2⟩ := h.grp g ms hg m hm
    exact ⟨p, hle _ _ p1, p2⟩
  · exact ⟨k7.1.trans h.env.1, k7.2.1.trans h.env.2.1, k7.2.2.trans h.env.2.2⟩
  · intro b o p hb hl ho hp
    rcases hobj b o hb with (⟨g1, g2⟩ | ⟨g1, g2⟩) | ⟨r, g1, rfl, rfl⟩
    · rw [hψ1 b g2] at hp
      exact h.old b o p g1 hl ho hp
    · rw [hdead b o g1 g2] at hl; cases hl
    · cases ho

theorem peq_eq {v u : Value} (h : peq v u = true) : v = u ∧ plainV v = true := by
  unfold peq at h
  rw [Bool.and_eq_true] at h
  exact ⟨veq_eq 40 _ _ h.2, h.1⟩
theorem peqL_eq : ∀ {l m : List Value}, peqL l m = true → l = m ∧ l.all plainV = true
  | [], [], _ => ⟨rfl, rfl⟩
  | [], _ :: _, h => by cases h
  | _ :: _, [], h => by cases h
  | v :: l, u :: m, h => by
    simp only [peqL, Bool.and_eq_true] at h
    obtain ⟨rfl, h1⟩ := peq_eq h.1
    obtain ⟨rfl, h2⟩ := peqL_eq h.2
    exact ⟨rfl, by simp [h1, h2]⟩
theorem knownAt_some {f : FuncId} {args : List Value} : ∀ {ks : List Known} {k : Known}, knownAt f args ks = some k → k ∈ ks ∧ k.f = f ∧ k.args = args ∧ args.all plainV = true
  | [], k, h => by cases h
  | x :: ks, k, h => by
    simp only [knownAt] at h
    split at h
    · rename_i hc
      cases h
      rw [Bool.and_eq_true] at hc
      obtain ⟨e1, e2⟩ := peqL_eq hc.2
      exact ⟨by simp, Nat.eq_of_beq_eq_true hc.1, e1, by rw [← e1]; exact e2⟩
    · obtain ⟨a, b⟩ := knownAt_some h
      exact ⟨by simp [a], b⟩
theorem LR.plain_eq {φ : Emb} : ∀ {l l' : List Value}, LR nm φ l l' → l.all plainV = true → l' = l
  | [], l', h, _ => h.nil_inv
  | v :: l, l', h, hp => by
    simp only [List.all_cons, Bool.and_eq_true] at hp
    obtain ⟨v', m, rfl, h1, h2⟩ := h.cons_inv
    rw [h1.plainV_eq hp.1, LR.plain_eq h2 hp.2]

theorem lookOk_ok (h : WR nm K base φ A w) (hg : Gl E φ) {r : GRow} (hl : Nat.blt r.g E.ng = true) (hr : lookOk A r = true) : ∃ t fz, w.heap[r.g]? = some (.cells r.cells.toArray t fz) := by
  unfold lookOk at hr
  split at hr
  · rename_i x hx
    simp only [Bool.and_eq_true] at hr
    obtain ⟨⟨⟨h1, h2⟩, h3⟩, h5⟩ := hr
    split at h5
    · rename_i vs hvs
      obtain ⟨e1, e2⟩ := peqL_eq h5
      obtain ⟨p, p1, ⟨cs, fz, hrow⟩, _⟩ := h.obj r.g _ hx rfl
      obtain ⟨p', q1, q2, q3⟩ := hg r.g (by rw [Nat.blt_eq] at hl; exact hl)
      rw [p1] at q1; cases q1
      have hopn : x.opn = false := by simpa using h2
      obtain ⟨x1, x2⟩ := hrow.exact hopn
      have hblk := hrow.blk
      rw [q2] at hblk
      obtain ⟨l1, l2⟩ := T.range_some _ _ _ _ hvs
      refine ⟨x.elem, fz, ?_⟩
      rw [hblk]
      have : cs = r.cells.toArray := by
        apply Array.ext'
        have hlr : LR nm φ vs cs.toList := by
          refine ⟨by simp [l1, x2], fun i hi => ?_⟩
          obtain ⟨v, c1, c2⟩ := hrow.cell i (by omega)
          have := l2 i (by omega)
          rw [Nat.zero_add, c1] at this
          rw [x1, Nat.zero_add] at c2
          rw [List.getD_eq_getElem?_getD, ← this, getD_toList]
          exact c2
        rw [LR.plain_eq hlr e2, e1]
      rw [this]
    · cases h5
  · cases hr

theorem known_ok (ok : EnvOk E P nm) {f : FuncId} {args : List Value} {k : Known} (hk : knownAt f args E.known = some k) (hl : (k.looks.all fun r => Nat.blt r.g E.ng && lookOk A r) = true) (h : WR nm K base φ A w) (hg : Gl E φ) {args' : Array Value} (ha : LR nm φ args args'.toList) :
    Calls P f args' w fun e w' => ∃ ψ v', Emb.ext A.next φ ψ ∧ A.next ≤ A.next + k.cnt ∧ WR nm K base ψ { A with next := A.next + k.cnt, h := addRows A.next A.h k.objs } w' ∧ VR nm ψ (shiftV A.next 8 k.v) v' ∧ e = .returned v' := by
  obtain ⟨k1, k2, k3, k4⟩ := knownAt_some hk
  have hko := ok.known k k1
  have hargs : args' = k.args.toArray := by
    apply Array.ext'
    rw [LR.plain_eq ha k4, k3]
  rw [hargs, ← k2]
  refine (hko.calls w fun r hr => ?_).mono fun e w' hres => known_wr h hres hko.shal hko.shalR
  have := List.all_eq_true.1 hl r hr
  rw [Bool.and_eq_true] at this
  exact lookOk_ok h hg this.1 this.2
end
end Go.AM

namespace Go.AM
section
variable {E : Env} {P : Program} {nm : Nm} {K : Kp} {base : World} {φ ψ : Emb} {A A' : St} {w : World}

/-- How a piece of code is left. -/
inductive ExitR (nm : Nm) (φ : Emb) : Out → Exit → Prop where
  | norm : ExitR nm φ .norm .normal
  | ret : ExitR nm φ .ret .ret
  | exit (id : Nat) : ExitR nm φ (.exit id) (.exit id)
  | pan (ch : List PE) (ch' : List PanicEntry) : ChR nm φ ch ch' → ExitR nm φ (.pan ch) (.panic ch')
theorem ExitR.mono {φ ψ : Emb} (h : φ.le ψ) {o : Out} {e : Exit} (r : ExitR nm φ o e) : ExitR nm ψ o e := by
  cases r with
  | norm => exact .norm
  | ret => exact .ret
  | exit id => exact .exit id
  | pan ch ch' k => exact .pan ch ch' (k.mono h)
/-- How a frame is left. -/
inductive ModeR (nm : Nm) (φ : Emb) : Mode → FrameMode → Prop where
  | ret : ModeR nm φ .ret .returning
  | pan (ch : List PE) (ch' : List PanicEntry) : ChR nm φ ch ch' → ModeR nm φ (.pan ch) (.panicking ch')
theorem ModeR.mono {φ ψ : Emb} (h : φ.le ψ) {m : Mode} {u : FrameMode} (r : ModeR nm φ m u) : ModeR nm ψ m u := by
  cases r with
  | ret => exact .ret
  | pan ch ch' k => exact .pan ch ch' (k.mono h)
theorem ModeR.run {m : Mode} {u : FrameMode} (r : ModeR nm φ m u) : u ≠ .run := by cases r <;> simp

def PostC (nm : Nm) (K : Kp) (base : World) (φ : Emb) (A : St) (nt : Nat) (out : Out) (fr' : Fr) (A' : St) : Exit → Act → World → Prop :=
  fun e a' w' => ∃ φ', Emb.ext A.next φ φ' ∧ A.next ≤ A'.next ∧ WR nm K base φ' A' w' ∧ FrR nm φ' nt fr' a' ∧ ExitR nm φ' out e
theorem PostC.trans {nt : Nat} {out : Out} {fr2 : Fr} {A1 A2 : St} {e : Exit} {a2 : Act} {w2 : World} {φ' : Emb} (e1 : Emb.ext A.next φ φ') (e2 : A.next ≤ A1.next) (k : PostC nm K base φ' A1 nt out fr2 A2 e a2 w2) : PostC nm K base φ A nt out fr2 A2 e a2 w2 := by
  obtain ⟨φ'', k1, k2, k3, k4, k5⟩ := k
  exact ⟨φ'', Emb.ext_trans e1 k1 e2, Nat.le_trans e2 k2, k3, k4, k5⟩
theorem PostC.of_aft {nt : Nat} {fr' : Fr} {a' : Act} {w' : World} (h : Aft nm K base φ A nt fr' A' a' w') : PostC nm K base φ A nt .norm fr' A' .normal a' w' := by
  obtain ⟨φ', h1, h2, h3, h4⟩ := h
  exact ⟨φ', h1, h2, h3, h4, .norm⟩

def CodeOK (E : Env) (P : Program) (nm : Nm) (code : Nat → Code → Fr → St → Option (Out × Fr × St)) : Prop :=
  ∀ nt c fr A out fr' A', code nt c fr A = some (out, fr', A') → ∀ (K : Kp) (base : World) (φ : Emb) (a : Act) (w : World), WR nm K base φ A w → Gl E φ → FrR nm φ nt fr a →
    c.wp P (PostC nm K base φ A nt out fr' A') a w
def LoopOK (E : Env) (P : Program) (nm : Nm) (code : Nat → Code → Fr → St → Option (Out × Fr × St)) : Prop :=
  ∀ nt b fr A out fr' A', code nt (.loop b) fr A = some (out, fr', A') → ∀ (K : Kp) (base : World) (φ : Emb) (a : Act) (w : World), WR nm K base φ A w → Gl E φ → FrR nm φ nt fr a →
    ∀ (b0 : Frame) (k : List Item) (cs : List Frame), ∃ e a' w', PostC nm K base φ A nt out fr' A' e a' w' ∧ Arrives P (lone (b0.at a (.code b :: .inLoop b :: k)) cs w) b0 k cs e a' w'

def CallDOK (E : Env) (P : Program) (nm : Nm) (call : FuncId → List Value → Mode → St → Option (Mode × St)) : Prop :=
  ∀ f args m A m' A', call f args m A = some (m', A') → ∀ (K : Kp) (base : World) (φ : Emb) (w : World) (args' : Array Value) (u : FrameMode), WR nm K base φ A w → Gl E φ → LR nm φ args args'.toList → ModeR nm φ m u →
    CallsD P f args' u w fun e u' w' => (∃ v, e = .returned v) ∧ ∃ φ', Emb.ext A.next φ φ' ∧ A.next ≤ A'.next ∧ WR nm K base φ' A' w' ∧ ModeR nm φ' m' u'

theorem settle_rel {m : Mode} {u : FrameMode} (h : ModeR nm φ m u) : ModeR nm φ (settleM m) (settle u) := by
  have drop : ∀ {l : List PE} {l' : List PanicEntry}, ChR nm φ l l' → l'.dropWhile (fun x => !x.goexit) = [] := by
    intro l l' h
    induction h with
    | nil => rfl
    | cons v v' re l l' _ _ ih => simpa using ih
  cases h with
  | ret => exact .ret
  | pan ch ch' k =>
    cases k with
    | nil => exact .pan [] [] .nil
    | cons v v' re l l' h1 h2 =>
      cases re with
      | false => exact .pan _ _ (.cons v v' false l l' h1 h2)
      | true =>
        have : settle (.panicking ({ v := v', recovered := true } :: l')) = .returning := by
          simp only [settle, drop h2]
        rw [this]
        exact .ret

/-- What was put off, when an activation is left. -/
theorem leave_ok (ok : EnvOk E P nm) {rec_ : Rec} (hcd : CallDOK E P nm rec_.callD) (hbody : ∀ g as m A r, rec_.callD g as m A = some r → ∃ fn, E.fn.get g = some fn ∧ fn.body.isSome = true) : ∀ (ms : List DI) (φ : Emb) (A A2 : St) (m m2 : Mode) (ds : List Deferred) (w : World) (fr : Frame) (cs : List Frame), leave rec_ ms m A = some (m2, A2) → WR nm K base φ A w → Gl E φ → MR nm φ ms ds → ModeR nm φ m fr.mode → fr.defers = ds →
    ∃ φ' w' u', Emb.ext A.next φ φ' ∧ A.next ≤ A2.next ∧ WR nm K base φ' A2 w' ∧ ModeR nm φ' m2 u' ∧ Steps P (lone fr cs w) (lone { fr with defers := [], mode := u' } cs w') := by
  intro ms
  induction ms with
  | nil =>
    intro φ A A2 m m2 ds w fr cs ht h hg hm hmode hd
    cases hm
    simp only [leave, Option.some.injEq, Prod.mk.injEq] at ht
    obtain ⟨rfl, rfl⟩ := ht
    refine ⟨φ, w, fr.mode, Emb.ext_refl _ _, Nat.le_refl _, h, hmode, ?_⟩
    have : ({ fr with defers := [], mode := fr.mode } : Frame) = fr := by rw [← hd]
    rw [this]; exact .refl _ _
  | cons x ms ih =>
    intro φ A A2 m m2 ds w fr cs ht h hg hm hmode hd
    cases hm with
    | cons b p ms ds hp hr =>
      unfold leave at ht
      split at ht
      · rename_i hdef
        obtain ⟨q, hq, hb, hK⟩ := h.obj b _ hdef rfl
        rw [hp] at hq; cases hq
        have hb' : w.heap[p.blk]? = some (.deferred (some [])) := hb
        have hlt := h.lt _ _ hp
        have hW : WR nm K base φ (A.setObj b .dead) (putO w p.blk (.deferred none)) :=
          h.setObj (o := .defd) (o' := .dead) hdef rfl rfl (by simp) (by simp) rfl hp trivial
        have htake : (Instr.takeDeferred p.blk).run P w = .ok [] (putO w p.blk (.deferred none)) := by
          simp [Instr.takeDeferred, run_getObj (P := P) hb' (by simp), run_setObj (P := P) hb' (by simp)]
        have hstep : step P (lone fr cs w) = .next (lone { fr with defers := ds } cs (putO w p.blk (.deferred none))) := by
          refine step_lone_go ?_
          cases hmo : fr.mode with
          | run => exact absurd hmo hmode.run
          | returning => simp [stepG, unwind, hmo, hd, Sem.runT_eq, htake, GStep.bare_after]
          | panicking chain => simp [stepG, unwind, hmo, hd, Sem.runT_eq, htake, GStep.bare_after]
        obtain ⟨φ', w', u', k0, k1, k2, k3, k4⟩ := ih φ (A.setObj b .dead) A2 m m2 ds _ { fr with defers := ds } cs ht hW hg hr hmode rfl
        exact ⟨φ', w', u', k0, k1, k2, k3, .head hstep k4⟩
      · cases ht
    | fn g cap args cap' args' ms ds h1 h2 hr =>
      unfold leave at ht
      split at ht
      · rename_i m1 A1 hcall
        obtain ⟨fn, hfn, hbd⟩ := hbody _ _ _ _ _ hcall
        have hfn' := ok.fn _ _ hfn
        have hname : fn.name ≠ "runtime.NumGoroutine" := by simpa using ok.names _ _ hfn'
        obtain ⟨c, hbd⟩ := Option.isSome_iff_exists.1 hbd
        have hinv : (invoke (.fn (.func g) cap') args').run P w = .ok (.enter g (args' ++ cap')) w := by
          show (callFunc g (args' ++ cap')).run P w = _
          simp [callFunc, hfn', hname, hbd]
        have s1 := step_defer (P := P) (cs := cs) (fv := .func g) (cap := cap') hmode.run hd rfl hinv
        obtain ⟨e, u1, w1, frX, ⟨⟨v, rfl⟩, φ1, e1, e2, e3, e4⟩, hsteps, hkX, hgo⟩ := hcd g (args ++ cap) m A m1 A1 hcall K base φ w (args' ++ cap') fr.mode h hg (by rw [Array.toList_append]; exact LR.append h2 h1) hmode { fr with defers := ds } cs rfl
        have s2 := step_going_returned (P := P) (c := { { fr with defers := ds } with mode := u1 }) (cs := cs) hkX hgo
        have hle := h.le e1
        obtain ⟨φ', w', u', k0, k1, k2, k3, k4⟩ := ih φ1 A1 A2 (settleM m1) m2 ds w1 { { { fr with defers := ds } with mode := u1 } with mode := settle u1 } cs ht e3 (hg.mono hle) (hr.mono hle) (settle_rel e4) rfl
        exact ⟨φ', w', u', Emb.ext_trans e1 k0 e2, Nat.le_trans e2 k1, k2, k3, .head s1 (Steps.trans hsteps (.head s2 k4))⟩
      · cases ht

def resM (a : Act) : ResultVar → Sem Value
  | .tmp t => pure (a.tmps.getD t undef)
  | .cell b t => do loadVar t (← asAddr (a.tmps.getD b undef))
def resE (E : Env) (A : St) (fr : Fr) : ResultVar → Option Value
  | .tmp t => some ((fr.tm.get t).getD undef)
  | .cell b t => match (fr.tm.get b).getD undef with
      | .pointer (some ad) => loadV E A t ad
      | _ => none

theorem results_list (ok : EnvOk E P nm) (h : WR nm K base φ A w) {nt : Nat} {fr : Fr} {a : Act} (hf : FrR nm φ nt fr a) : ∀ (l : List ResultVar) (vs : List Value), l.mapM (resE E A fr) = some vs →
    ∃ vs', LR nm φ vs vs' ∧ (l.mapM (resM a)).run P w = .ok vs' w := by
  intro l
  induction l with
  | nil => intro vs h; simp at h; subst h; exact ⟨[], .nil, rfl⟩
  | cons r l ih =>
    intro vs hm
    rw [List.mapM_cons] at hm
    cases h1 : resE E A fr r with
    | none => rw [h1] at hm; simp at hm
    | some v =>
      cases h2 : l.mapM (resE E A fr) with
      | none => rw [h1, h2] at hm; simp at hm
      | some us =>
        rw [h1, h2] at hm
        simp at hm
        subst hm
        obtain ⟨us', k1, k2⟩ := ih us h2
        have : ∃ v', VR nm φ v v' ∧ (resM a r).run P w = .ok v' w := by
          cases r with
          | tmp t =>
            simp only [resE, Option.some.injEq] at h1
            subst h1
            exact ⟨_, hf.tm t, rfl⟩
          | cell b t =>
            simp only [resE] at h1
            have hb := hf.tm b
            split at h1
            · rename_i ad hv
              rw [hv] at hb
              obtain ⟨p, hp, hsp, e⟩ := hb.ptr_inv
              obtain ⟨v', r1, r2⟩ := loadV_ok ok h h1 hp
              refine ⟨v', r1, ?_⟩
              simp only [resM, e, asAddr, Sem.run_bind, Sem.run_pure, Result.andThen_ok, r2]
            · cases h1
        obtain ⟨v', r1, r2⟩ := this
        refine ⟨v' :: us', .cons r1 k1, ?_⟩
        rw [List.mapM_cons]
        simp only [Sem.run_bind, r2, Result.andThen_ok, k2, Sem.run_pure]

theorem resultsOf_ok (ok : EnvOk E P nm) (h : WR nm K base φ A w) {nt : Nat} {fr : Fr} {a : Act} (hf : FrR nm φ nt fr a) {fn : Func} {v : Value} (hr : resultsOf E fn fr A = some v) :
    ∃ v', VR nm φ v v' ∧ (results fn a.tmps).run P w = .ok v' w := by
  have hres : results fn a.tmps = (do let vs ← List.toArray <$> fn.results.toList.mapM (resM a); pure (if h : vs.size = 1 then vs[0] else .tuple vs)) := by
    rw [← Array.mapM_eq_mapM_toList]
    rfl
  have hE : resultsOf E fn fr A = (match fn.results.toList.mapM (resE E A fr) with
    | some [v] => some v
    | some vs => some (.tuple vs.toArray)
    | none => none) := rfl
  rw [hE] at hr
  rw [hres]
  split at hr
  · rename_i v0 hm
    cases hr
    obtain ⟨vs', k1, k2⟩ := results_list ok h hf _ _ hm
    obtain ⟨v', m, rfl, r1, r2⟩ := k1.cons_inv
    have := r2.nil_inv
    subst this
    refine ⟨v', r1, ?_⟩
    rw [map_eq_pure_bind]
    simp only [bind_assoc, pure_bind, Sem.run_bind, k2, Result.andThen_ok, Sem.run_pure]
    rfl
  · rename_i vs hne hm
    cases hr
    obtain ⟨vs', k1, k2⟩ := results_list ok h hf _ _ hm
    have hlen := k1.length
    refine ⟨.tuple vs'.toArray, .tuple' (by simpa [AR] using k1), ?_⟩
    have h1 : ¬ vs'.toArray.size = 1 := by
      intro e
      have : vs.length = 1 := by rw [hlen]; simpa using e
      match vs, this with
      | [x], _ => exact hne x rfl
    rw [map_eq_pure_bind]
    simp only [bind_assoc, pure_bind, Sem.run_bind, k2, Result.andThen_ok, Sem.run_pure]
    rw [dif_neg h1]
  · cases hr

def baseFr (f : FuncId) : Frame := { (default : Frame) with fn := f, kind := .normal }
def endFr (f : FuncId) (a : Act) (todo : List Item) (u : FrameMode) : Frame := { (baseFr f).at a todo with mode := u }

theorem callL_ok (ok : EnvOk E P nm) {rec_ : Rec} (hcode : CodeOK E P nm rec_.code) (hcd : CallDOK E P nm rec_.callD) (hbody : ∀ g as m A r, rec_.callD g as m A = some r → ∃ fn, E.fn.get g = some fn ∧ fn.body.isSome = true) {f : FuncId} {args : List Value} {fn : Func} {fr : Fr} {m : Mode} (hx : callL E rec_ f args A = some (fn, fr, m, A')) (h : WR nm K base φ A w) (hg : Gl E φ) {args' : Array Value} (ha : LR nm φ args args'.toList) (cs : List Frame) :
    P.funcs[f]? = some fn ∧ ∃ φ' w' u', ∃ (a1 : Act) (todo : List Item), Emb.ext A.next φ φ' ∧ A.next ≤ A'.next ∧ WR nm K base φ' A' w' ∧ FrR nm φ' fn.ntmps { fr with marks := [] } { a1 with defers := [] } ∧ ModeR nm φ' m u' ∧
      Steps P (lone (Frame.enter P f args' .normal) cs w) (lone (endFr f { a1 with defers := [] } todo u') cs w') := by
  unfold callL at hx
  split at hx
  · cases hx
  rename_i fn0 hfn
  have hfn' := ok.fn _ _ hfn
  split at hx
  · cases hx
  rename_i c hbd
  split at hx
  case isFalse => cases hx
  rename_i hlen
  split at hx
  case h_2 => cases hx
  rename_i out fr1 A1 hrun
  split at hx
  case h_2 => cases hx
  rename_i m1 hm1
  split at hx
  case h_2 => cases hx
  rename_i m2 A2 hleave
  cases hx
  have hsz : args.length = args'.size := by simpa using ha.1
  have hf0 : FrR nm φ fn.ntmps { tm := T.ofList args, marks := [] } { tmps := args' ++ Array.replicate (fn.ntmps - args'.size) undef, defers := [] } := by
    refine ⟨by simp; omega, fun t => ?_, .nil⟩
    simp only [T.get_ofList]
    rcases Nat.lt_or_ge t args.length with g | g
    · have h1 := ha.2 t g
      rw [List.getElem?_eq_getElem g]
      have e2 : (args' ++ Array.replicate (fn.ntmps - args'.size) undef).getD t undef = args'.toList.getD t undef := by
        rw [getD_toList, Array.getD_eq_getD_getElem?, Array.getElem?_append_left (by omega), Array.getD_eq_getD_getElem?]
      rw [e2]
      rw [List.getD_eq_getElem?_getD, List.getElem?_eq_getElem g] at h1
      exact h1
    · rw [List.getElem?_eq_none g]
      have e2 : (args' ++ Array.replicate (fn.ntmps - args'.size) undef).getD t undef = undef := by
        rw [Array.getD_eq_getD_getElem?, Array.getElem?_append_right (by omega), Array.getElem?_replicate]
        split <;> rfl
      rw [e2]
      exact .undef
  refine ⟨hfn', ?_⟩
  let b : Frame := baseFr f
  have henter : Frame.enter P f args' .normal = b.at { tmps := args' ++ Array.replicate (fn.ntmps - args'.size) undef, defers := [] } [.code c] := by
    simp [Frame.enter, Frame.at, hfn', hbd, b, baseFr]
  obtain ⟨e, a1, w1, ⟨φ1, e1, e2, e3, e4, e5⟩, harr⟩ := hcode _ _ _ _ _ _ _ hrun K base φ _ w h hg hf0 b [] cs
  rw [← henter] at harr
  have fin : ∀ (todo : List Item) (u : FrameMode), ModeR nm φ1 m1 u → Steps P (lone (Frame.enter P f args' .normal) cs w) (lone { b.at a1 todo with mode := u } cs w1) →
      ∃ φ' w' u', ∃ (a1 : Act) (todo : List Item), Emb.ext A.next φ φ' ∧ A.next ≤ A'.next ∧ WR nm K base φ' A' w' ∧ FrR nm φ' fn.ntmps { fr with marks := [] } { a1 with defers := [] } ∧ ModeR nm φ' m u' ∧
      Steps P (lone (Frame.enter P f args' .normal) cs w) (lone (endFr f { a1 with defers := [] } todo u') cs w') := by
    intro todo u hu hs
    have hle := h.le e1
    obtain ⟨φ2, w2, u2, k0, k1, k2, k3, k4⟩ := leave_ok (P := P) ok hcd hbody fr.marks φ1 A1 A' m1 m a1.defers w1 { b.at a1 todo with mode := u } cs hleave e3 (hg.mono hle) e4.marks hu rfl
    have e4' := e4.mono (e3.le k0)
    exact ⟨φ2, w2, u2, a1, todo, Emb.ext_trans e1 k0 e2, Nat.le_trans e2 k1, k2, ⟨e4'.size, e4'.tm, .nil⟩, k3, Steps.trans hs k4⟩
  cases e5 with
  | norm =>
    cases hm1
    exact fin [] .returning .ret (Steps.trans harr (.one step_end))
  | ret =>
    cases hm1
    obtain ⟨todo, hs⟩ := harr
    exact fin todo .returning .ret hs
  | exit id => cases hm1
  | pan ch ch' k =>
    cases hm1
    obtain ⟨todo, hs⟩ := harr
    exact fin todo (.panicking ch') (.pan ch ch' k) hs

theorem callC_ok (ok : EnvOk E P nm) {rec_ : Rec} (hcode : CodeOK E P nm rec_.code) (hcd : CallDOK E P nm rec_.callD) (hbody : ∀ g as m A r, rec_.callD g as m A = some r → ∃ fn, E.fn.get g = some fn ∧ fn.body.isSome = true) : CallOK E P nm (callC E rec_) := by
  intro f args A v A' hx K base φ w args' h hg ha cs
  unfold callC at hx
  split at hx
  case h_2 => cases hx
  rename_i fn fr A2 hl
  split at hx
  case h_2 => cases hx
  rename_i v0 hres
  cases hx
  obtain ⟨hfn', φ', w', u', a1, todo, k0, k1, k2, k3, k4, k5⟩ := callL_ok ok hcode hcd hbody hl h hg ha cs
  cases k4
  obtain ⟨v', r1, r2⟩ := resultsOf_ok ok k2 k3 (fn := fn) (v := v) hres
  exact ⟨.returned v', w', _, ⟨φ', v', k0, k1, k2, r1, rfl⟩, k5, rfl, rfl, rfl, rfl, fn, hfn', r2⟩
theorem callP_ok (ok : EnvOk E P nm) {rec_ : Rec} (hcode : CodeOK E P nm rec_.code) (hcd : CallDOK E P nm rec_.callD) (hbody : ∀ g as m A r, rec_.callD g as m A = some r → ∃ fn, E.fn.get g = some fn ∧ fn.body.isSome = true) : CallPOK E P nm (callP E rec_) := by
  intro f args A ch A' hx K base φ w args' h hg ha cs
  unfold callP at hx
  split at hx
  · cases hx
  split at hx
  case h_2 => cases hx
  rename_i fn fr ch0 A2 hl
  cases hx
  obtain ⟨hfn', φ', w', u', a1, todo, k0, k1, k2, k3, k4, k5⟩ := callL_ok ok hcode hcd hbody hl h hg ha cs
  cases k4 with
  | pan _ ch' k =>
    exact ⟨.panicked ch', w', _, ⟨φ', ch', k0, k1, k2, k, rfl⟩, k5, rfl, rfl, rfl, fn, hfn'⟩

theorem callD_body {rec_ : Rec} {g : FuncId} {as : List Value} {m : Mode} {r : Mode × St} (h : callD E rec_ g as m A = some r) : ∃ fn, E.fn.get g = some fn ∧ fn.body.isSome = true := by
  unfold callD at h
  split at h
  · cases h
  · rename_i fn hfn
    split at h
    · rename_i hb
      exact ⟨fn, hfn, by rw [hb]; rfl⟩
    · cases h

theorem rec_rel {m : Mode} {c₀ : Frame} {cs : List Frame} (h : ModeR nm φ m c₀.mode) : ∃ v' u', VR nm φ (recM m).1 v' ∧ ModeR nm φ (recM m).2 u' ∧
    ((recoverD (c₀ :: cs) = none ∧ v' = .nilIface ∧ u' = c₀.mode) ∨ recoverD (c₀ :: cs) = some (v', { c₀ with mode := u' } :: cs)) := by
  generalize hu : c₀.mode = u at h
  cases h with
  | ret => exact ⟨.nilIface, .returning, .nili, .ret, .inl ⟨by simp [recoverD, hu], rfl, rfl⟩⟩
  | pan ch ch' k =>
    cases k with
    | nil => exact ⟨.nilIface, _, .nili, .pan [] [] .nil, .inl ⟨by simp [recoverD, hu], rfl, rfl⟩⟩
    | cons v v' re l l' h1 h2 =>
      cases re with
      | true => exact ⟨.nilIface, _, .nili, .pan _ _ (.cons v v' true l l' h1 h2), .inl ⟨by simp [recoverD, hu], rfl, rfl⟩⟩
      | false => exact ⟨v', _, h1, .pan _ _ (.cons v v' true l l' h1 h2), .inr (by simp [recoverD, hu])⟩

theorem callD_ok (ok : EnvOk E P nm) {rec_ : Rec} (hcode : CodeOK E P nm rec_.code) (hc : CallOK E P nm rec_.call) : CallDOK E P nm (callD E rec_) := by
  intro f args m A m' A' hx K base φ w args' u h hg ha hm
  unfold callD at hx
  split at hx
  · cases hx
  rename_i fn hfn
  have hfn' := ok.fn _ _ hfn
  split at hx
  case h_2 => cases hx
  rename_i id ops rest hbd
  split at hx
  case h_2 => cases hx
  rename_i o os hops
  split at hx
  case h_2 => cases hx
  rename_i ts ho hgd
  split at hx
  case isFalse => cases hx
  rename_i hlen
  split at hx
  case h_2 => cases hx
  rename_i fr0 hput
  split at hx
  case h_2 => cases hx
  rename_i fr A0 hopsr
  split at hx
  case h_2 => cases hx
  rename_i out fr1 A1 hrun
  split at hx
  case h_2 => cases hx
  rename_i v0 hmo hmk hres
  cases hx
  refine callsD_of_wpS hfn' hbd fun c₀ cs hc₀ => ?_
  have hsz : args.length = args'.size := by simpa using ha.1
  have hf0 : FrR nm φ fn.ntmps { tm := T.ofList args, marks := [] } { tmps := args' ++ Array.replicate (fn.ntmps - args'.size) undef, defers := [] } := by
    refine ⟨by simp; omega, fun t => ?_, .nil⟩
    simp only [T.get_ofList]
    rcases Nat.lt_or_ge t args.length with g | g
    · have h1 := ha.2 t g
      rw [List.getElem?_eq_getElem g]
      have e2 : (args' ++ Array.replicate (fn.ntmps - args'.size) undef).getD t undef = args'.toList.getD t undef := by
        rw [getD_toList, Array.getD_eq_getD_getElem?, Array.getElem?_append_left (by omega), Array.getD_eq_getD_getElem?]
      rw [e2]
      rw [List.getD_eq_getElem?_getD, List.getElem?_eq_getElem g] at h1
      exact h1
    · rw [List.getElem?_eq_none g]
      have e2 : (args' ++ Array.replicate (fn.ntmps - args'.size) undef).getD t undef = undef := by
        rw [Array.getD_eq_getD_getElem?, Array.getElem?_append_right (by omega), Array.getElem?_replicate]
        split <;> rfl
      rw [e2]
      exact .undef
  subst hc₀
  obtain ⟨v', u', r1, r2, r3⟩ := rec_rel (cs := cs) hm
  have hf1 := hf0.put r1 hput
  have rest_ok : ∀ φ0 a0 w0, Emb.ext A.next φ φ0 → A.next ≤ A0.next → WR nm K base φ0 A0 w0 → FrR nm φ0 fn.ntmps fr a0 → ∀ cs1, cs1 = { c₀ with mode := u' } :: cs → rest.wpS P (bodyPostS P fn c₀ cs fun e u' w' => (∃ v, e = .returned v) ∧ ∃ φ', Emb.ext A.next φ φ' ∧ A.next ≤ A'.next ∧ WR nm K base φ' A' w' ∧ ModeR nm φ' (recM m).2 u')
      a0 cs1 w0 := by
    intro φ0 a0 w0 k1 k2 k3 k4 cs1 hcs1
    refine wpS_of_wp (wp_mono (hcode _ _ _ _ _ _ _ hrun K base φ0 _ w0 k3 (hg.mono (h.le k1)) k4) ?_)
    rintro e a1 w1 ⟨φ1, e1, e2, e3, e4, e5⟩
    obtain ⟨v1, q1, q2⟩ := resultsOf_ok ok e3 e4 hres
    have hd : a1.defers = [] := by
      have := e4.marks
      rw [hmk] at this
      revert this
      generalize a1.defers = d
      intro this
      cases this
      rfl
    have hR : (∃ v, (Ending.returned v1) = .returned v) ∧ ∃ φ', Emb.ext A.next φ φ' ∧ A.next ≤ A'.next ∧ WR nm K base φ' A' w1 ∧ ModeR nm φ' (recM m).2 u' := ⟨⟨v1, rfl⟩, φ1, Emb.ext_trans k1 e1 k2, Nat.le_trans k2 e2, e3, r2.mono (Emb.le_trans (h.le k1) (k3.le e1))⟩
    cases e5 with
    | norm => exact ⟨hd, u', hcs1, v1, q2, hR⟩
    | ret => exact ⟨hd, u', hcs1, v1, q2, hR⟩
    | exit id => cases hmo
    | pan ch ch' k => cases hmo
  refine wpS_seq (wpS_region ?_)
  have hi : ops[0]? = some o := by
    have : ops.toList[0]? = some o := by rw [hops]; rfl
    simpa using this
  have hsize : ops.size = os.length + 1 := by
    have : ops.toList.length = os.length + 1 := by rw [hops]; rfl
    simpa using this
  have hw : Region.wanted o (yielded ops (args' ++ Array.replicate (fn.ntmps - args'.size) undef)) = true := by
    unfold Region.wanted
    rw [hgd]
  have hrec : (execOp (({ tmps := args' ++ Array.replicate (fn.ntmps - args'.size) undef, defers := [] } : Act).eval) o).run P w = .ok .recover w := by
    unfold execOp
    rw [ho]
    rfl
  have go : ∀ cs1, cs1 = { c₀ with mode := u' } :: cs → wpOpsS P ops (Exit.thenS (rest.wpS P (bodyPostS P fn c₀ cs fun e u' w' => (∃ v, e = .returned v) ∧ ∃ φ', Emb.ext A.next φ φ' ∧ A.next ≤ A'.next ∧ WR nm K base φ' A' w' ∧ ModeR nm φ' (recM m).2 u')) (bodyPostS P fn c₀ cs fun e u' w' => (∃ v, e = .returned v) ∧ ∃ φ', Emb.ext A.next φ φ' ∧ A.next ≤ A'.next ∧ WR nm K base φ' A' w' ∧ ModeR nm φ' (recM m).2 u')) (List.range' 1 os.length)
      (({ tmps := args' ++ Array.replicate (fn.ntmps - args'.size) undef, defers := [] } : Act).put o.dst v') cs1 w := by
    intro cs1 hcs1
    refine doOpsS_ok ok hc os 1 φ A w fr0 fr A0 _ (by rw [hops]; rfl) h hg hf1 (opsR_norm hopsr) ?_
    rintro a0 w0 ⟨φ0, k1, k2, k3, k4⟩
    exact rest_ok φ0 a0 w0 k1 k2 k3 k4 cs1 hcs1
  rw [show List.range ops.size = 0 :: List.range' 1 os.length by rw [hsize, List.range_eq_range', List.range'_succ]]
  simp only [wpOpsS, hi, hw, if_true, hrec]
  rcases r3 with ⟨q1, q2, q3⟩ | q1
  · rw [q1]
    subst q2
    exact go _ (by rw [q3])
  · rw [q1]
    exact go _ rfl

theorem callB_ok (ok : EnvOk E P nm) {rec_ : Rec} (hcode : CodeOK E P nm rec_.code) (hcd : CallDOK E P nm rec_.callD) (hbody : ∀ g as m A r, rec_.callD g as m A = some r → ∃ fn, E.fn.get g = some fn ∧ fn.body.isSome = true) : CallOK E P nm (callB E rec_) := by
  intro f args A v A' hx K base φ w args' h hg ha
  unfold callB at hx
  split at hx
  · rename_i k hk
    split at hx
    · rename_i hl
      cases hx
      exact known_ok ok hk hl h hg ha
    · cases hx
  · exact callC_ok ok hcode hcd hbody f args A v A' hx K base φ w args' h hg ha

theorem codeRange_ok (ok : EnvOk E P nm) {rec_ : Rec} (hc : CallOK E P nm rec_.call) {nt : Nat} {f : Operand} {ps : Array Tmp} {assign body : Code} {fr fr' : Fr} {out : Out}
    (hx : codeRange E rec_ f fr A = some (out, fr', A')) (h : WR nm K base φ A w) (hg : Gl E φ) {a : Act} (hf : FrR nm φ nt fr a) :
    (Code.rangeFunc f ps assign body).wp P (PostC nm K base φ A nt out fr' A') a w := by
  unfold codeRange at hx
  simp only [] at hx
  split at hx
  case isFalse => cases hx
  rename_i hlit
  split at hx
  · cases hx
  rename_i d hd
  split at hx
  case h_2 => cases hx
  rename_i g args A2 hinv
  split at hx
  case h_2 => cases hx
  rename_i v3 A3 hcall
  split at hx
  case h_2 => cases hx
  rename_i hloop
  cases hx
  intro b k cs
  -- the two new blocks
  let L : Loop := { state := .ready, pending := none, fn := b.fn, tmps := a.tmps, params := ps, assign, body, defers := w.heap.size }
  let p1 : Pl := plNew w 0
  let w1 := w.alloc (.deferred (some []))
  let A1 : St := { A with next := A.next + 1, h := A.h.set A.next .defd }
  have hn1 := h.dom A.next (Nat.le_refl _)
  have hW1 : WR nm K base (φ.upd A.next p1) A1 w1 := h.new A.next p1 .defd _ (A.next + 1) hn1 (Nat.le_succ _) (Nat.lt_succ_self _) rfl (by show (w.heap.push _)[w.heap.size]? = _; simp) rfl
  have hle1 : φ.le (φ.upd A.next p1) := Emb.upd_le p1 hn1
  let p2 : Pl := plNew w1 0
  let w2 := w1.alloc (.loop L)
  let A1' : St := { A with next := A.next + 2, h := (A.h.set A.next .defd).set (A.next + 1) (.loop { state := .ready, pending := none }) }
  have hn2 := hW1.dom (A.next + 1) (Nat.le_refl _)
  have hW2 : WR nm K base ((φ.upd A.next p1).upd (A.next + 1) p2) A1' w2 := hW1.new (A.next + 1) p2 (.loop { state := .ready, pending := none }) _ (A.next + 2) hn2 (Nat.le_succ _) (Nat.lt_succ_self _) rfl
    ⟨L, by show (w1.heap.push _)[w1.heap.size]? = _; simp, ⟨rfl, rfl⟩⟩ rfl
  have hle2 : (φ.upd A.next p1).le ((φ.upd A.next p1).upd (A.next + 1) p2) := Emb.upd_le p2 hn2
  generalize hφ2 : (φ.upd A.next p1).upd (A.next + 1) p2 = φ2 at hW2 hle2
  have hle : φ.le φ2 := Emb.le_trans hle1 hle2
  have hm2 : φ2 A.next = some p1 := hle2 _ _ (Emb.upd_same _ _ _)
  have hl2 : φ2 (A.next + 1) = some p2 := by rw [← hφ2]; exact Emb.upd_same _ _ _
  have hext : Emb.ext A.next φ φ2 := by
    intro c hcn
    rw [← hφ2, Emb.upd_other _ _ (by omega), Emb.upd_other _ _ (by omega)]
  have hf2 := hf.mono hle
  have hg2 := hg.mono hle
  have henterL : (Instr.enterLoop b.fn a.tmps ps assign body none).run P w = .ok (w1.heap.size, [{ target := .collected w.heap.size, args := #[] }]) w2 := by
    simp only [Instr.enterLoop, Sem.run_bind, run_newO, Sem.run_pure, Result.andThen_ok]
    rfl
  -- what is called
  have hres : ∃ d', DR nm φ2 d d' ∧ ∀ w : World, (resolve a.eval (rangeCall f w1.heap.size) 0).run P w = .ok d' w := by
    have hyield : VR nm φ2 (.func (.yield (A.next + 1)) #[] #[]) (.func (.yield w1.heap.size) #[] #[]) := .func' (.yield _ _ p2 hl2 rfl) .nil .nil
    have hargs : AR nm φ2 #[Value.func (.yield (A.next + 1)) #[] #[]] #[Value.func (.yield w1.heap.size) #[] #[]] := .cons hyield .nil
    have hr := evalO_rel hf2 hg2 f hlit
    unfold resolveT at hd
    simp only [] at hd
    split at hd
    · rename_i fn first cap hv
      cases hd
      rw [hv] at hr
      obtain ⟨f', a', b', e, h1, h2, h3⟩ := hr.func_inv
      refine ⟨_, ⟨.fn _ _ _ _ h1 h3, ?_⟩, fun w => by simp only [resolve, e]; rfl⟩
      simpa [AR, evalO, Act.eval] using LR.append h2 hargs
    · rename_i hv
      cases hd
      rw [hv] at hr
      have e : a.eval f = .nilFunc := hr.nilf_inv
      have hargs' : AR nm φ2 (Array.map (evalO fr) #[.const (.func (.yield (A.next + 1)) #[] #[])]) (Array.map a.eval #[.const (.func (.yield w1.heap.size) #[] #[])]) := by simpa [evalO, Act.eval] using hargs
      exact ⟨_, ⟨.nil, hargs'⟩, fun w => by simp only [resolve, e, Deferred.ofValue]; rfl⟩
    · cases hd
  obtain ⟨d', hdr, hres⟩ := hres
  obtain ⟨φ3, w3, g1, g2, g3, args', g4, g5, _⟩ := invokeT_ok ok hW2 hdr.target hdr.args hinv
  have hle3 := hW2.le g1
  obtain ⟨e, w4, fr4, ⟨φ4, v4, k1, k2, k3, k4, rfl⟩, hsteps, hfn, hleave⟩ := hc g args A2 v3 A3 hcall K base φ3 w3 args' g3 (hg2.mono hle3) g4 (b.at { a with defers := [{ target := .collected w.heap.size, args := #[] }] ++ a.defers } (.inRangeFunc w1.heap.size :: k) :: cs)
  have hle4 := g3.le k1
  obtain ⟨q, hq, ⟨L4, hL, hLR⟩, _⟩ := k3.obj (A.next + 1) _ hloop rfl
  have hl4 : φ4 (A.next + 1) = some p2 := hle4 _ _ (hle3 _ _ hl2)
  rw [hl4] at hq; cases hq
  have hend : (Instr.endLoop w1.heap.size).run P w4 = .ok none (putO w4 p2.blk (.loop { L4 with state := .exhausted })) := by
    have hL' : w4.heap[w1.heap.size]? = some (.loop L4) := hL
    have hst : L4.state = .ready := hLR.state
    have hpd : L4.pending = none := hLR.pending
    simp only [Instr.endLoop, Instr.getLoop, Sem.run_bind, run_getObj (P := P) hL' (by simp), Sem.run_pure, Result.andThen_ok, hst]
    rw [if_neg (by decide)]
    simp only [Sem.run_bind, run_setObj (P := P) hL' (by simp), Result.andThen_ok, Sem.run_pure, hpd]
    rfl
  have hlt := k3.lt _ _ hl4
  have hW5 : WR nm K base φ4 (A3.setObj (A.next + 1) (.loop { state := .exhausted, pending := none })) (putO w4 p2.blk (.loop { L4 with state := .exhausted })) :=
    k3.setObj (o := .loop _) (o' := .loop _) hloop rfl rfl (by simp) (by simp) rfl hl4 ⟨_, putO_same w4 _ hlt, ⟨rfl, hLR.pending⟩⟩
  have hall := Emb.le_trans hle3 hle4
  have s1 : step P (lone (b.at a (.code (.rangeFunc f ps assign body) :: k)) cs w) = .next (lone (Frame.enter P g args' .normal) (b.at { a with defers := [{ target := .collected w.heap.size, args := #[] }] ++ a.defers } (.inRangeFunc w1.heap.size :: k) :: cs) w3) :=
    stepR_rangeFunc (P := P) (b := { b with roundOf := none }) (a := a) (k := k) (cs := cs) (w := w) henterL (hres w2) g5
  have s2 := step_leave_returned (c := b.at { a with defers := [{ target := .collected w.heap.size, args := #[] }] ++ a.defers } (.inRangeFunc w1.heap.size :: k)) (cs := cs) hleave
  have s3 : step P (lone (b.at { a with defers := [{ target := .collected w.heap.size, args := #[] }] ++ a.defers } (.endRangeFunc w1.heap.size :: k)) cs w4) =
      .next (lone (b.at { a with defers := [{ target := .collected w.heap.size, args := #[] }] ++ a.defers } k) cs (putO w4 p2.blk (.loop { L4 with state := .exhausted }))) :=
    stepR_endRangeFunc (P := P) (b := { b with roundOf := none }) (k := k) (cs := cs) hend
  have hfin : (b.at { a with defers := [{ target := .collected w.heap.size, args := #[] }] ++ a.defers } (.inRangeFunc w1.heap.size :: k)).finish v4 = b.at { a with defers := [{ target := .collected w.heap.size, args := #[] }] ++ a.defers } (.endRangeFunc w1.heap.size :: k) :=
    finish_atR_inRangeFunc (b := { b with roundOf := none }) w1.heap.size v4
  rw [hfin] at s2
  refine ⟨.normal, { a with defers := [{ target := .collected w.heap.size, args := #[] }] ++ a.defers }, _, ⟨φ4, ?_, ?_, hW5, ?_, .norm⟩, Steps.head s1 (Steps.trans hsteps (.head s2 (.one s3)))⟩
  · exact Emb.ext_trans hext (Emb.ext_trans g1 k1 g2) (Nat.le_add_right _ _)
  · exact Nat.le_trans (Nat.le_add_right A.next 2) (Nat.le_trans g2 k2)
  · exact ⟨hf.size, fun t => ((hf2.tm t).mono hall), .cons _ p1 _ _ (hall _ _ hm2) ((hf2.marks).mono hall)⟩

theorem codeB_ok (ok : EnvOk E P nm) {rec_ : Rec} (hcode : CodeOK E P nm rec_.code) (hloop : LoopOK E P nm rec_.code) (hc : CallOK E P nm rec_.call) (hcp : CallPOK E P nm rec_.callP) : CodeOK E P nm (codeB E rec_) ∧ LoopOK E P nm (codeB E rec_) := by
  have loopY : LoopOK E P nm (codeB E rec_) := by
    intro nt b fr A out fr' A' hx K base φ a w h hg hf b0 k cs
    unfold codeB at hx
    simp only [] at hx
    split at hx
    · rename_i fr1 A1 hb
      obtain ⟨e, a1, w1, ⟨φ', e1, e2, e3, e4, e5⟩, harr⟩ := hcode _ _ _ _ _ _ _ hb K base φ a w h hg hf b0 (.inLoop b :: k) cs
      cases e5
      obtain ⟨e', a2, w2, hA, harr2⟩ := hloop _ _ _ _ _ _ _ hx K base φ' a1 w1 e3 (hg.mono (h.le e1)) e4 b0 k cs
      exact ⟨e', a2, w2, hA.trans e1 e2, .of_steps (Steps.trans harr (.one step_inLoop)) harr2⟩
    · rename_i hne
      obtain ⟨e, a1, w1, ⟨φ', e1, e2, e3, e4, e5⟩, harr⟩ := hcode _ _ _ _ _ _ _ hx K base φ a w h hg hf b0 (.inLoop b :: k) cs
      have hout : out ≠ .norm := by
        rintro rfl
        exact hne _ _ hx
      refine ⟨e, a1, w1, ⟨φ', e1, e2, e3, e4, e5⟩, .pass (x := .inLoop b) rfl (fun _ _ => .inl ?_) harr⟩
      cases e5 with
      | norm => exact absurd rfl hout
      | ret => simp
      | exit id => simp
      | pan ch ch' k => simp
  refine ⟨?_, loopY⟩
  intro nt c fr A out fr' A' hx K base φ a w h hg hf
  cases c with
  | skip =>
    simp only [codeB, Option.some.injEq, Prod.mk.injEq] at hx
    obtain ⟨rfl, rfl, rfl⟩ := hx
    exact wp_skip ⟨φ, Emb.ext_refl _ _, Nat.le_refl _, h, hf, .norm⟩
  | label l =>
    simp only [codeB, Option.some.injEq, Prod.mk.injEq] at hx
    obtain ⟨rfl, rfl, rfl⟩ := hx
    exact wp_label ⟨φ, Emb.ext_refl _ _, Nat.le_refl _, h, hf, .norm⟩
  | exit id =>
    simp only [codeB, Option.some.injEq, Prod.mk.injEq] at hx
    obtain ⟨rfl, rfl, rfl⟩ := hx
    exact wp_exit ⟨φ, Emb.ext_refl _ _, Nat.le_refl _, h, hf, .exit id⟩
  | ret =>
    simp only [codeB, Option.some.injEq, Prod.mk.injEq] at hx
    obtain ⟨rfl, rfl, rfl⟩ := hx
    exact wp_ret ⟨φ, Emb.ext_refl _ _, Nat.le_refl _, h, hf, .ret⟩
  | seq x y =>
    simp only [codeB] at hx
    refine wp_seq ?_
    split at hx
    · rename_i fr1 A1 hb
      refine wp_mono (hcode _ _ _ _ _ _ _ hb K base φ a w h hg hf) ?_
      rintro e a1 w1 ⟨φ', e1, e2, e3, e4, e5⟩
      cases e5
      refine wp_mono (hcode _ _ _ _ _ _ _ hx K base φ' a1 w1 e3 (hg.mono (h.le e1)) e4) ?_
      rintro e a2 w2 hA
      exact hA.trans e1 e2
    · rename_i hne
      refine wp_mono (hcode _ _ _ _ _ _ _ hx K base φ a w h hg hf) ?_
      rintro e a1 w1 ⟨φ', e1, e2, e3, e4, e5⟩
      cases e5 with
      | norm => exact absurd hx (hne _ _)
      | ret => exact ⟨φ', e1, e2, e3, e4, .ret⟩
      | exit id => exact ⟨φ', e1, e2, e3, e4, .exit id⟩
      | pan ch ch' k => exact ⟨φ', e1, e2, e3, e4, .pan ch ch' k⟩
  | cond x t e =>
    simp only [codeB] at hx
    have hb : ∀ v : Bool, evalO fr x = .bool v → a.eval x = .bool v := by
      intro v hv
      cases x with
      | tmp t =>
        have := hf.tm t
        have e1 : evalO fr (.tmp t) = (fr.tm.get t).getD undef := rfl
        rw [← e1, hv] at this
        exact this.bool_inv
      | const c => exact hv
      | global g => exact hv
      | func g => exact hv
    split at hx
    · rename_i hv
      exact wp_cond_true (hb _ hv) (hcode _ _ _ _ _ _ _ hx K base φ a w h hg hf)
    · rename_i hv
      exact wp_cond_false (hb _ hv) (hcode _ _ _ _ _ _ _ hx K base φ a w h hg hf)
    · cases hx
  | block id b =>
    simp only [codeB] at hx
    refine wp_block ?_
    split at hx
    · rename_i id' fr1 A1 hb
      cases hx
      refine wp_mono (hcode _ _ _ _ _ _ _ hb K base φ a w h hg hf) ?_
      rintro e a1 w1 ⟨φ', e1, e2, e3, e4, e5⟩
      cases e5
      show if id' = id then _ else _
      by_cases hid : id' = id
      · rw [if_pos hid]
        refine ⟨φ', e1, e2, e3, e4, ?_⟩
        rw [if_pos hid]; exact .norm
      · rw [if_neg hid]
        refine ⟨φ', e1, e2, e3, e4, ?_⟩
        rw [if_neg hid]; exact .exit id'
    · rename_i hne
      refine wp_mono (hcode _ _ _ _ _ _ _ hx K base φ a w h hg hf) ?_
      rintro e a1 w1 ⟨φ', e1, e2, e3, e4, e5⟩
      cases e5 with
      | norm => exact ⟨φ', e1, e2, e3, e4, .norm⟩
      | ret => exact ⟨φ', e1, e2, e3, e4, .ret⟩
      | exit id' => exact absurd hx (hne _ _ _)
      | pan ch ch' k => exact ⟨φ', e1, e2, e3, e4, .pan ch ch' k⟩
  | loop b =>
    intro b0 k cs
    obtain ⟨e, a1, w1, hp, harr⟩ := loopY nt b fr A out fr' A' hx K base φ a w h hg hf b0 k cs
    exact ⟨e, a1, w1, hp, .of_steps (.one step_loop) harr⟩
  | scope b =>
    simp only [codeB] at hx
    refine wp_scope_straight ?_
    refine wp_mono (hcode _ _ _ _ _ _ _ hx K base φ a w h hg hf) ?_
    rintro e a1 w1 ⟨φ', e1, e2, e3, e4, e5⟩
    cases e5 with
    | norm => exact ⟨φ', e1, e2, e3, e4, .norm⟩
    | ret => exact ⟨φ', e1, e2, e3, e4, .ret⟩
    | exit id => exact ⟨φ', e1, e2, e3, e4, .exit id⟩
    | pan ch ch' k => exact ⟨φ', e1, e2, e3, e4, .pan ch ch' k⟩
  | region id ops draw =>
    simp only [codeB] at hx
    cases draw with
    | true =>
      simp only [if_true] at hx
      split at hx
      · rename_i fr1 A1 hd
        cases hx
        exact drawRegion_ok ok hc h hg hf hd fun a1 w1 hA => PostC.of_aft hA
      · cases hx
    | false =>
      simp only [Bool.false_eq_true, if_false] at hx
      rcases opsR_out hx with rfl | ⟨ch, rfl, hd⟩
      · have hd := opsR_norm hx
        refine wp_region ?_
        have := doOps_ok (Q := PostC nm K base φ A nt .norm fr' A') ok hc ops.toList 0 φ A w fr fr' A' a (by simp) h hg hf hd fun a1 w1 hA => PostC.of_aft hA
        rw [List.range_eq_range']
        simpa using this
      · refine wp_region ?_
        have := doOpsP_ok (Q := PostC nm K base φ A nt (.pan ch) fr' A') ok hc hcp ops.toList 0 φ A w fr fr' A' a (by simp) h hg hf hd fun φ' ch' a1 w1 k1 k2 k3 k4 k5 => ⟨φ', k1, k2, k3, k4, .pan ch ch' k5⟩
        rw [List.range_eq_range']
        simpa using this
  | rangeFunc f ps assign body =>
    simp only [codeB] at hx
    exact codeRange_ok ok hc hx h hg hf
  | _ => simp [codeB] at hx

structure BigOK (E : Env) (P : Program) (nm : Nm) (r : Rec) : Prop where
  code : CodeOK E P nm r.code
  loop : LoopOK E P nm r.code
  call : CallOK E P nm r.call
  callP : CallPOK E P nm r.callP
  callD : CallDOK E P nm r.callD
  body : ∀ g as m A x, r.callD g as m A = some x → ∃ fn, E.fn.get g = some fn ∧ fn.body.isSome = true
theorem big_all (ok : EnvOk E P nm) : ∀ n, BigOK E P nm (big E n)
  | 0 => { code := fun nt c fr A out fr' A' hx => by simp [big] at hx, loop := fun nt c fr A out fr' A' hx => by simp [big] at hx, call := fun f args A v A' hx => by simp [big, Rec.call] at hx, callP := fun f args A v A' hx => by simp [big, Rec.callP] at hx, callD := fun f args m A m' A' hx => by simp [big] at hx, body := fun g as m A x hx => by simp [big] at hx }
  | n + 1 => by
    have ih := big_all ok n
    obtain ⟨g1, g2⟩ := codeB_ok ok ih.code ih.loop ih.call ih.callP
    exact { code := g1, loop := g2, call := fun f args A v A' hx => callB_ok ok ih.code ih.callD ih.body f args A v A' (by rw [← hx]; exact recCall_of.symm), callP := fun f args A v A' hx => callP_ok ok ih.code ih.callD ih.body f args A v A' (by rw [← hx]; exact recCallP_of.symm), callD := callD_ok ok ih.code ih.call, body := fun g as m A x hx => callD_body hx }
theorem big_ok (ok : EnvOk E P nm) (n : Nat) : CodeOK E P nm (big E n).code ∧ LoopOK E P nm (big E n).code ∧ CallOK E P nm (big E n).call :=
  ⟨(big_all ok n).code, (big_all ok n).loop, (big_all ok n).call⟩
end
end Go.AM

namespace Go.AM
section
variable {E : Env} {P : Program} {nm : Nm}

def gRowObj (r : GRow) : AObj := .row { own := false, size := r.cells.length, cells := T.ofList r.cells, elem := r.elem, esz := 0, opn := false, grp := r.g, frz := 0, sb := false }
/-- The first state: the rows of the globals that are looked at. -/
def startSt (n : Nat) (rows : List GRow) : St := { next := n, h := rows.foldl (fun h r => h.set r.g (gRowObj r)) T.nil, g := T.nil }

theorem get_start (rows : List GRow) : ∀ (h : T AObj) (b : Nat) (o : AObj), (rows.foldl (fun h r => h.set r.g (gRowObj r)) h).get b = some o → h.get b = some o ∨ ∃ r, r ∈ rows ∧ r.g = b ∧ o = gRowObj r := by
  induction rows with
  | nil => intro h b o hb; exact .inl hb
  | cons r rows ih =>
    intro h b o hb
    rcases ih _ b o hb with g | ⟨r', g1, g2⟩
    · by_cases e : b = r.g
      · subst e
        rw [T.get_set_same] at g
        cases g
        exact .inr ⟨r, by simp, rfl, rfl⟩
      · rw [T.get_set_other _ _ e] at g
        exact .inl g
    · exact .inr ⟨r', by simp [g1], g2⟩

theorem nil_get {α : Type} (b : Nat) : (T.nil : T α).get b = none := by
  have := T.get_ofList ([] : List α) b
  simpa [T.ofList, T.setL] using this

/-- The globals' places. -/
def glPl (w : World) (n : Nat) : Emb := fun b => if b < n then some { blk := b, off := 0, csz := (match w.heap[b]? with | some (.cells c _ _) => c.size | _ => 0), esz := 0, opn := false } else none

theorem start_ok {n : Nat} {rows : List GRow} {w : World} (hn : n ≤ w.heap.size)
    (hrows : ∀ r, r ∈ rows → r.g < n ∧ ∃ fz, w.heap[r.g]? = some (.cells r.cells.toArray r.elem fz)) (hplain : ∀ r, r ∈ rows → ∀ v, v ∈ r.cells → VR nm (glPl w n) v v) :
    WR nm (fun b => w.heap[b]?) w (glPl w n) (startSt n rows) w := by
  have hφ : ∀ b p, glPl w n b = some p → b < n ∧ p.blk = b ∧ p.off = 0 := by
    intro b p hb
    unfold glPl at hb
    split at hb
    · cases hb; exact ⟨by assumption, rfl, rfl⟩
    · cases hb
  have hget : ∀ b o, (startSt n rows).h.get b = some o → ∃ r, r ∈ rows ∧ r.g = b ∧ o = gRowObj r := by
    intro b o hb
    rcases get_start rows T.nil b o hb with g | g
    · rw [nil_get] at g; cases g
    · exact g
  refine { dom := ?_, lt := ?_, obj := ?_, key := fun b o h => h, sep := ?_, tip := ?_, grp := ?_, env := ⟨rfl, rfl, rfl⟩, size := Nat.le_refl _, old := ?_ }
  · intro b hb
    have hb' : n ≤ b := hb
    unfold glPl
    rw [if_neg (by omega)]
  · intro b p hb
    obtain ⟨h1, h2, _⟩ := hφ b p hb
    omega
  · intro b o hb hl
    obtain ⟨r, h1, rfl, rfl⟩ := hget b o hb
    obtain ⟨h2, fz, h3⟩ := hrows r h1
    refine ⟨_, by unfold glPl; rw [if_pos h2], ?_, ?_⟩
    · refine ⟨r.cells.toArray, fz, { blk := h3, csz := ?_, opn := rfl, esz := fun h => (by cases h), fit := ?_, cell := ?_, frz := fun h => (by cases h), sb := fun h => (by cases h), exact := fun _ => ⟨rfl, by simp⟩ }⟩
      · simp [h3]
      · simp
      · intro i hi
        have hi' : i < r.cells.length := hi
        refine ⟨r.cells[i], (T.get_ofList _ _).trans (List.getElem?_eq_getElem hi'), ?_⟩
        have : r.cells.toArray.getD (0 + i) undef = r.cells[i] := by
          rw [Nat.zero_add, Array.getD_eq_getD_getElem?]
          simp [hi']
        rw [this]
        exact hplain r h1 _ (List.getElem_mem hi')
    · show (w.heap[r.g]?).isNone = false
      rw [h3]; rfl
  · intro b c o u p q hbc hb hc lo lu oo
    obtain ⟨r, _, _, rfl⟩ := hget b o hb
    cases oo
  · intro g m ms hg
    rw [show (startSt n rows).g = T.nil from rfl, nil_get] at hg
    cases hg
  · intro g ms hg
    rw [show (startSt n rows).g = T.nil from rfl, nil_get] at hg
    cases hg
  · intro b o p hb hl ho hp
    obtain ⟨h1, h2, _⟩ := hφ b p hp
    omega

theorem keptBut_of_key {K : Kp} {φ : Emb} {A' : St} {w w' : World} (hK : K = fun b => w.heap[b]?) (h : WR nm K w φ A' w') : w.keptBut w' (fun _ => False) := by
  subst hK
  refine ⟨h.env.2.1, h.env.2.2, fun i hi => ?_⟩
  have hw : w.heap[i]? = some w.heap[i] := Array.getElem?_eq_getElem hi
  have hw' := h.key i _ hw
  rw [hw, hw']
  cases w.heap[i] <;> simp

/-- A function without arguments that the evaluator says answers 'v'. -/
theorem calls_closed (ok : EnvOk E P nm) {f : FuncId} {n fuel : Nat} {rows : List GRow} {v : Value} {A' : St} (hrun : (big E fuel).call f [] (startSt n rows) = some (v, A')) (hv : plainV v = true) {w : World} (hng : E.ng ≤ n) (hn : n ≤ w.heap.size)
    (hrows : ∀ r, r ∈ rows → r.g < n ∧ ∃ fz, w.heap[r.g]? = some (.cells r.cells.toArray r.elem fz)) (hplain : ∀ r, r ∈ rows → ∀ v, v ∈ r.cells → plainV v = true) :
    Calls P f #[] w fun e w' => e = .returned v ∧ w.keptBut w' (fun _ => False) ∧ w'.tape = w.tape := by
  have h := start_ok (nm := nm) hn hrows (fun r hr v hv => .of_plainV (hplain r hr v hv))
  have hg : Gl E (glPl w n) := fun g hgl => ⟨_, by unfold glPl; rw [if_pos (by omega)], rfl, rfl⟩
  refine Calls.mono ((big_ok ok fuel).2.2 f [] _ v A' hrun _ w _ w #[] h hg .nil) ?_
  rintro e w' ⟨φ', v', _, _, h', hv', rfl⟩
  rw [hv'.plainV_eq hv]
  exact ⟨rfl, keptBut_of_key rfl h', h'.env.1⟩

/-- What of a program is asked. -/
def extNames : List String := ["internal/bytealg.IndexByteString", "internal/bytealg.IndexByte", "internal/abi.NoEscape", "internal/bytealg.abigen_runtime_cmpstring", "internal/bytealg.CountString"]
theorem gen_none : extNames.all (fun n => (Extern.allGenericRows.lookup n).isNone && (Extern.allTypedRows.lookup n).isNone && (Extern.allNextRows.lookup n).isNone) = true := by kernel_rfl
theorem row_index1 : Extern.allRows.lookup "internal/bytealg.IndexByteString" = some Extern.BytealgIndexByte.indexByte := by kernel_rfl
theorem row_index2 : Extern.allRows.lookup "internal/bytealg.IndexByte" = some Extern.BytealgIndexByte.indexByte := by kernel_rfl
theorem row_same : Extern.allRows.lookup "internal/abi.NoEscape" = some Extern.AbiNoEscape.same := by kernel_rfl
theorem row_cmp : Extern.allRows.lookup "internal/bytealg.abigen_runtime_cmpstring" = some Extern.BytealgCompare.compare := by kernel_rfl
theorem row_count : Extern.allRows.lookup "internal/bytealg.CountString" = some Extern.BytealgCount.count := by kernel_rfl

theorem rows_at : ∀ n, n ∈ extNames → Extern.allRows.lookup n = some (rowOf n) := by
  intro n hn
  simp only [extNames, List.mem_cons, List.mem_nil_iff, or_false] at hn
  rcases hn with rfl | rfl | rfl | rfl | rfl
  · rw [row_index1]; rfl
  · rw [row_index2]; rfl
  · rw [row_same]; rfl
  · rw [row_cmp]; rfl
  · rw [row_count]; rfl

theorem ext_ok (P : Program) (h : P.funcs.all (fun g => !(extNames.contains g.name) || (Extern.allNextRows.lookup g.origin).isNone) = true) :
    ∀ (f : Nat) (g : Func), P.funcs[f]? = some g → g.body = none → g.name ∈ extNames → Extern.findNext g = none ∧ Extern.find g = some (rowOf g.name) := by
  intro f g hf _ hn
  have h1 := List.all_eq_true.1 gen_none g.name hn
  simp only [Bool.and_eq_true, Option.isNone_iff_eq_none] at h1
  obtain ⟨⟨e1, e2⟩, e3⟩ := h1
  have h2 := Array.all_eq_true_iff_forall_mem.1 h g (Array.mem_of_getElem? hf)
  have h3 : (Extern.allNextRows.lookup g.origin) = none := by
    have hc : extNames.contains g.name = true := List.contains_iff_mem.2 hn
    rw [hc] at h2
    simpa using h2
  refine ⟨?_, ?_⟩
  · unfold Extern.findNext
    simp only [e3, h3]
    rfl
  · unfold Extern.find
    simp only [e1, e2, rows_at _ hn]
    rfl

theorem envOk (P : Program) (sl : List (List UInt8)) (hsl : ∀ l, sl.contains l = true → nm.data.toList ≠ l) (hnames : P.funcs.all (fun g => !(g.name == "runtime.NumGoroutine")) = true) (hmix : P.follows .mixedOrders = true)
    (hext : ∀ (f : Nat) (g : Func), P.funcs[f]? = some g → g.body = none → g.name ∈ extNames → Extern.findNext g = none ∧ Extern.find g = some (rowOf g.name)) : EnvOk (mkEnv P sl) P nm where
  prog := rfl
  inf := by
    intro t i h
    have : (T.ofList P.types.toList).get t = some i := h
    rw [T.get_ofList] at this
    have h2 : P.types[t]? = some i := by simpa using this
    have hlt := (Array.getElem?_eq_some_iff.1 h2).1
    unfold Tables.info?
    rw [if_pos hlt]
    exact h2
  fn := by
    intro f g h
    have : (T.ofList P.funcs.toList).get f = some g := h
    rw [T.get_ofList] at this
    simpa using this
  sl := hsl
  names := by
    intro f g h
    have := Array.all_eq_true_iff_forall_mem.1 hnames g (Array.mem_of_getElem? h)
    simpa using this
  mix := hmix
  known := fun k hk => by cases hk
  ext := fun f g h1 h2 h3 => hext f g h1 h2 (by simpa [extNames, or_assoc] using h3)
/-- How many globals are looked at is free. -/
theorem EnvOk.ng (ok : EnvOk E P nm) (n : Nat) : EnvOk { E with ng := n } P nm :=
  { prog := ok.prog, inf := ok.inf, fn := ok.fn, sl := ok.sl, names := ok.names, mix := ok.mix, known := ok.known, ext := ok.ext }
/-- Calls that are known. -/
theorem EnvOk.knows (ok : EnvOk E P nm) (ks : List Known) (h : ∀ k, k ∈ ks → KnownOk P nm k) : EnvOk { E with known := ks } P nm :=
  { prog := ok.prog, inf := ok.inf, fn := ok.fn, sl := ok.sl, names := ok.names, mix := ok.mix, known := h, ext := ok.ext }

/-- Does a row of a state stand as a known call's row says? -/
def rowStands (A : St) (r : KRow) : Bool := match A.h.get r.b with
  | some (.row x) => x.own && Nat.beq x.size r.cells.length && (match x.cells.range 0 x.size with
    | some vs => (vs.length == r.cells.length) && (vs.zip r.cells).all fun p => veq 40 p.1 p.2
    | none => false) && Nat.beq x.elem r.elem && Nat.beq x.esz r.esz && (x.opn == r.opn) && Nat.beq x.frz r.frz && (x.sb == r.sb)
  | _ => false
def distinct (A : St) : List KRow → Bool
  | [] => true
  | r :: l => l.all (fun s => match A.h.get r.b, A.h.get s.b with
    | some (.row x), some (.row y) => !Nat.beq x.grp y.grp
    | _, _ => false) && distinct A l
/-- What the evaluator's answer has to be, that a call is known. -/
def knownRun (k : Known) (r : Option (Value × St)) : Bool := match r with
  | some (v, A) => veq 40 v k.v && Nat.ble A.next k.cnt && k.objs.all (rowStands A) && distinct A k.objs && shallow 8 k.v && (k.objs.all fun r => r.cells.all (shallow 8)) && k.args.all plainV && k.looks.all (fun r => r.cells.all plainV)
  | none => false
/-- One more than the greatest number. -/
def topOf : List GRow → Nat
  | [] => 0
  | r :: l => max (r.g + 1) (topOf l)
theorem topOf_le {r : GRow} : ∀ {l : List GRow}, r ∈ l → r.g < topOf l
  | x :: l, h => by
    rcases List.mem_cons.1 h with rfl | h
    · simp only [topOf]; omega
    · have := topOf_le h
      simp only [topOf]; omega
theorem topOf_has : ∀ {l : List GRow}, l = [] ∨ ∃ r, r ∈ l ∧ topOf l = r.g + 1
  | [] => .inl rfl
  | x :: l => by
    right
    rcases topOf_has (l := l) with rfl | ⟨r, h1, h2⟩
    · exact ⟨x, by simp, by simp [topOf]⟩
    · by_cases hc : x.g + 1 ≤ r.g + 1
      · exact ⟨r, by simp [h1], by simp only [topOf]; omega⟩
      · exact ⟨x, by simp, by simp only [topOf]; omega⟩

/-- The rows, of whatever types. -/
def withEl (f : Nat → TypeId) (l : List GRow) : List GRow := l.map fun r => { r with elem := f r.g }
theorem known_of_run (ok : EnvOk E P nm) {k : Known} {fuel : Nat} (hng : E.ng ≤ topOf k.looks) (h : ∀ f, knownRun k ((big E fuel).call k.f k.args (startSt (topOf k.looks) (withEl f k.looks))) = true) : KnownOk P nm k := by
  have parts : ∀ f : Nat → TypeId, ∃ v A', (big E fuel).call k.f k.args (startSt (topOf k.looks) (withEl f k.looks)) = some (v, A') ∧ veq 40 v k.v = true ∧ Nat.ble A'.next k.cnt = true ∧ k.objs.all (rowStands A') = true ∧ distinct A' k.objs = true ∧
      shallow 8 k.v = true ∧ (k.objs.all fun r => r.cells.all (shallow 8)) = true ∧ k.args.all plainV = true ∧ k.looks.all (fun r => r.cells.all plainV) = true := by
    intro f
    have h := h f
    cases hq : (big E fuel).call k.f k.args (startSt (topOf k.looks) (withEl f k.looks)) with
    | none => rw [hq] at h; cases h
    | some r =>
      obtain ⟨v, A'⟩ := r
      rw [hq] at h
      simp only [knownRun, Bool.and_eq_true] at h
      obtain ⟨⟨⟨⟨⟨⟨⟨h1, h2⟩, h3⟩, h4⟩, h5⟩, h6⟩, h7⟩, h8⟩ := h
      exact ⟨v, A', rfl, h1, h2, h3, h4, h5, h6, h7, h8⟩
  obtain ⟨_, _, _, _, _, _, _, h5, h6, h7, h8⟩ := parts (fun _ => 0)
  refine { calls := fun w hrows => ?_, shal := h5, shalR := h6, plain := h7 }
  · let f : Nat → TypeId := fun g => match w.heap[g]? with
      | some (.cells _ t _) => t
      | _ => 0
    obtain ⟨v, A', hq, h1, h2, h3, h4, _⟩ := parts f
    have hn : topOf k.looks ≤ w.heap.size := by
      rcases topOf_has (l := k.looks) with e | ⟨r, e1, e2⟩
      · rw [e]; exact Nat.zero_le _
      · obtain ⟨t, fz, hr⟩ := hrows r e1
        have := (Array.getElem?_eq_some_iff.1 hr).1
        omega
    have hst := start_ok (nm := nm) (rows := withEl f k.looks) hn (fun r hr => by
        obtain ⟨r0, e0, rfl⟩ := List.mem_map.1 hr
        obtain ⟨t, fz, e1⟩ := hrows r0 e0
        have hlt := topOf_le e0
        refine ⟨hlt, fz, ?_⟩
        have : f r0.g = t := by simp only [f, e1]
        show w.heap[r0.g]? = some (.cells r0.cells.toArray (f r0.g) fz)
        rw [this]; exact e1)
      (fun r hr v hv => by
        obtain ⟨r0, e0, rfl⟩ := List.mem_map.1 hr
        exact .of_plainV (List.all_eq_true.1 (List.all_eq_true.1 h8 r0 e0) v hv))
    have hg : Gl E (glPl w (topOf k.looks)) := fun g hgl => ⟨_, by unfold glPl; rw [if_pos (by omega)], rfl, rfl⟩
    have hargs : LR nm (glPl w (topOf k.looks)) k.args k.args.toArray.toList := by
      refine .of_get? (by simp) fun i v v' e1 e2 => ?_
      rw [show k.args.toArray.toList = k.args from rfl, e1] at e2
      cases e2
      exact .of_plainV (List.all_eq_true.1 h7 v (List.mem_of_getElem? e1))
    refine Calls.mono ((big_ok ok fuel).2.2 k.f k.args _ v A' hq _ w _ w k.args.toArray hst hg hargs) ?_
    rintro e w' ⟨φ, v', _, e2, hW, hv, rfl⟩
    have hvk : v = k.v := veq_eq 40 _ _ h1
    have hobj : ∀ r, r ∈ k.objs → ∃ x : Row, A'.h.get r.b = some (.row x) ∧ x.own = true ∧ x.size = r.cells.length ∧ (∀ i, i < r.cells.length → x.cells.get i = r.cells[i]?) ∧ x.elem = r.elem ∧ x.esz = r.esz ∧ x.opn = r.opn ∧ x.frz = r.frz ∧ x.sb = r.sb := by
      intro r hr
      have := List.all_eq_true.1 h3 r hr
      unfold rowStands at this
      split at this
      · rename_i x hx
        simp only [Bool.and_eq_true] at this
        obtain ⟨⟨⟨⟨⟨⟨⟨r1, r2⟩, r3⟩, r4⟩, r5⟩, r6⟩, r7⟩, r8⟩ := this
        have r2' : x.size = r.cells.length := Nat.eq_of_beq_eq_true r2
        split at r3
        · rename_i vs hvs
          rw [Bool.and_eq_true] at r3
          obtain ⟨l1, l2⟩ := T.range_some _ _ _ _ hvs
          have hvs' : vs = r.cells := zip_eq (fun a b => veq_eq 40 a b) vs r.cells (by simpa using r3.1) r3.2
          refine ⟨x, hx, r1, r2', fun i hi => ?_, Nat.eq_of_beq_eq_true r4, Nat.eq_of_beq_eq_true r5, by simpa using r6, Nat.eq_of_beq_eq_true r7, by simpa using r8⟩
          have := l2 i (by omega)
          rw [Nat.zero_add] at this
          rw [this, hvs']
        · cases r3
      · cases this
    have hkey := keptBut_of_key rfl hW
    refine ⟨φ, v', hW.lt, fun b hb => hW.dom b (Nat.le_trans (Nat.le_of_ble_eq_true h2) hb), ?_, ?_, ?_, hW.size, hW.env, hvk ▸ hv, rfl⟩
    · intro r hr
      obtain ⟨x, x1, x2, x3, x4, x5, x6, x7, x8, x9⟩ := hobj r hr
      obtain ⟨p, p1, ⟨cs, fz, p2⟩, p3⟩ := hW.obj r.b _ x1 rfl
      refine ⟨p, cs, fz, p1, ?_, ?_⟩
      · exact { blk := by rw [p2.blk, x5]; rfl, csz := p2.csz, opn := by rw [p2.opn, x7]; rfl, esz := fun ho => by rw [p2.esz (by rw [x7]; exact ho), x6]; rfl, fit := by have := p2.fit; rw [x3] at this; exact this,
                frz := fun _ j a b c => by have := p2.frz x2 j a b c; rw [x8] at this; exact this, sb := fun _ hs => p2.sb x2 (by rw [x9]; exact hs),
                exact := fun ho => by have := p2.exact (by rw [x7]; exact ho); rw [x3] at this; exact this,
                cell := fun i hi => by
                  obtain ⟨u, c1, c2⟩ := p2.cell i (by rw [x3]; exact hi)
                  refine ⟨u, ?_, c2⟩
                  show (T.ofList r.cells).get i = some u
                  rw [T.get_ofList, ← x4 i hi, c1] }
      · have hown : (AObj.row x).own = true := x2
        rw [hown] at p3
        rcases Nat.lt_or_ge p.blk w.heap.size with g | g
        · rw [Array.getElem?_eq_getElem g] at p3; cases p3
        · exact g
    · intro r s p q hr hs hrs hp hq hblk
      obtain ⟨x, x1, x2, _⟩ := hobj r hr
      obtain ⟨y, y1, y2, _⟩ := hobj s hs
      obtain ⟨r', s', ms, z1, z2, z3, z4, z5, z6⟩ := hW.sep r.b s.b _ _ p q hrs x1 y1 rfl rfl x2 y2 hp hq hblk
      cases z1; cases z2
      have hd : ∀ {l : List KRow}, distinct A' l = true → r ∈ l → s ∈ l → x.grp ≠ y.grp := by
        intro l
        induction l with
        | nil => intro _ h; simp at h
        | cons t l ih =>
          intro hd hr hs
          simp only [distinct, Bool.and_eq_true] at hd
          rcases List.mem_cons.1 hr with e1 | hr2 <;> rcases List.mem_cons.1 hs with e2 | hs2
          · exact absurd (congrArg KRow.b (e1.trans e2.symm)) hrs
          · subst e1
            have := List.all_eq_true.1 hd.1 s hs2
            rw [x1, y1] at this
            have this' : (!Nat.beq x.grp y.grp) = true := this
            intro e; rw [e] at this'; simp at this'
          · subst e2
            have := List.all_eq_true.1 hd.1 r hr2
            rw [x1, y1] at this
            have this' : (!Nat.beq y.grp x.grp) = true := this
            intro e; rw [e] at this'; simp at this'
          · exact ih hd.2 hr2 hs2
      exact hd h4 hr hs z3
    · intro B hB
      have hw : w.heap[B]? = some w.heap[B] := Array.getElem?_eq_getElem hB
      rw [hw]
      exact hW.key B _ hw
end
end Go.AM
