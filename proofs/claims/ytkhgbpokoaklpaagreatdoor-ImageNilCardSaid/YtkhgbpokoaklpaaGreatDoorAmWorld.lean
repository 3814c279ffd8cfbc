/- States of the abstract machine and worlds of the model: the relation, and how each change keeps it. -/
import Derived.Test.YtkhgbpokoaklpaaGreatDoorAmRel
import Derived.Laws.World
import Derived.Laws.Sem
import Derived.Laws.Entries
import Derived.Laws.Rows
namespace Go.AM

/-- Cells written over, from a place on. -/
def spl (cs : Array Value) (i : Nat) : List Value → Array Value
  | [] => cs
  | v :: vs => spl (cs.setIfInBounds i v) (i + 1) vs
theorem size_spl : ∀ (vs : List Value) (cs : Array Value) (i : Nat), (spl cs i vs).size = cs.size
  | [], _, _ => rfl
  | v :: vs, cs, i => by simp [spl, size_spl vs]
theorem getD_spl : ∀ (vs : List Value) (cs : Array Value) (i k : Nat), i + vs.length ≤ cs.size →
    (spl cs i vs).getD k undef = if i ≤ k ∧ k < i + vs.length then vs.getD (k - i) undef else cs.getD k undef
  | [], cs, i, k, _ => by simp only [spl, List.length_nil]; rw [if_neg (by omega)]
  | v :: vs, cs, i, k, h => by
    simp only [List.length_cons] at h
    simp only [spl]
    rw [getD_spl vs _ (i + 1) k (by simp; omega)]
    by_cases h1 : i + 1 ≤ k ∧ k < i + 1 + vs.length
    · rw [if_pos h1, if_pos (by simp only [List.length_cons]; omega)]
      rw [show k - i = (k - (i + 1)) + 1 from by omega]; simp
    · rw [if_neg h1]
      by_cases e : k = i
      · subst e
        rw [if_pos (by simp only [List.length_cons]; omega)]
        have hk : k < cs.size := by omega
        simp [Array.getD_eq_getD_getElem?, hk]
      · rw [if_neg (by simp only [List.length_cons]; omega)]
        simp [Array.getD_eq_getD_getElem?, Ne.symm e]

/-- A block replaced. -/
def putO (w : World) (b : Nat) (o : Obj) : World := { w with heap := w.heap.setIfInBounds b o }
@[simp] theorem size_putO (w : World) (b : Nat) (o : Obj) : (putO w b o).heap.size = w.heap.size := by simp [putO]
theorem putO_same (w : World) {b : Nat} (o : Obj) (h : b < w.heap.size) : (putO w b o).heap[b]? = some o := by simp [putO, h]
theorem putO_other (w : World) {b c : Nat} (o : Obj) (h : c ≠ b) : (putO w b o).heap[c]? = w.heap[c]? := by
  simp [putO, Ne.symm h]

def AObj.own : AObj → Bool
  | .row r => r.own
  | _ => true
def AObj.live : AObj → Bool
  | .dead => false
  | _ => true

section
variable (nm : Nm) (φ : Emb)

structure RowR (hp : Array Obj) (p : Pl) (r : Row) (cs : Array Value) (fz : Nat × Nat) : Prop where
  blk : hp[p.blk]? = some (.cells cs r.elem fz)
  csz : p.csz = cs.size
  opn : p.opn = r.opn
  esz : r.opn = true → p.esz = r.esz
  fit : p.off + r.size ≤ cs.size
  cell : ∀ i, i < r.size → ∃ v, r.cells.get i = some v ∧ VR nm φ v (cs.getD (p.off + i) undef)
  frz : r.own = true → ∀ j, fz.1 ≤ j → j < fz.2 → j < cs.size → j < p.off + r.frz
  sb : r.own = true → r.sb = false → fz.1 = fz.2 ∨ (fz.1 < fz.2 ∧ fz.2 ≤ cs.size)
  exact : r.opn = false → p.off = 0 ∧ r.size = cs.size

def EntR (es ces : List MapEntry) : Prop := es.length = ces.length ∧
  ∀ (i : Nat) (e c : MapEntry), es[i]? = some e → ces[i]? = some c → plainV e.key = true ∧ c.key = e.key ∧ c.born = e.born ∧ VR nm φ e.val c.val

structure LoopR (l : ALoop) (L : Loop) : Prop where
  state : L.state = l.state
  pending : L.pending = l.pending

def OR (hp : Array Obj) (p : Pl) : AObj → Prop
  | .dead => True
  | .row r => ∃ cs fz, RowR nm φ hp p r cs fz
  | .map es clock => ∃ ces : Array MapEntry, hp[p.blk]? = some (.map ces clock) ∧ EntR nm φ es ces.toList
  | .siter s pos => hp[p.blk]? = some (.stringIter s pos) ∧ p.off = 0
  | .miter m since seen stepped => ∃ m', hp[p.blk]? = some (.mapIter m' since seen.toArray stepped) ∧
      (match m with | none => m' = none | some r => ∃ q, φ r = some q ∧ m' = some q.blk) ∧ p.off = 0
  | .loop l => ∃ L, hp[p.blk]? = some (.loop L) ∧ LoopR l L
  | .defd => hp[p.blk]? = some (.deferred (some []))
end

/-- Below a bound two embeddings are the same. -/
def Emb.ext (n : Nat) (φ ψ : Emb) : Prop := ∀ b, b < n → ψ b = φ b
theorem Emb.ext_refl (n : Nat) (φ : Emb) : Emb.ext n φ φ := fun _ _ => rfl
theorem Emb.ext_trans {n m : Nat} {φ ψ χ : Emb} (h : Emb.ext n φ ψ) (k : Emb.ext m ψ χ) (hn : n ≤ m) : Emb.ext n φ χ :=
  fun b hb => (k b (Nat.lt_of_lt_of_le hb hn)).trans (h b hb)

abbrev Kp := Nat → Option Obj

structure WR (nm : Nm) (K : Kp) (base : World) (φ : Emb) (A : St) (w : World) : Prop where
  dom : ∀ b, A.next ≤ b → φ b = none
  lt : ∀ b p, φ b = some p → p.blk < w.heap.size
  obj : ∀ b o, A.h.get b = some o → o.live = true → ∃ p, φ b = some p ∧ OR nm φ w.heap p o ∧ (K p.blk).isNone = o.own
  key : ∀ B o, K B = some o → w.heap[B]? = some o
  sep : ∀ b c o u p q, b ≠ c → A.h.get b = some o → A.h.get c = some u → o.live = true → u.live = true → o.own = true → u.own = true →
    φ b = some p → φ c = some q → p.blk = q.blk →
    ∃ r s ms, o = .row r ∧ u = .row s ∧ r.grp = s.grp ∧ A.g.get r.grp = some ms ∧ b ∈ ms ∧ c ∈ ms
  tip : ∀ g m ms, A.g.get g = some (m :: ms) → ∀ b, b ∈ ms → ∀ r s p q, A.h.get b = some (.row r) → A.h.get m = some (.row s) → φ b = some p → φ m = some q →
    p.blk = q.blk → p.off + r.size ≤ q.off + s.size
  grp : ∀ g ms, A.g.get g = some ms → ∀ m, m ∈ ms → ∃ p, φ m = some p ∧ K p.blk = none
  env : w.tape = base.tape ∧ w.os = base.os ∧ w.output = base.output
  size : base.heap.size ≤ w.heap.size
  old : ∀ b o p, A.h.get b = some o → o.live = true → o.own = false → φ b = some p → p.blk < base.heap.size

section
variable {nm : Nm} {K : Kp} {base : World} {φ ψ : Emb} {A : St} {w : World}

theorem WR.has (h : WR nm K base φ A w) {g : Nat} {ms : List Nat} (hg : A.g.get g = some ms) {m : Nat} (hm : m ∈ ms) : (φ m).isSome = true := by
  obtain ⟨p, h1, _⟩ := h.grp g ms hg m hm
  rw [h1]; rfl

theorem WR.le (h : WR nm K base φ A w) (e : Emb.ext A.next φ ψ) : φ.le ψ := by
  intro b p hb
  rcases Nat.lt_or_ge b A.next with g | g
  · rw [e b g]; exact hb
  · rw [h.dom b g] at hb; cases hb

theorem EntR.mono (h : φ.le ψ) {es ces : List MapEntry} (r : EntR nm φ es ces) : EntR nm ψ es ces :=
  ⟨r.1, fun i e _ h1 h2 => let ⟨a, b, d, f⟩ := r.2 i e _ h1 h2; ⟨a, b, d, f.mono h⟩⟩
theorem RowR.mono (h : φ.le ψ) {hp : Array Obj} {p : Pl} {r : Row} {cs : Array Value} {fz : Nat × Nat} (x : RowR nm φ hp p r cs fz) : RowR nm ψ hp p r cs fz :=
  { x with cell := fun i hi => let ⟨v, h1, h2⟩ := x.cell i hi; ⟨v, h1, h2.mono h⟩ }
theorem OR.mono (h : φ.le ψ) {hp hp' : Array Obj} {p : Pl} {o : AObj} (r : OR nm φ hp p o) (hh : hp'[p.blk]? = hp[p.blk]?) : OR nm ψ hp' p o := by
  cases o with
  | dead => trivial
  | row r' => obtain ⟨cs, fz, x⟩ := r; exact ⟨cs, fz, { x.mono h with blk := hh.trans x.blk }⟩
  | map es clock => obtain ⟨ces, h1, h2⟩ := r; exact ⟨ces, hh.trans h1, h2.mono h⟩
  | siter s pos => exact ⟨hh.trans r.1, r.2⟩
  | miter m since seen stepped =>
    obtain ⟨m', h1, h2, h0⟩ := r
    refine ⟨m', hh.trans h1, ?_, h0⟩
    cases m with
    | none => exact h2
    | some x => obtain ⟨q, h3, h4⟩ := h2; exact ⟨q, h _ _ h3, h4⟩
  | loop l => obtain ⟨L, h1, h2⟩ := r; exact ⟨L, hh.trans h1, h2⟩
  | defd => exact Eq.trans hh r

theorem WR.drew (h : WR nm K base φ A w) (n : Nat) : WR nm K base φ A { w with drawn := n } :=
  { dom := h.dom, lt := h.lt, obj := h.obj, key := h.key, sep := h.sep, tip := h.tip, grp := h.grp, env := h.env, size := h.size, old := h.old }

def Emb.upd (φ : Emb) (b : Nat) (p : Pl) : Emb := fun c => if c = b then some p else φ c
theorem Emb.upd_same (φ : Emb) (b : Nat) (p : Pl) : φ.upd b p b = some p := by simp [Emb.upd]
theorem Emb.upd_other (φ : Emb) {b c : Nat} (p : Pl) (h : c ≠ b) : φ.upd b p c = φ c := by simp [Emb.upd, h]
theorem Emb.upd_ext (φ : Emb) (b : Nat) (p : Pl) : Emb.ext b φ (φ.upd b p) := fun _c hc => Emb.upd_other φ p (Nat.ne_of_lt hc)
theorem Emb.upd_le {φ : Emb} {b : Nat} (p : Pl) (h : φ b = none) : φ.le (φ.upd b p) := by
  intro c q hc
  by_cases e : c = b
  · subst e; rw [h] at hc; cases hc
  · rw [Emb.upd_other φ p e]; exact hc

theorem getElem?_push_lt {hp : Array Obj} {o : Obj} {b : Nat} (h : b < hp.size) : (hp.push o)[b]? = hp[b]? := by
  simp [Array.getElem?_push, Nat.ne_of_lt h]

/-- A new block of its own: b: the abstract block (the next, or one that was kept free). -/
theorem WR.new (h : WR nm K base φ A w) (b : Nat) (p : Pl) (o : AObj) (c : Obj) (n : Nat) (hb : φ b = none)
    (hn : A.next ≤ n) (hbn : b < n) (hp : p.blk = w.heap.size)
    (ho : OR nm (φ.upd b p) (w.heap.push c) p o) (hown : o.own = true) :
    WR nm K base (φ.upd b p) { A with next := n, h := A.h.set b o } (w.alloc c) := by
  have hle := Emb.upd_le p hb
  have hsz : (w.alloc c).heap.size = w.heap.size + 1 := by simp
  have hfresh : K w.heap.size = none := by
    cases hk : K w.heap.size with
    | none => rfl
    | some x => have := h.key _ _ hk; simp at this
  have hold : ∀ B, B < w.heap.size → (w.alloc c).heap[B]? = w.heap[B]? := fun B hB => getElem?_push_lt hB
  have hg : ∀ g m ms, A.g.get g = some (m :: ms) → b ≠ m ∧ b ∉ ms := by
    intro g m ms hgm
    refine ⟨?_, ?_⟩
    · rintro rfl; obtain ⟨_, this, _⟩ := h.grp g _ hgm b (by simp); rw [hb] at this; cases this
    · intro hm; obtain ⟨_, this, _⟩ := h.grp g _ hgm b (by simp [hm]); rw [hb] at this; cases this
  refine ⟨?_, ?_, ?_, ?_, ?_, ?_, ?_, h.env, by rw [hsz]; exact Nat.le_succ_of_le h.size, ?_⟩
  · intro x hx
    have hx' : n ≤ x := hx
    rw [Emb.upd_other φ p (by omega)]; exact h.dom x (by omega)
  · intro x q hx
    rw [hsz]
    by_cases e : x = b
    · subst e; rw [Emb.upd_same] at hx; cases hx; omega
    · rw [Emb.upd_other φ p e] at hx; have := h.lt _ _ hx; omega
  · intro x u hx hl
    by_cases e : x = b
    · subst e
      rw [T.get_set_same] at hx; cases hx
      exact ⟨p, Emb.upd_same _ _ _, ho, by rw [hp, hfresh, hown]; rfl⟩
    · rw [T.get_set_other _ _ e] at hx
      obtain ⟨q, h1, h2, h3⟩ := h.obj x u hx hl
      exact ⟨q, hle _ _ h1, h2.mono hle (hold _ (h.lt _ _ h1)), h3⟩
  · intro B u hB
    have := h.key _ _ hB
    rw [hold B (by rcases Nat.lt_or_ge B w.heap.size with g | g; exact g; simp [Array.getElem?_eq_none g] at this)]
    exact this
  · intro x y ox oy px py hxy hx hy lx ly wx wy ex ey hblk
    by_cases e1 : x = b
    · subst e1
      rw [Emb.upd_same] at ex; cases ex
      have hyne : y ≠ x := fun e => hxy e.symm
      rw [Emb.upd_other φ p hyne] at ey
      have := h.lt _ _ ey
      omega
    · by_cases e2 : y = b
      · subst e2
        rw [Emb.upd_same] at ey; cases ey
        rw [Emb.upd_other φ p hxy] at ex
        have := h.lt _ _ ex
        omega
      · rw [T.get_set_other _ _ e1] at hx
        rw [T.get_set_other _ _ e2] at hy
        rw [Emb.upd_other φ p e1] at ex
        rw [Emb.upd_other φ p e2] at ey
        exact h.sep x y ox oy px py hxy hx hy lx ly wx wy ex ey hblk
  · intro g m ms hgm x hx r s px py h1 h2 e1 e2 hblk
    obtain ⟨n1, n2⟩ := hg g m ms hgm
    have x1 : x ≠ b := fun e => n2 (e ▸ hx)
    have x2 : m ≠ b := fun e => n1 e.symm
    rw [T.get_set_other _ _ x1] at h1
    rw [T.get_set_other _ _ x2] at h2
    rw [Emb.upd_other φ p x1] at e1
    rw [Emb.upd_other φ p x2] at e2
    exact h.tip g m ms hgm x hx r s px py h1 h2 e1 e2 hblk
  · intro g ms hgm m hm
    obtain ⟨q, h1, h2⟩ := h.grp g ms hgm m hm
    exact ⟨q, hle _ _ h1, h2⟩
  · intro x u q hx hl hu hq
    simp only [] at hx
    by_cases e : x = b
    · subst e; rw [T.get_set_same] at hx; cases hx; rw [hown] at hu; cases hu
    · rw [T.get_set_other _ _ e] at hx; rw [Emb.upd_other φ p e] at hq; exact h.old x u q hx hl hu hq

/-- What lies in one block with what is its own is a row of its group. -/
theorem WR.near (h : WR nm K base φ A w) {b c : Nat} {o u : AObj} {p q : Pl} (hbc : b ≠ c) (hb : A.h.get b = some o) (hc : A.h.get c = some u) (lo : o.live = true) (lu : u.live = true)
    (oo : o.own = true) (hp : φ b = some p) (hq : φ c = some q) (hblk : p.blk = q.blk) :
    ∃ r s ms, o = .row r ∧ u = .row s ∧ r.grp = s.grp ∧ A.g.get r.grp = some ms ∧ b ∈ ms ∧ c ∈ ms := by
  obtain ⟨p', e1, _, k1⟩ := h.obj b o hb lo
  obtain ⟨q', e2, _, k2⟩ := h.obj c u hc lu
  rw [hp] at e1; cases e1
  rw [hq] at e2; cases e2
  rw [hblk] at k1
  exact h.sep b c o u p q hbc hb hc lo lu oo (k2.symm.trans (k1.trans oo)) hp hq hblk
end
end Go.AM
