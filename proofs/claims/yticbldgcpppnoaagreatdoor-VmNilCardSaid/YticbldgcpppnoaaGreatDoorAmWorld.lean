/- States of the abstract machine and worlds of the model: the relation, and how each change keeps it. -/
import Derived.Test.YticbldgcpppnoaaGreatDoorAmRel
import Derived.Laws.World
import Derived.Laws.Sem
import Derived.Laws.Entries
import Derived.Laws.Rows
import Derived.Laws.Cells
namespace Go.AM

/-- Cells written over, from a place on. -/
def spl (cs : Array Value) (i : Nat) : List Value → Array Value
  | [] => cs
  | v :: vs => spl (cs.setIfInBounds i v) (i + 1) vs
theorem size_spl : ∀ (vs : List Value) (cs : Array Value) (i : Nat), (spl cs i vs).size = cs.size
  | [], _, _ => rfl
  | v :: vs, cs, i => by simp [spl, size_spl vs]
theorem getD_spl : ∀ (vs : List Value) (cs : Array Value) (i k : Nat), i + vs.length ≤ cs.size →
    (spl cs i vs).getD k undef = if i ≤ k ∧ k < i + vs.length then vs.getD (k - i) undef else cs.getD k undef
  | [], cs, i, k, _ => by simp only [spl, List.length_nil]; rw [if_neg (by omega)]
  | v :: vs, cs, i, k, h => by
    simp only [List.length_cons] at h
    simp only [spl]
    rw [getD_spl vs _ (i + 1) k (by simp; omega)]
    by_cases h1 : i + 1 ≤ k ∧ k < i + 1 + vs.length
    · rw [if_pos h1, if_pos (by simp only [List.length_cons]; omega)]
      rw [show k - i = (k - (i + 1)) + 1 from by omega]; simp
    · rw [if_neg h1]
      by_cases e : k = i
      · subst e
        rw [if_pos (by simp only [List.length_cons]; omega)]
        have hk : k < cs.size := by omega
        simp [Array.getD_eq_getD_getElem?, hk]
      · rw [if_neg (by simp only [List.length_cons]; omega)]
        simp [Array.getD_eq_getD_getElem?, Ne.symm e]

/-- A block replaced. -/
def putO (w : World) (b : Nat) (o : Obj) : World := { w with heap := w.heap.setIfInBounds b o }
@[simp] theorem size_putO (w : World) (b : Nat) (o : Obj) : (putO w b o).heap.size = w.heap.size := by simp [putO]
theorem putO_same (w : World) {b : Nat} (o : Obj) (h : b < w.heap.size) : (putO w b o).heap[b]? = some o := by simp [putO, h]
theorem putO_other (w : World) {b c : Nat} (o : Obj) (h : c ≠ b) : (putO w b o).heap[c]? = w.heap[c]? := by
  simp [putO, Ne.symm h]

def AObj.own : AObj → Bool
  | .row r => r.own
  | _ => true
def AObj.live : AObj → Bool
  | .dead => false
  | _ => true

section
variable (nm : Nm) (φ : Emb)

structure RowR (hp : Array Obj) (p : Pl) (r : Row) (cs : Array Value) (fz : Nat × Nat) : Prop where
  blk : hp[p.blk]? = some (.cells cs r.elem fz)
  csz : p.csz = cs.size
  opn : p.opn = r.opn
  esz : r.opn = true → p.esz = r.esz
  fit : p.off + r.size ≤ cs.size
  cell : ∀ i, i < r.size → ∃ v, r.cells.get i = some v ∧ VR nm φ v (cs.getD (p.off + i) undef)
  frz : r.own = true → ∀ j, fz.1 ≤ j → j < fz.2 → j < cs.size → j < p.off + r.frz
  sb : r.own = true → r.sb = false → fz.1 = fz.2 ∨ (fz.1 < fz.2 ∧ fz.2 ≤ cs.size)
  exact : r.opn = false → p.off = 0 ∧ r.size = cs.size

def EntR (es ces : List MapEntry) : Prop := es.length = ces.length ∧
  ∀ (i : Nat) (e c : MapEntry), es[i]? = some e → ces[i]? = some c → plainV e.key = true ∧ c.key = e.key ∧ c.born = e.born ∧ VR nm φ e.val c.val

structure LoopR (l : ALoop) (L : Loop) : Prop where
  state : L.state = l.state
  pending : L.pending = l.pending

def OR (hp : Array Obj) (p : Pl) : AObj → Prop
  | .dead => True
  | .row r => ∃ cs fz, RowR nm φ hp p r cs fz
  | .map es clock => ∃ ces : Array MapEntry, hp[p.blk]? = some (.map ces clock) ∧ EntR nm φ es ces.toList
  | .siter s pos => hp[p.blk]? = some (.stringIter s pos) ∧ p.off = 0
  | .miter m since seen stepped => ∃ m', hp[p.blk]? = some (.mapIter m' since seen.toArray stepped) ∧
      (match m with | none => m' = none | some r => ∃ q, φ r = some q ∧ m' = some q.blk) ∧ p.off = 0
  | .loop l => ∃ L, hp[p.blk]? = some (.loop L) ∧ LoopR l L
  | .defd => hp[p.blk]? = some (.deferred (some []))
end

/-- Below a bound two embeddings are the same. -/
def Emb.ext (n : Nat) (φ ψ : Emb) : Prop := ∀ b, b < n → ψ b = φ b
theorem Emb.ext_refl (n : Nat) (φ : Emb) : Emb.ext n φ φ := fun _ _ => rfl
theorem Emb.ext_trans {n m : Nat} {φ ψ χ : Emb} (h : Emb.ext n φ ψ) (k : Emb.ext m ψ χ) (hn : n ≤ m) : Emb.ext n φ χ :=
  fun b hb => (k b (Nat.lt_of_lt_of_le hb hn)).trans (h b hb)

abbrev Kp := Nat → Option Obj

structure WR (nm : Nm) (K : Kp) (base : World) (φ : Emb) (A : St) (w : World) : Prop where
  dom : ∀ b, A.next ≤ b → φ b = none
  lt : ∀ b p, φ b = some p → p.blk < w.heap.size
  obj : ∀ b o, A.h.get b = some o → o.live = true → ∃ p, φ b = some p ∧ OR nm φ w.heap p o ∧ (K p.blk).isNone = o.own
  key : ∀ B o, K B = some o → w.heap[B]? = some o
  sep : ∀ b c o u p q, b ≠ c → A.h.get b = some o → A.h.get c = some u → o.live = true → u.live = true → o.own = true → u.own = true →
    φ b = some p → φ c = some q → p.blk = q.blk →
    ∃ r s ms, o = .row r ∧ u = .row s ∧ r.grp = s.grp ∧ A.g.get r.grp = some ms ∧ b ∈ ms ∧ c ∈ ms
  tip : ∀ g m ms, A.g.get g = some (m :: ms) → ∀ b, b ∈ ms → ∀ r s p q, A.h.get b = some (.row r) → A.h.get m = some (.row s) → φ b = some p → φ m = some q →
    p.blk = q.blk → p.off + r.size ≤ q.off + s.size
  grp : ∀ g ms, A.g.get g = some ms → ∀ m, m ∈ ms → ∃ p, φ m = some p ∧ K p.blk = none
  env : w.tape = base.tape ∧ w.os = base.os ∧ w.output = base.output
  size : base.heap.size ≤ w.heap.size
  old : ∀ b o p, A.h.get b = some o → o.live = true → o.own = false → φ b = some p → p.blk < base.heap.size

section
variable {nm : Nm} {K : Kp} {base : World} {φ ψ : Emb} {A : St} {w : World}

theorem WR.has (h : WR nm K base φ A w) {g : Nat} {ms : List Nat} (hg : A.g.get g = some ms) {m : Nat} (hm : m ∈ ms) : (φ m).isSome = true := by
  obtain ⟨p, h1, _⟩ := h.grp g ms hg m hm
  rw [h1]; rfl

theorem WR.le (h : WR nm K base φ A w) (e : Emb.ext A.next φ ψ) : φ.le ψ := by
  intro b p hb
  rcases Nat.lt_or_ge b A.next with g | g
  · rw [e b g]; exact hb
  · rw [h.dom b g] at hb; cases hb

theorem EntR.mono (h : φ.le ψ) {es ces : List MapEntry} (r : EntR nm φ es ces) : EntR nm ψ es ces :=
  ⟨r.1, fun i e _ h1 h2 => let ⟨a, b, d, f⟩ := r.2 i e _ h1 h2; ⟨a, b, d, f.mono h⟩⟩
theorem RowR.mono (h : φ.le ψ) {hp : Array Obj} {p : Pl} {r : Row} {cs : Array Value} {fz : Nat × Nat} (x : RowR nm φ hp p r cs fz) : RowR nm ψ hp p r cs fz :=
  { x with cell := fun i hi => let ⟨v, h1, h2⟩ := x.cell i hi; ⟨v, h1, h2.mono h⟩ }
theorem OR.mono (h : φ.le ψ) {hp hp' : Array Obj} {p : Pl} {o : AObj} (r : OR nm φ hp p o) (hh : hp'[p.blk]? = hp[p.blk]?) : OR nm ψ hp' p o := by
  cases o with
  | dead => trivial
  | row r' => obtain ⟨cs, fz, x⟩ := r; exact ⟨cs, fz, { x.mono h with blk := hh.trans x.blk }⟩
  | map es clock => obtain ⟨ces, h1, h2⟩ := r; exact ⟨ces, hh.trans h1, h2.mono h⟩
  | siter s pos => exact ⟨hh.trans r.1, r.2⟩
  | miter m since seen stepped =>
    obtain ⟨m', h1, h2, h0⟩ := r
    refine ⟨m', hh.trans h1, ?_, h0⟩
    cases m with
    | none => exact h2
    | some x => obtain ⟨q, h3, h4⟩ := h2; exact ⟨q, h _ _ h3, h4⟩
  | loop l => obtain ⟨L, h1, h2⟩ := r; exact ⟨L, hh.trans h1, h2⟩
  | defd => exact Eq.trans hh r

theorem WR.drew (h : WR nm K base φ A w) (n : Nat) : WR nm K base φ A { w with drawn := n } :=
  { dom := h.dom, lt := h.lt, obj := h.obj, key := h.key, sep := h.sep, tip := h.tip, grp := h.grp, env := h.env, size := h.size, old := h.old }

def Emb.upd (φ : Emb) (b : Nat) (p : Pl) : Emb := fun c => if c = b then some p else φ c
theorem Emb.upd_same (φ : Emb) (b : Nat) (p : Pl) : φ.upd b p b = some p := by simp [Emb.upd]
theorem Emb.upd_other (φ : Emb) {b c : Nat} (p : Pl) (h : c ≠ b) : φ.upd b p c = φ c := by simp [Emb.upd, h]
theorem Emb.upd_ext (φ : Emb) (b : Nat) (p : Pl) : Emb.ext b φ (φ.upd b p) := fun _c hc => Emb.upd_other φ p (Nat.ne_of_lt hc)
theorem Emb.upd_le {φ : Emb} {b : Nat} (p : Pl) (h : φ b = none) : φ.le (φ.upd b p) := by
  intro c q hc
  by_cases e : c = b
  · subst e; rw [h] at hc; cases hc
  · rw [Emb.upd_other φ p e]; exact hc

theorem getElem?_push_lt {hp : Array Obj} {o : Obj} {b : Nat} (h : b < hp.size) : (hp.push o)[b]? = hp[b]? := by
  simp [Array.getElem?_push, Nat.ne_of_lt h]

/-- A new block of its own: b: the abstract block (the next, or one that was kept free). -/
theorem WR.new (h : WR nm K base φ A w) (b : Nat) (p : Pl) (o : AObj) (c : Obj) (n : Nat) (hb : φ b = none)
    (hn : A.next ≤ n) (hbn : b < n) (hp : p.blk = w.heap.size)
    (ho : OR nm (φ.upd b p) (w.heap.push c) p o) (hown : o.own = true) :
    WR nm K base (φ.upd b p) { A with next := n, h := A.h.set b o } (w.alloc c) := by
  have hle := Emb.upd_le p hb
  have hsz : (w.alloc c).heap.size = w.heap.size + 1 := by simp
  have hfresh : K w.heap.size = none := by
    cases hk : K w.heap.size with
    | none => rfl
    | some x => have := h.key _ _ hk; simp at this
  have hold : ∀ B, B < w.heap.size → (w.alloc c).heap[B]? = w.heap[B]? := fun B hB => getElem?_push_lt hB
  have hg : ∀ g m ms, A.g.get g = some (m :: ms) → b ≠ m ∧ b ∉ ms := by
    intro g m ms hgm
    refine ⟨?_, ?_⟩
    · rintro rfl; obtain ⟨_, this, _⟩ := h.grp g _ hgm b (by simp); rw [hb] at this; cases this
    · intro hm; obtain ⟨_, this, _⟩ := h.grp g _ hgm b (by simp [hm]); rw [hb] at this; cases this
  refine ⟨?_, ?_, ?_, ?_, ?_, ?_, ?_, h.env, by rw [hsz]; exact Nat.le_succ_of_le h.size, ?_⟩
  · intro x hx
    have hx' : n ≤ x := hx
    rw [Emb.upd_other φ p (by omega)]; exact h.dom x (by omega)
  · intro x q hx
    rw [hsz]
    by_cases e : x = b
    · subst e; rw [Emb.upd_same] at hx; cases hx; omega
    · rw [Emb.upd_other φ p e] at hx; have := h.lt _ _ hx; omega
  · intro x u hx hl
    by_cases e : x = b
    · subst e
      rw [T.get_set_same] at hx; cases hx
      exact ⟨p, Emb.upd_same _ _ _, ho, by rw [hp, hfresh, hown]; rfl⟩
    · rw [T.get_set_other _ _ e] at hx
      obtain ⟨q, h1, h2, h3⟩ := h.obj x u hx hl
      exact ⟨q, hle _ _ h1, h2.mono hle (hold _ (h.lt _ _ h1)), h3⟩
  · intro B u hB
    have := h.key _ _ hB
    rw [hold B (by rcases Nat.lt_or_ge B w.heap.size with g | g; exact g; simp [Array.getElem?_eq_none g] at this)]
    exact this
  · intro x y ox oy px py hxy hx hy lx ly wx wy ex ey hblk
    by_cases e1 : x = b
    · subst e1
      rw [Emb.upd_same] at ex; cases ex
      have hyne : y ≠ x := fun e => hxy e.symm
      rw [Emb.upd_other φ p hyne] at ey
      have := h.lt _ _ ey
      omega
    · by_cases e2 : y = b
      · subst e2
        rw [Emb.upd_same] at ey; cases ey
        rw [Emb.upd_other φ p hxy] at ex
        have := h.lt _ _ ex
        omega
      · rw [T.get_set_other _ _ e1] at hx
        rw [T.get_set_other _ _ e2] at hy
        rw [Emb.upd_other φ p e1] at ex
        rw [Emb.upd_other φ p e2] at ey
        exact h.sep x y ox oy px py hxy hx hy lx ly wx wy ex ey hblk
  · intro g m ms hgm x hx r s px py h1 h2 e1 e2 hblk
    obtain ⟨n1, n2⟩ := hg g m ms hgm
    have x1 : x ≠ b := fun e => n2 (e ▸ hx)
    have x2 : m ≠ b := fun e => n1 e.symm
    rw [T.get_set_other _ _ x1] at h1
    rw [T.get_set_other _ _ x2] at h2
    rw [Emb.upd_other φ p x1] at e1
    rw [Emb.upd_other φ p x2] at e2
    exact h.tip g m ms hgm x hx r s px py h1 h2 e1 e2 hblk
  · intro g ms hgm m hm
    obtain ⟨q, h1, h2⟩ := h.grp g ms hgm m hm
    exact ⟨q, hle _ _ h1, h2⟩
  · intro x u q hx hl hu hq
    simp only [] at hx
    by_cases e : x = b
    · subst e; rw [T.get_set_same] at hx; cases hx; rw [hown] at hu; cases hu
    · rw [T.get_set_other _ _ e] at hx; rw [Emb.upd_other φ p e] at hq; exact h.old x u q hx hl hu hq

/-- What lies in one block with what is its own is a row of its group. -/
theorem WR.near (h : WR nm K base φ A w) {b c : Nat} {o u : AObj} {p q : Pl} (hbc : b ≠ c) (hb : A.h.get b = some o) (hc : A.h.get c = some u) (lo : o.live = true) (lu : u.live = true)
    (oo : o.own = true) (hp : φ b = some p) (hq : φ c = some q) (hblk : p.blk = q.blk) :
    ∃ r s ms, o = .row r ∧ u = .row s ∧ r.grp = s.grp ∧ A.g.get r.grp = some ms ∧ b ∈ ms ∧ c ∈ ms := by
  obtain ⟨p', e1, _, k1⟩ := h.obj b o hb lo
  obtain ⟨q', e2, _, k2⟩ := h.obj c u hc lu
  rw [hp] at e1; cases e1
  rw [hq] at e2; cases e2
  rw [hblk] at k1
  exact h.sep b c o u p q hbc hb hc lo lu oo (k2.symm.trans (k1.trans oo)) hp hq hblk
end

/-- A row of a known call as it stands behind the run. -/
def kRow0 (r : KRow) : Row := { own := true, size := r.cells.length, cells := T.ofList r.cells, elem := r.elem, esz := r.esz, opn := r.opn, grp := r.b, frz := r.frz, sb := r.sb }
/-- What a known call leaves. -/
def KRes (nm : Nm) (k : Known) (w : World) (e : Ending) (w' : World) : Prop :=
  ∃ φ v', (∀ b p, φ b = some p → p.blk < w'.heap.size) ∧ (∀ b, k.cnt ≤ b → φ b = none) ∧
    (∀ r, r ∈ k.objs → ∃ p cs fz, φ r.b = some p ∧ RowR nm φ w'.heap p (kRow0 r) cs fz ∧ w.heap.size ≤ p.blk) ∧
    (∀ r s p q, r ∈ k.objs → s ∈ k.objs → r.b ≠ s.b → φ r.b = some p → φ s.b = some q → p.blk ≠ q.blk) ∧
    (∀ B : Nat, B < w.heap.size → w'.heap[B]? = w.heap[B]?) ∧ w.heap.size ≤ w'.heap.size ∧ (w'.tape = w.tape ∧ w'.os = w.os ∧ w'.output = w.output) ∧ VR nm φ k.v v' ∧ e = .returned v'
/-- A known call is one, wherever the rows lie that it looks at. -/
structure KnownOk (P : Program) (nm : Nm) (k : Known) : Prop where
  calls : ∀ w : World, (∀ r, r ∈ k.looks → ∃ t fz, w.heap[r.g]? = some (.cells r.cells.toArray t fz)) → Calls P k.f k.args.toArray w (KRes nm k w)
  shal : shallow 8 k.v = true
  shalR : (k.objs.all fun r => r.cells.all (shallow 8)) = true
  plain : (k.args.all plainV) = true
end Go.AM

namespace Go.AM
section
variable {nm : Nm} {K : Kp} {base : World} {φ : Emb} {A : St} {w : World} {P : Program}

theorem row?_some {b : Nat} {r : Row} (h : A.row? b = some r) : A.h.get b = some (.row r) := by
  unfold St.row? at h
  split at h
  · rename_i r' hr; cases h; exact hr
  · cases h

theorem cell_at {w : World} {b off : Nat} {cs : Array Value} {e : TypeId} {fz : Nat × Nat} (h : w.heap[b]? = some (.cells cs e fz)) :
    w.cell? ⟨b, off, none⟩ = cs[off]? := by simp [World.cell?, h]

theorem getD_of_lt {cs : Array Value} {i : Nat} (h : i < cs.size) : cs[i]? = some (cs.getD i undef) := by
  simp [Array.getD_eq_getD_getElem?, h]

/-- A row that is read. -/
structure Rd (nm : Nm) (φ : Emb) (w : World) (a : Addr) (n : Nat) (vs cvs : List Value) : Prop where
  len : cvs.length = n
  rel : LR nm φ vs cvs
  cell : ∀ j v, cvs[j]? = some v → w.cell? (a.add j) = some v

theorem add_mk (b o j : Nat) : (⟨b, o, none⟩ : Addr).add j = ⟨b, o + j, none⟩ := by
  unfold Addr.add; split
  · rename_i h; subst h; rfl
  · rfl

theorem WR.load (h : WR nm K base φ A w) {a : Addr} {n : Nat} {vs : List Value} (hl : A.loadN a n = some vs) {p : Pl} (hp : φ a.block = some p) :
    ∃ cvs, Rd nm φ w ⟨p.blk, p.off + a.off, none⟩ n vs cvs := by
  unfold St.loadN at hl
  split at hl
  · cases hl
  split at hl
  · rename_i r hr
    split at hl
    · rename_i hfit
      obtain ⟨q, hq, ⟨cs, fz, ho⟩, _⟩ := h.obj a.block _ (row?_some hr) rfl
      rw [hp] at hq; cases hq
      obtain ⟨hlen, hget⟩ := T.range_some _ _ _ _ hl
      refine ⟨(List.range n).map fun j => cs.getD (p.off + a.off + j) undef, by simp, ?_, ?_⟩
      · refine .of_get? (by simp [hlen]) fun i v v' h1 h2 => ?_
        have hi : i < n := by
          rcases Nat.lt_or_ge i n with g | g
          · exact g
          · rw [List.getElem?_eq_none (by omega)] at h1; cases h1
        rw [List.getElem?_map, List.getElem?_range hi, Option.map_some, Option.some.injEq] at h2
        subst h2
        obtain ⟨u, hu, hv⟩ := ho.cell (a.off + i) (by omega)
        have := hget i hi
        rw [this, h1] at hu; cases hu
        rw [show p.off + a.off + i = p.off + (a.off + i) from by omega]
        exact hv
      · intro j v hj
        have hjn : j < n := by
          rcases Nat.lt_or_ge j n with g | g
          · exact g
          · rw [List.getElem?_eq_none (by simpa using g)] at hj; cases hj
        rw [List.getElem?_map, List.getElem?_range hjn, Option.map_some, Option.some.injEq] at hj
        subst hj
        rw [add_mk, cell_at ho.blk]
        exact getD_of_lt (by have := ho.fit; omega)
    · cases hl
  · cases hl

theorem Rd.run {a : Addr} {n : Nat} {vs cvs : List Value} (h : Rd nm φ w a n vs cvs) : (loadCells a n).run P w = .ok cvs.toArray w := by
  have := run_loadCells_list (P := P) w a cvs h.cell
  rwa [h.len] at this

/-- A store into a row. -/
theorem run_storeCells (P : Program) (b off : Nat) (e : TypeId) (fz : Nat × Nat) : ∀ (vs : List Value) (i : Nat) (cs : Array Value) (w : World),
    w.heap[b]? = some (.cells cs e fz) → off + i + vs.length ≤ cs.size → (∀ v, v ∈ vs → one v = true) → (∀ j, off + i ≤ j → j < off + i + vs.length → ¬ (fz.1 ≤ j ∧ j < fz.2)) →
    (storeCells ⟨b, off, none⟩ vs i).run P w = .ok () (putO w b (.cells (spl cs (off + i) vs) e fz)) := by
  intro vs
  induction vs with
  | nil =>
    intro i cs w hb _ _ _
    have hlt : b < w.heap.size := (Array.getElem?_eq_some_iff.1 hb).1
    have : putO w b (.cells cs e fz) = w := by
      unfold putO
      have : w.heap.setIfInBounds b (.cells cs e fz) = w.heap := by
        apply Array.ext_getElem?
        intro j
        rw [Array.getElem?_setIfInBounds]
        split
        · rename_i e; subst e; first | exact hb.symm | (simp only [hlt, if_true]; exact hb.symm)
        · rfl
      rw [this]
    simp [storeCells, spl, this]
  | cons v vs ih =>
    intro i cs w hb hfit hone hfz
    have hlt : b < w.heap.size := (Array.getElem?_eq_some_iff.1 hb).1
    simp only [List.length_cons] at hfit hfz
    have hv := hone v (by simp)
    have hcell : w.cell? ⟨b, off + i, none⟩ = some (cs.getD (off + i) undef) := by rw [cell_at hb]; exact getD_of_lt (by omega)
    have hfr : w.frozen? ⟨b, off + i, none⟩ = false := by
      have hn := hfz (off + i) (by omega) (by omega)
      obtain ⟨f1, f2⟩ := fz
      simp only [World.frozen?, hb]
      simp only [] at hn
      cases h1 : decide (f1 ≤ off + i) with
      | false => rfl
      | true => cases h2 : decide (off + i < f2) with
        | false => rfl
        | true => exact absurd ⟨of_decide_eq_true h1, of_decide_eq_true h2⟩ hn
    have hset : w.setCell ⟨b, off + i, none⟩ v = putO w b (.cells (cs.setIfInBounds (off + i) v) e fz) := by
      unfold World.setCell putO
      congr 1
      apply Array.ext_getElem?
      intro j
      rw [Array.getElem?_modify, Array.getElem?_setIfInBounds]
      split
      · rename_i e; subst e; simp only [hb]; simp
      · rfl
    have hrun : (store ((⟨b, off, none⟩ : Addr).add i) v).run P w = .ok () (w.setCell ⟨b, off + i, none⟩ v) := by
      rw [add_mk]
      cases v <;> simp [store, Sem.run, hcell, hfr] <;> simp [one] at hv
    simp only [storeCells, Sem.run_bind, hrun, Result.andThen_ok, hset]
    have hb' : (putO w b (.cells (cs.setIfInBounds (off + i) v) e fz)).heap[b]? = some (.cells (cs.setIfInBounds (off + i) v) e fz) := putO_same w _ hlt
    rw [ih (i + 1) _ _ hb' (by simp; omega) (fun u hu => hone u (by simp [hu])) (fun j h1 h2 => hfz j (by omega) (by omega))]
    congr 1
    unfold putO
    simp only [spl]
    congr 1
    apply Array.ext_getElem?
    intro j
    simp only [Array.getElem?_setIfInBounds, Array.size_setIfInBounds]
    split
    · rw [show off + (i + 1) = off + i + 1 from by omega]
    · rfl

theorem get_kill : ∀ (ms : List Nat) (h : T AObj) (b c : Nat), (St.kill h b ms).get c = if c ∈ ms ∧ c ≠ b then some .dead else h.get c
  | [], h, b, c => by simp [St.kill]
  | m :: ms, h, b, c => by
    simp only [St.kill]
    rw [get_kill ms]
    by_cases e : m = b
    · subst e
      simp only [beq_self_eq_true, if_true]
      by_cases g : c ∈ ms ∧ c ≠ m
      · rw [if_pos g, if_pos ⟨by simp [g.1], g.2⟩]
      · rw [if_neg g, if_neg]
        rintro ⟨g1, g2⟩
        rcases List.mem_cons.1 g1 with g3 | g3
        · exact g2 g3
        · exact g ⟨g3, g2⟩
    · have hne : (m == b) = false := by simpa using e
      rw [hne]
      simp only [Bool.false_eq_true, if_false]
      by_cases g : c ∈ ms ∧ c ≠ b
      · rw [if_pos g, if_pos ⟨by simp [g.1], g.2⟩]
      · rw [if_neg g, T.get_set]
        by_cases e2 : c = m
        · subst e2; rw [if_pos rfl, if_pos ⟨by simp, e⟩]
        · rw [if_neg e2, if_neg]
          rintro ⟨g1, g2⟩
          rcases List.mem_cons.1 g1 with g3 | g3
          · exact e2 g3
          · exact g ⟨g3, g2⟩

/-- A block is killed, or many: the relation stays. -/
theorem WR.fewer (h : WR nm K base φ A w) {h' : T AObj} (hh : ∀ c, h'.get c = A.h.get c ∨ h'.get c = some .dead) : WR nm K base φ { A with h := h' } w := by
  have keep : ∀ c o, h'.get c = some o → o.live = true → A.h.get c = some o := by
    intro c o ho hl
    rcases hh c with g | g
    · rw [← g]; exact ho
    · rw [g] at ho; cases ho; simp [AObj.live] at hl
  refine ⟨h.dom, h.lt, fun b o ho hl => h.obj b o (keep b o ho hl) hl, h.key, ?_, ?_, h.grp, h.env, h.size, fun b o p hb hl hu hp => h.old b o p (keep b o hb hl) hl hu hp⟩
  · intro b c o u p q hbc hb hc lo lu
    exact h.sep b c o u p q hbc (keep _ _ hb lo) (keep _ _ hc lu) lo lu
  · intro g m ms hg b hb r s p q h1 h2
    exact h.tip g m ms hg b hb r s p q (keep _ _ h1 rfl) (keep _ _ h2 rfl)

/-- Of a group one alone is left. -/
theorem alone_row (b : Nat) (r : Row) (hb : A.h.get b = some (.row r)) : (A.alone b r).h.get b = some (.row r) := by
  unfold St.alone
  split
  · exact hb
  · simp only []
    rw [get_kill, if_neg (by simp), hb]
theorem alone_next (b : Nat) (r : Row) : (A.alone b r).next = A.next := by unfold St.alone; split <;> rfl

theorem WR.alone (h : WR nm K base φ A w) {b : Nat} {r : Row} (hb : A.h.get b = some (.row r)) (ho : r.own = true) :
    WR nm K base φ (A.alone b r) w ∧
    ∀ c o p q, c ≠ b → (A.alone b r).h.get c = some o → o.live = true → o.own = true → φ c = some p → φ b = some q → p.blk ≠ q.blk := by
  unfold St.alone
  cases hg : A.g.get r.grp with
  | none =>
    refine ⟨h, fun c o p q hcb hc lo oo hp hq hblk => ?_⟩
    obtain ⟨r1, r2, ms, h1, h2, h3, h4, _⟩ := h.sep b c _ o q p (Ne.symm hcb) hb hc rfl lo ho oo hq hp hblk.symm
    cases h1
    rw [hg] at h4; cases h4
  | some ms =>
    simp only []
    have hk : ∀ c, (St.kill A.h b ms).get c = A.h.get c ∨ (St.kill A.h b ms).get c = some .dead := by
      intro c; rw [get_kill]; split <;> simp
    have h1 := h.fewer hk
    have keep : ∀ c o, (St.kill A.h b ms).get c = some o → o.live = true → A.h.get c = some o ∧ ¬ (c ∈ ms ∧ c ≠ b) := by
      intro c o hc lo
      rw [get_kill] at hc
      split at hc
      · cases hc; simp [AObj.live] at lo
      · rename_i hn; exact ⟨hc, hn⟩
    have away : ∀ c o p q, c ≠ b → (St.kill A.h b ms).get c = some o → o.live = true → o.own = true → φ c = some p → φ b = some q → p.blk ≠ q.blk := by
      intro c o p q hcb hc lo oo hp hq hblk
      obtain ⟨hc', hn⟩ := keep c o hc lo
      obtain ⟨r1, r2, ms', e1, e2, e3, e4, e5, e6⟩ := h.sep b c _ o q p (Ne.symm hcb) hb hc' rfl lo ho oo hq hp hblk.symm
      cases e1
      rw [hg] at e4; cases e4
      exact hn ⟨e6, hcb⟩
    refine ⟨⟨h1.dom, h1.lt, h1.obj, h1.key, ?_, ?_, ?_, h1.env, h1.size, h1.old⟩, away⟩
    · intro x y o u p q hxy hx hy lo lu oo ou ex ey hblk
      obtain ⟨hx', nx⟩ := keep x o hx lo
      obtain ⟨hy', ny⟩ := keep y u hy lu
      obtain ⟨r1, r2, ms', e1, e2, e3, e4, e5, e6⟩ := h.sep x y o u p q hxy hx' hy' lo lu oo ou ex ey hblk
      refine ⟨r1, r2, ms', e1, e2, e3, ?_, e5, e6⟩
      simp only []
      rw [T.get_set]
      split
      · rename_i e
        rw [e, hg] at e4; cases e4
        -- both are of the group: both are b
        have x1 : x = b := by
          rcases Classical.em (x = b) with g | g
          · exact g
          · exact absurd ⟨e5, g⟩ nx
        have y1 : y = b := by
          rcases Classical.em (y = b) with g | g
          · exact g
          · exact absurd ⟨e6, g⟩ ny
        exact absurd (x1.trans y1.symm) hxy
      · exact e4
    · intro g m ms' hgm x hx r1 s p q g1 g2 e1 e2 hblk
      simp only [] at hgm
      rw [T.get_set] at hgm
      split at hgm
      · cases hgm; cases hx
      · exact h1.tip g m ms' hgm x hx r1 s p q g1 g2 e1 e2 hblk
    · intro g ms' hgm m hm
      simp only [] at hgm
      rw [T.get_set] at hgm
      split at hgm
      · cases hgm
        obtain ⟨p, hp, _, hkk⟩ := h.obj b _ hb rfl
        simp only [List.mem_singleton] at hm
        subst hm
        exact ⟨p, hp, by have : (K p.blk).isNone = true := hkk.trans ho; simpa using this⟩
      · exact h1.grp g ms' hgm m hm

/-- An object of its own that is no row is replaced. -/
theorem WR.setObj (h : WR nm K base φ A w) {b : Nat} {o o' : AObj} {p : Pl} {c : Obj} (hb : A.h.get b = some o) (hl : o.live = true) (hown : o.own = true) (hrow : ∀ r, o ≠ .row r)
    (hrow' : ∀ r, o' ≠ .row r) (hown' : o'.own = true)
    (hp : φ b = some p) (ho : OR nm φ (putO w p.blk c).heap p o') : WR nm K base φ (A.setObj b o') (putO w p.blk c) := by
  obtain ⟨p', hp', _, hK⟩ := h.obj b o hb hl
  rw [hp] at hp'; cases hp'
  have far : ∀ x u q, x ≠ b → A.h.get x = some u → u.live = true → φ x = some q → q.blk ≠ p.blk := by
    intro x u q hx hu lu hq hblk
    obtain ⟨r1, _, _, e1, _⟩ := h.near (Ne.symm hx) hb hu hl lu hown hp hq hblk.symm
    exact hrow _ e1
  have old_set : ∀ {x : Nat} {u : AObj} {q : Pl}, (A.setObj b o').h.get x = some u → u.live = true → u.own = false → φ x = some q → q.blk < base.heap.size := by
    intro x u q hx hl hu hq
    simp only [St.setObj] at hx
    by_cases e : x = b
    · subst e; rw [T.get_set_same] at hx; cases hx; rw [show AObj.own o' = true from hown'] at hu; cases hu
    · rw [T.get_set_other _ _ e] at hx; exact h.old x u q hx hl hu hq
  refine ⟨h.dom, fun x q hx => by rw [size_putO]; exact h.lt x q hx, ?_, ?_, ?_, ?_, h.grp, h.env, by rw [size_putO]; exact h.size, fun x u q hx hl hu hq => old_set hx hl hu hq⟩
  · intro x u hx lu
    simp only [St.setObj] at hx
    rw [T.get_set] at hx
    split at hx
    · rename_i e; subst e; cases hx
      exact ⟨p, hp, ho, by rw [hK, hown, hown']⟩
    · rename_i e
      obtain ⟨q, h1, h2, h3⟩ := h.obj x u hx lu
      exact ⟨q, h1, h2.mono (Emb.le_refl φ) (putO_other w c (far x u q e hx lu h1)), h3⟩
  · intro B u hB
    rw [putO_other w c]
    · exact h.key B u hB
    · rintro rfl
      rw [hB, hown] at hK; cases hK
  · intro x y u v px py hxy hx hy lu lv ou ov ex ey hblk
    simp only [St.setObj] at hx hy
    rw [T.get_set] at hx hy
    split at hx
    · rename_i e; subst e; cases hx
      split at hy
      · rename_i e2; exact absurd e2.symm hxy
      · rename_i e2
        rw [hp] at ex; cases ex
        exact absurd hblk.symm (far y v py e2 hy lv ey)
    · rename_i e
      split at hy
      · rename_i e2; subst e2; cases hy
        rw [hp] at ey; cases ey
        exact absurd hblk (far x u px e hx lu ex)
      · exact h.sep x y u v px py hxy hx hy lu lv ou ov ex ey hblk
  · intro g m ms hg x hx r s px py h1 h2 e1 e2 hblk
    simp only [St.setObj] at h1 h2
    rw [T.get_set] at h1 h2
    split at h1
    · cases h1; exact absurd rfl (hrow' r)
    · split at h2
      · cases h2; exact absurd rfl (hrow' s)
      · exact h.tip g m ms hg x hx r s px py h1 h2 e1 e2 hblk

/-- A row of its own, alone in its block, is written. -/
theorem WR.setRow (h : WR nm K base φ A w) {b : Nat} {r r' : Row} {p : Pl} {c : Obj} (hb : A.h.get b = some (.row r)) (hown : r.own = true) (hp : φ b = some p)
    (alone : ∀ x u q, x ≠ b → A.h.get x = some u → u.live = true → u.own = true → φ x = some q → q.blk ≠ p.blk)
    (hown' : r'.own = true) (hsz : r'.size = r.size)
    (ho : ∃ cs fz, RowR nm φ (putO w p.blk c).heap p r' cs fz) : WR nm K base φ (A.setObj b (.row r')) (putO w p.blk c) := by
  obtain ⟨p', hp', _, hK⟩ := h.obj b _ hb rfl
  rw [hp] at hp'; cases hp'
  have hKn : (K p.blk).isNone = true := hK.trans hown
  have far : ∀ x u q, x ≠ b → A.h.get x = some u → u.live = true → φ x = some q → q.blk ≠ p.blk := by
    intro x u q hx hu lu hq hblk
    obtain ⟨q', e1, _, k⟩ := h.obj x u hu lu
    rw [hq] at e1; cases e1
    rw [hblk, hKn] at k
    exact alone x u q hx hu lu k.symm hq hblk
  have old_set : ∀ {x : Nat} {u : AObj} {q : Pl}, (A.setObj b (.row r')).h.get x = some u → u.live = true → u.own = false → φ x = some q → q.blk < base.heap.size := by
    intro x u q hx hl hu hq
    simp only [St.setObj] at hx
    by_cases e : x = b
    · subst e; rw [T.get_set_same] at hx; cases hx; rw [show AObj.own (.row r') = true from hown'] at hu; cases hu
    · rw [T.get_set_other _ _ e] at hx; exact h.old x u q hx hl hu hq
  refine ⟨h.dom, fun x q hx => by rw [size_putO]; exact h.lt x q hx, ?_, ?_, ?_, ?_, h.grp, h.env, by rw [size_putO]; exact h.size, fun x u q hx hl hu hq => old_set hx hl hu hq⟩
  · intro x u hx lu
    simp only [St.setObj] at hx
    rw [T.get_set] at hx
    split at hx
    · rename_i e; subst e; cases hx
      exact ⟨p, hp, ho, by rw [hKn]; exact hown'.symm⟩
    · rename_i e
      obtain ⟨q, h1, h2, h3⟩ := h.obj x u hx lu
      exact ⟨q, h1, h2.mono (Emb.le_refl φ) (putO_other w c (far x u q e hx lu h1)), h3⟩
  · intro B u hB
    rw [putO_other w c]
    · exact h.key B u hB
    · rintro rfl
      rw [hB] at hKn; cases hKn
  · intro x y u v px py hxy hx hy lu lv ou ov ex ey hblk
    simp only [St.setObj] at hx hy
    rw [T.get_set] at hx hy
    split at hx
    · rename_i e; subst e
      split at hy
      · rename_i e2; exact absurd e2.symm hxy
      · rename_i e2
        rw [hp] at ex; cases ex
        exact absurd hblk.symm (far y v py e2 hy lv ey)
    · rename_i e
      split at hy
      · rename_i e2; subst e2
        rw [hp] at ey; cases ey
        exact absurd hblk (far x u px e hx lu ex)
      · exact h.sep x y u v px py hxy hx hy lu lv ou ov ex ey hblk
  · intro g m ms hg x hx r1 s1 px py h1 h2 e1 e2 hblk
    simp only [St.setObj] at h1 h2
    rw [T.get_set] at h1 h2
    have hbx : ∀ y s, (if y = b then some (AObj.row r') else A.h.get y) = some (.row s) → ∃ s0, A.h.get y = some (.row s0) ∧ s0.size = s.size := by
      intro y s hy
      split at hy
      · rename_i e; subst e; cases hy; exact ⟨r, hb, hsz.symm⟩
      · exact ⟨s, hy, rfl⟩
    obtain ⟨r0, g1, g2⟩ := hbx _ _ h1
    obtain ⟨s0, g3, g4⟩ := hbx _ _ h2
    have := h.tip g m ms hg x hx r0 s0 px py g1 g3 e1 e2 hblk
    rw [g2, g4] at this
    exact this

/-- Cells are stored. -/
theorem WR.store (h : WR nm K base φ A w) {a : Addr} {vs cvs : List Value} {A' : St} (hs : A.storeN a vs = some A') (hv : LR nm φ vs cvs) {p : Pl} (hp : φ a.block = some p) :
    ∃ w', (storeCells ⟨p.blk, p.off + a.off, none⟩ cvs).run P w = .ok () w' ∧ WR nm K base φ A' w' ∧ A'.next = A.next := by
  unfold St.storeN at hs
  split at hs
  · cases hs
  split at hs
  · rename_i r hr
    split at hs
    · rename_i hc
      simp only [Bool.and_eq_true, decide_eq_true_eq, List.all_eq_true] at hc
      obtain ⟨⟨⟨hown, hfit⟩, hfrz⟩, hone⟩ := hc
      cases hs
      have hb := row?_some hr
      obtain ⟨h1, away⟩ := h.alone hb hown
      obtain ⟨q, hq, ⟨cs, fz, ho⟩, _⟩ := h.obj a.block _ hb rfl
      rw [hp] at hq; cases hq
      have hlen := hv.length
      have hrun := run_storeCells P p.blk (p.off + a.off) r.elem fz cvs 0 cs w ho.blk (by have := ho.fit; omega)
        (fun v hm => by
          obtain ⟨i, hi⟩ := List.getElem?_of_mem hm
          have hi' : i < vs.length := by
            rcases Nat.lt_or_ge i vs.length with g | g
            · exact g
            · rw [List.getElem?_eq_none (by omega)] at hi; cases hi
          obtain ⟨v', e1, e2⟩ := hv.get? (List.getElem?_eq_getElem hi')
          rw [hi] at e1; cases e1
          rw [e2.one]
          exact hone _ (List.getElem_mem hi'))
        (fun j g1 g2 g3 => by
          have := ho.frz hown j g3.1 g3.2 (by have := ho.fit; omega)
          omega)
      refine ⟨_, hrun, ?_, alone_next _ _⟩
      refine h1.setRow (alone_row _ _ hb) hown hp (fun x u q hx hu lu ou hq => away x u q p hx hu lu ou hq hp) hown rfl ?_
      refine ⟨spl cs (p.off + a.off + 0) cvs, fz, ?_⟩
      have hlt := h.lt _ _ hp
      refine { blk := putO_same w _ hlt, csz := by rw [size_spl]; exact ho.csz, opn := ho.opn, esz := ho.esz, fit := by rw [size_spl]; exact ho.fit, cell := ?_, frz := ?_, sb := ?_, exact := by rw [size_spl]; exact ho.exact }
      · intro i hi
        simp only [T.get_setL]
        rw [getD_spl _ _ _ _ (by have := ho.fit; omega)]
        by_cases g : a.off ≤ i ∧ i < a.off + vs.length
        · rw [if_pos g, if_pos (by omega)]
          obtain ⟨v', e1, e2⟩ := hv.get? (List.getElem?_eq_getElem (show i - a.off < vs.length by omega))
          refine ⟨_, List.getElem?_eq_getElem (by omega), ?_⟩
          rw [show p.off + i - (p.off + a.off + 0) = i - a.off from by omega, List.getD_eq_getElem?_getD, e1]
          exact e2
        · rw [if_neg g, if_neg (by omega)]
          exact ho.cell i hi
      · intro o j; rw [size_spl]; exact ho.frz o j
      · intro o; rw [size_spl]; exact ho.sb o
    · cases hs
  · cases hs
end
end Go.AM
