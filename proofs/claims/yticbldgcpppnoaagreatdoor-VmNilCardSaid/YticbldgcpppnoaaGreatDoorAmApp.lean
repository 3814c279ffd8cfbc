/- A row is added, in a block of its own or behind what lies in one: what append does. -/
import Derived.Test.YticbldgcpppnoaaGreatDoorAmOpt
import Derived.Laws.AppendOwn
namespace Go.AM
section
variable {E : Env} {P : Program} {nm : Nm} {K : Kp} {base : World} {φ : Emb} {A A' : St} {w : World} {ρ ρ' : Operand → Value} {nx : Nx}

theorem WR.addRow (h : WR nm K base φ A w) {p : Pl} {r : Row} {w' : World} {h1 : T AObj} {rest : List Nat}
    (hkill : ∀ c, h1.get c = A.h.get c ∨ h1.get c = some .dead) (hsize : w.heap.size ≤ w'.heap.size) (hpb : p.blk < w'.heap.size)
    (hsame : ∀ B, B < w.heap.size → B ≠ p.blk → w'.heap[B]? = w.heap[B]?) (hK : K p.blk = none)
    (hin : ∀ c o q, h1.get c = some o → o.live = true → φ c = some q → q.blk = p.blk →
      OR nm φ w'.heap q o ∧ ∃ s, o = .row s ∧ s.grp = r.grp ∧ c ∈ rest ∧ q.off + s.size ≤ p.off + r.size)
    (hrest : ∀ c, c ∈ rest → ∃ q, φ c = some q ∧ K q.blk = none)
    (hold : ∀ ms, A.g.get r.grp = some ms → ∀ c d, c ≠ d → c ∈ ms → d ∈ ms → (∃ o, h1.get c = some o ∧ o.live = true) → (∃ o, h1.get d = some o ∧ o.live = true) → c ∈ rest ∧ d ∈ rest)
    (htip : ∀ c s q, c ∈ rest → h1.get c = some (.row s) → φ c = some q → q.blk = p.blk → q.off + s.size ≤ p.off + r.size)
    (hr : ∃ cs fz, RowR nm (φ.upd A.next p) w'.heap p r cs fz) (hown : r.own = true) (henv : w'.tape = w.tape ∧ w'.os = w.os ∧ w'.output = w.output) :
    WR nm K base (φ.upd A.next p) { A with next := A.next + 1, h := h1.set A.next (.row r), g := A.g.set r.grp (A.next :: rest) } w' := by
  have hn := h.dom A.next (Nat.le_refl _)
  have hle := Emb.upd_le p hn
  have keep : ∀ c o, h1.get c = some o → o.live = true → A.h.get c = some o := by
    intro c o hc hl
    rcases hkill c with g | g
    · rw [← g]; exact hc
    · rw [g] at hc; cases hc; simp [AObj.live] at hl
  have orOld : ∀ c o q, h1.get c = some o → o.live = true → φ c = some q → OR nm (φ.upd A.next p) w'.heap q o := by
    intro c o q hc hl hq
    by_cases hb : q.blk = p.blk
    · exact (hin c o q hc hl hq hb).1.mono hle rfl
    · obtain ⟨q', e1, e2, _⟩ := h.obj c o (keep c o hc hl) hl
      rw [hq] at e1; cases e1
      exact e2.mono hle (hsame _ (h.lt _ _ hq) hb)
  refine ⟨?_, ?_, ?_, ?_, ?_, ?_, ?_, ?_, Nat.le_trans h.size hsize, fun x u q hx hl hu hq => (by
    simp only [] at hx
    by_cases e : x = A.next
    · subst e; rw [T.get_set_same] at hx; cases hx; rw [show AObj.own (.row r) = true from hown] at hu; cases hu
    · rw [T.get_set_other _ _ e] at hx; rw [Emb.upd_other φ p e] at hq; exact h.old x u q (keep x u hx hl) hl hu hq)⟩
  · intro x hx
    have hx' : A.next + 1 ≤ x := hx
    rw [Emb.upd_other φ p (by omega)]; exact h.dom x (by omega)
  · intro x q hx
    by_cases e : x = A.next
    · subst e; rw [Emb.upd_same] at hx; cases hx; exact hpb
    · rw [Emb.upd_other φ p e] at hx; exact Nat.lt_of_lt_of_le (h.lt _ _ hx) hsize
  · intro x u hx hl
    simp only [] at hx
    by_cases e : x = A.next
    · subst e
      rw [T.get_set_same] at hx; cases hx
      exact ⟨p, Emb.upd_same _ _ _, hr, by rw [hK]; exact hown.symm⟩
    · rw [T.get_set_other _ _ e] at hx
      obtain ⟨q, g1, g2, g3⟩ := h.obj x u (keep x u hx hl) hl
      exact ⟨q, hle _ _ g1, orOld x u q hx hl g1, g3⟩
  · intro B u hB
    have := h.key _ _ hB
    have hlt : B < w.heap.size := (Array.getElem?_eq_some_iff.1 this).1
    rw [hsame B hlt (by rintro rfl; rw [hK] at hB; cases hB)]
    exact this
  · intro x y ox oy px py hxy hx hy lx ly wx wy ex ey hblk
    simp only [] at hx hy
    by_cases e1 : x = A.next
    · subst e1
      rw [T.get_set_same] at hx; cases hx
      rw [Emb.upd_same] at ex; cases ex
      have e2 : y ≠ A.next := fun e => hxy e.symm
      rw [T.get_set_other _ _ e2] at hy
      rw [Emb.upd_other φ p e2] at ey
      obtain ⟨_, s, rfl, g1, g2, _⟩ := hin y oy py hy ly ey hblk.symm
      exact ⟨r, s, A.next :: rest, rfl, rfl, g1.symm, T.get_set_same _ _ _, by simp, by simp [g2]⟩
    · rw [T.get_set_other _ _ e1] at hx
      rw [Emb.upd_other φ p e1] at ex
      by_cases e2 : y = A.next
      · subst e2
        rw [T.get_set_same] at hy; cases hy
        rw [Emb.upd_same] at ey; cases ey
        obtain ⟨_, s, rfl, g1, g2, _⟩ := hin x ox px hx lx ex hblk
        exact ⟨s, r, A.next :: rest, rfl, rfl, g1, by rw [g1]; exact T.get_set_same _ _ _, by simp [g2], by simp⟩
      · rw [T.get_set_other _ _ e2] at hy
        rw [Emb.upd_other φ p e2] at ey
        obtain ⟨r1, r2, ms, g1, g2, g3, g4, g5, g6⟩ := h.sep x y ox oy px py hxy (keep _ _ hx lx) (keep _ _ hy ly) lx ly wx wy ex ey hblk
        by_cases eg : r1.grp = r.grp
        · obtain ⟨k1, k2⟩ := hold ms (eg ▸ g4) x y hxy g5 g6 ⟨ox, hx, lx⟩ ⟨oy, hy, ly⟩
          exact ⟨r1, r2, A.next :: rest, g1, g2, g3, by rw [eg]; exact T.get_set_same _ _ _, by simp [k1], by simp [k2]⟩
        · exact ⟨r1, r2, ms, g1, g2, g3, by simp only []; rw [T.get_set_other _ _ eg]; exact g4, g5, g6⟩
  · intro g m ms hgm x hx s1 s2 px py k1 k2 e1 e2 hblk
    simp only [] at hgm k1 k2
    by_cases eg : g = r.grp
    · subst eg
      rw [T.get_set_same] at hgm
      simp only [Option.some.injEq, List.cons.injEq] at hgm
      obtain ⟨rfl, rfl⟩ := hgm
      rw [T.get_set_same] at k2; cases k2
      rw [Emb.upd_same] at e2; cases e2
      by_cases ex : x = A.next
      · subst ex
        obtain ⟨_, this, _⟩ := hrest _ hx
        rw [hn] at this; cases this
      · rw [T.get_set_other _ _ ex] at k1
        rw [Emb.upd_other φ p ex] at e1
        exact htip x s1 px hx k1 e1 hblk
    · rw [T.get_set_other _ _ eg] at hgm
      have hmem : ∀ z, z ∈ m :: ms → z ≠ A.next := by
        intro z hz e
        subst e
        have := h.has hgm hz
        rw [hn] at this; cases this
      have x1 := hmem x (by simp [hx])
      have x2 := hmem m (by simp)
      rw [T.get_set_other _ _ x1] at k1
      rw [T.get_set_other _ _ x2] at k2
      rw [Emb.upd_other φ p x1] at e1
      rw [Emb.upd_other φ p x2] at e2
      exact h.tip g m ms hgm x hx s1 s2 px py (keep _ _ k1 rfl) (keep _ _ k2 rfl) e1 e2 hblk
  · intro g ms hgm z hz
    simp only [] at hgm
    by_cases eg : g = r.grp
    · subst eg
      rw [T.get_set_same] at hgm
      cases hgm
      rcases List.mem_cons.1 hz with e | e
      · subst e; exact ⟨p, Emb.upd_same _ _ _, hK⟩
      · obtain ⟨q, h1, h2⟩ := hrest z e
        exact ⟨q, hle _ _ h1, h2⟩
    · rw [T.get_set_other _ _ eg] at hgm
      obtain ⟨q, h1, h2⟩ := h.grp g ms hgm z hz
      exact ⟨q, hle _ _ h1, h2⟩
  · obtain ⟨a, b, c⟩ := h.env
    exact ⟨henv.1.trans a, henv.2.1.trans b, henv.2.2.trans c⟩
end
end Go.AM

namespace Go.AM
section
variable {E : Env} {P : Program} {nm : Nm} {K : Kp} {base : World} {φ : Emb} {A A' : St} {w : World} {ρ ρ' : Operand → Value} {nx : Nx}

/-- Cells that are read, in every world with the same memory. -/
def ReadsAs (P : Program) (w : World) (s : Sem (Array Value)) (cvs : List Value) : Prop := ∀ w2 : World, w2.heap = w.heap → s.run P w2 = .ok cvs.toArray w2

theorem cell_same {w w2 : World} (h : w2.heap = w.heap) (a : Addr) : w2.cell? a = w.cell? a := by simp [World.cell?, h]

/-- The place of a slice that is not empty. -/
theorem slc_place {a : Addr} {l k : Nat} {c : Value} (h : VR nm φ (.slice (some a) l k) c) (hl : 0 < l) :
    ∃ k' p, c = .slice (some ⟨p.blk, p.off + a.off, none⟩) l k' ∧ φ a.block = some p ∧ a.spot = none ∧ (p.opn = false → k' = k) ∧ (p.opn = true → k ≤ k' ∧ p.off + a.off + k' * p.esz ≤ p.csz) ∧ l ≤ k := by
  obtain ⟨a', k', p, rfl, hp, hsp, q1, q2, q3, q4, q5, q6⟩ := h.slc_inv
  have hk : ¬ k' = 0 := by
    intro e
    cases ho : p.opn with
    | true => have := (q5 ho).1; omega
    | false => have := q4 ho; omega
  have haddr : a' = ⟨p.blk, p.off + a.off, none⟩ := by
    cases a'; simp only [] at q1 q2 q3
    simp [q1, q2, q3.resolve_left hk]
  subst haddr
  exact ⟨k', p, rfl, hp, hsp, q4, q5, q6⟩

theorem firstN_ok (h : WR nm K base φ A w) {sz n : Nat} {x x' : Value} {vs : List Value} (hx : VR nm φ x x') (hf : firstN A sz n x = some vs) (hn : ∀ a l c, x = .slice (some a) l c → n ≤ l) :
    ∃ cvs, LR nm φ vs cvs ∧ ReadsAs P w (Builtin.firstCells sz n x') cvs := by
  unfold firstN at hf
  split at hf
  · rename_i a l c
    by_cases hz : n * sz = 0
    · have hl : vs = [] := by
        unfold St.loadN at hf
        split at hf
        · cases hf
        split at hf
        · split at hf
          · exact List.eq_nil_of_length_eq_zero ((T.range_some _ _ _ _ hf).1.trans hz)
          · cases hf
        · cases hf
      subst hl
      obtain ⟨a', k', p, rfl, _⟩ := hx.slc_inv
      exact ⟨[], .nil, fun w2 _ => by simp [Builtin.firstCells, hz, loadCells, loadCellsFrom]⟩
    · have hn0 : 0 < n := by
        rcases Nat.eq_zero_or_pos n with g | g
        · subst g; simp at hz
        · exact g
      obtain ⟨k', p, rfl, hp, hsp, _⟩ := slc_place hx (Nat.lt_of_lt_of_le hn0 (hn a l c rfl))
      obtain ⟨cvs, hr⟩ := h.load hf hp
      refine ⟨cvs, hr.rel, fun w2 hw => ?_⟩
      have : Rd nm φ w2 ⟨p.blk, p.off + a.off, none⟩ (n * sz) vs cvs := ⟨hr.len, hr.rel, fun j v hj => by rw [cell_same hw]; exact hr.cell j v hj⟩
      exact this.run
  · rename_i l c
    split at hf
    · rename_i hn
      cases hf
      rw [hx.nils_inv]
      exact ⟨[], .nil, fun w2 _ => by simp [Builtin.firstCells]⟩
    · cases hf
  · rename_i s
    cases hf
    rw [hx.str_inv]
    refine ⟨_, LR.map _ fun b _ => .int _ _, fun w2 _ => ?_⟩
    simp only [Builtin.firstCells, Sem.run_pure]
    congr 1
    apply Array.ext'
    simp
  · cases hf

/-- What is appended, as the model reads it. -/
inductive News (P : Program) (w : World) (t1 e : TypeId) (i : TypeInfo) (x' : Value) (n : Nat) (cnew : List Value) : Prop where
  | plain (d1 : TypeDesc) : (∀ w2 : World, (underlying t1).run P w2 = .ok d1 w2) → (∀ k, d1 ≠ .int k) → (∀ w2 : World, (Builtin.lenOf x').run P w2 = .ok n w2) →
      ReadsAs P w (Builtin.firstCells i.size n x') cnew → News P w t1 e i x' n cnew
  | zeros (k k0 : IntKind) (z : Value) : (∀ w2 : World, (underlying t1).run P w2 = .ok (.int k) w2) → x' = .int k0 n → n ≤ 4294967296 → (∀ w3 : World, (zeroValue e).run P w3 = .ok z w3) → z.cells.size = i.size →
      cnew = zeros z.cells.toList n → News P w t1 e i x' n cnew

theorem newCells_ok (ok : EnvOk E P nm) (h : WR nm K base φ A w) {t1 : TypeId} {d1 : TypeDesc} {e : TypeId} {i : TypeInfo} {x x' : Value} {n : Nat} {new : List Value}
    (hd : E.und t1 = some d1) (hx : VR nm φ x x') (hf : newCells E A d1 e i x = some (n, new)) : ∃ cnew, LR nm φ new cnew ∧ News P w t1 e i x' n cnew := by
  unfold newCells at hf
  split at hf
  · rename_i k
    split at hf
    · rename_i k0 m z hz
      split at hf
      · rename_i hc
        cases hf
        obtain ⟨q, rfl⟩ := Int.eq_ofNat_of_zero_le hc.1
        refine ⟨_, zeros_rel (zero_cells hz φ) _, .zeros k k0 z (fun w2 => ok.run_und hd w2) ?_ ?_ (fun w3 => ok.run_zero hz w3) hc.2.2 rfl⟩
        · rw [hx.int_inv]; simp
        · simp only [Int.toNat_natCast]; omega
      · cases hf
    · cases hf
  · rename_i hni
    split at hf
    · rename_i m hl
      split at hf
      · rename_i nw hfn
        cases hf
        obtain ⟨cvs, h1, h2⟩ := firstN_ok (P := P) h hx hfn (fun a l c e => by subst e; simp [lenV] at hl; omega)
        refine ⟨cvs, h1, .plain d1 (fun w2 => ok.run_und hd w2) (fun k e => hni k e) (fun w2 => ?_) h2⟩
        unfold lenV at hl
        split at hl
        · rename_i b l c
          cases hl
          cases b with
          | none => rw [hx.nils_inv]; rfl
          | some b => obtain ⟨a', k', p, rfl, _⟩ := hx.slc_inv; rfl
        · cases hl; rw [hx.str_inv]; rfl
        · cases hl
      · cases hf
    · cases hf

/-- The run of append where there is room. -/
theorem run_app_in {t t1 ty e : TypeId} {i : TypeInfo} {bs : Option Addr} {len c n : Nat} {x' : Value} {cnew : List Value} (ht : ∀ w2 : World, (underlying t).run P w2 = .ok (.slice e) w2)
    (hi : ∀ w2 : World, (typeInfo e).run P w2 = .ok i w2) (hs : ∀ w2 : World, (sizeOf e).run P w2 = .ok i.size w2) (hn : News P w t1 e i x' n cnew) (hroom : len + n ≤ c) (hcap : n * i.bytes ≤ 140737488355328) (hz : n = 0 ∨ i.size ≠ 0) :
    (Builtin.append_ #[t, t1] ty #[.slice bs len c, x']).run P w =
      ((match bs with | some a => storeCells (a.add (len * i.size)) cnew | none => pure ()).run P w).andThen fun _ w' => .ok (.slice bs (len + n) c) w' := by
  cases hn with
  | plain d1 h1 h2 h3 h4 =>
    have hne : (d1 matches .int _) = false := by cases d1 <;> first | rfl | (exact absurd rfl (h2 _))
    have h4' := h4 w rfl
    simp only [Builtin.append_, List.getElem?_toArray, List.getElem?_cons_zero, List.getElem?_cons_succ, Sem.run_bind, ht, hs, Result.andThen_ok, h1, Sem.run_pure, Bool.false_eq_true, if_false, h3, Bool.not_false, if_true]
    rw [if_pos hroom]
    simp only [Sem.run_bind, h4', Result.andThen_ok]
    cases bs <;> simp
  | zeros k k0 z h1 h2 h3 h4 h5 h6 =>
    subst h2
    subst h6
    have w1 : IntKind.i64.wrap (n : Int) = n := by unfold IntKind.wrap; simp [IntKind.bits, IntKind.signed]; omega
    have big : ¬ ((2 : Int) ^ 48 < (n : Int) * i.bytes) := by
      have : ((n * i.bytes : Nat) : Int) = (n : Int) * i.bytes := by simp
      omega
    have hzc : Builtin.zeroCells z.cells n = (zeros z.cells.toList n).toArray := by
      unfold Builtin.zeroCells
      exact zeros_eq z.cells n z.cells.size rfl
    simp only [Builtin.append_, List.getElem?_toArray, List.getElem?_cons_zero, List.getElem?_cons_succ, Sem.run_bind, ht, hs, Result.andThen_ok, h1, Sem.run_pure, if_true, asInt, asIntOf, w1]
    rw [if_neg (by omega)]
    simp only [Sem.run_bind, hi, Result.andThen_ok]
    rw [if_neg (by simpa using big)]
    simp only [Sem.run_bind, Sem.run_pure, Result.andThen_ok, Int.toNat_natCast, Bool.not_true, Bool.false_eq_true, if_false]
    rw [if_pos hroom]
    by_cases h0 : n * i.size = 0
    · have hn0 : n = 0 := by
        rcases Nat.mul_eq_zero.1 h0 with g | g
        · exact g
        · exact hz.resolve_right (fun f => f g)
      subst hn0
      rw [if_pos h0]
      simp only [Sem.run_bind, Sem.run_pure, Result.andThen_ok, zeros]
      cases bs <;> simp [storeCells]
    · rw [if_neg h0]
      simp only [Sem.run_bind, h4, Sem.run_pure, Result.andThen_ok, hzc]
      cases bs <;> simp

/-- The run of append where there is none. -/
theorem run_app_grow {t t1 ty e : TypeId} {i : TypeInfo} {bs : Option Addr} {len c n : Nat} {x' z : Value} {cold cnew : List Value} (ht : ∀ w2 : World, (underlying t).run P w2 = .ok (.slice e) w2)
    (hi : ∀ w2 : World, (typeInfo e).run P w2 = .ok i w2) (hs : ∀ w2 : World, (sizeOf e).run P w2 = .ok i.size w2) (hzv : ∀ w2 : World, (zeroValue e).run P w2 = .ok z w2)
    (hn : News P w t1 e i x' n cnew) (hold : ReadsAs P w (Builtin.firstCells i.size len (.slice bs len c)) cold) (hroom : ¬ len + n ≤ c) (h63 : len + n ≤ 4611686018427387904)
    (hcap : (len + n) * i.bytes ≤ 140737488355328) (hz : i.size ≠ 0) :
    (Builtin.append_ #[t, t1] ty #[.slice bs len c, x']).run P w =
      .ok (.slice (some ⟨w.heap.size, 0, none⟩) (len + n) (grownCap w (len + n) c e))
        (w.drew.alloc (.cells ((cold ++ cnew).toArray ++ Builtin.zeroCells z.cells (grownCap w (len + n) c e - (len + n))) e)) := by
  have h63' : ¬ (((len + n : Nat) : Int) > IntKind.i64.max) := by simp [IntKind.max, IntKind.bits, IntKind.signed]; omega
  have hfits : ¬ (Builtin.nextslicecap (len + n) c * i.bytes > 2 ^ 48) := by
    have := growslice_fits (bytes := i.bytes) (show c < len + n by omega) hcap
    omega
  have hd : w.drew.heap = w.heap := rfl
  have hol := hold w.drew hd
  have room : ∀ (m : Nat) (w2 : World), (askRoom m).run P w2 = .ok () w2 := by
    intro m w2
    unfold askRoom
    split <;> rfl
  have hch : ∀ need old : Nat, (choose (.appendCap need old e)).run P w = .ok ((Question.appendCap need old e).cut (w.tape w.drawn (.appendCap need old e))) w.drew := by
    intro need old
    exact run_choose _ _ _ |>.trans rfl
  cases hn with
  | plain d1 h1 h2 h3 h4 =>
    have hne : (d1 matches .int _) = false := by cases d1 <;> first | rfl | (exact absurd rfl (h2 _))
    have h4' := h4 w.drew hd
    simp only [Builtin.append_, List.getElem?_toArray, List.getElem?_cons_zero, List.getElem?_cons_succ, Sem.run_bind, ht, hs, Result.andThen_ok, h1, Sem.run_pure, Bool.false_eq_true, if_false, h3, Bool.not_false, if_true]
    rw [if_neg hroom]
    simp only [Sem.run_bind, hi, Result.andThen_ok]
    rw [if_neg (fun g => h63' g.1)]
    simp only [Sem.run_bind, Result.andThen_ok, hi]
    rw [if_neg hfits]
    simp only [Sem.run_bind, Sem.run_pure, Result.andThen_ok, hch, hi, room, hol, h4', hzv, newRow, run_newObj, Sem.run_bind, Sem.run_pure]
    simp
    exact ⟨rfl, rfl⟩
  | zeros k k0 zv h1 h2 h3 h4 h5 h6 =>
    subst h2
    subst h6
    have w1 : IntKind.i64.wrap (n : Int) = n := by unfold IntKind.wrap; simp [IntKind.bits, IntKind.signed]; omega
    have big : ¬ ((2 : Int) ^ 48 < (n : Int) * i.bytes) := by
      have : ((n * i.bytes : Nat) : Int) = (n : Int) * i.bytes := by simp
      have := Nat.le_trans (Nat.mul_le_mul_right i.bytes (Nat.le_add_left n len)) hcap
      omega
    have hzc : Builtin.zeroCells zv.cells n = (zeros zv.cells.toList n).toArray := by
      unfold Builtin.zeroCells
      exact zeros_eq zv.cells n zv.cells.size rfl
    have hap : Sem.run P (if n * i.size = 0 then pure #[] else (do let a ← zeroValue e; pure (Builtin.zeroCells a.cells n)) : Sem (Array Value)) w.drew = .ok (zeros zv.cells.toList n).toArray w.drew := by
      by_cases h0 : n * i.size = 0
      · have hn0 : n = 0 := by
          rcases Nat.mul_eq_zero.1 h0 with g | g
          · exact g
          · exact absurd g hz
        subst hn0
        rw [if_pos h0]
        simp [zeros]
      · rw [if_neg h0]
        simp only [Sem.run_bind, h4, Sem.run_pure, Result.andThen_ok, hzc]
    simp only [Builtin.append_, List.getElem?_toArray, List.getElem?_cons_zero, List.getElem?_cons_succ, Sem.run_bind, ht, hs, Result.andThen_ok, h1, Sem.run_pure, if_true, asInt, asIntOf, w1]
    rw [if_neg (by omega)]
    simp only [Sem.run_bind, hi, Result.andThen_ok]
    rw [if_neg (by simpa using big)]
    simp only [Sem.run_bind, Sem.run_pure, Result.andThen_ok, Int.toNat_natCast, Bool.not_true, Bool.false_eq_true, if_false]
    rw [if_neg hroom]
    simp only [Sem.run_bind, hi, Result.andThen_ok]
    rw [if_neg (fun g => h63' g.1)]
    simp only [Sem.run_bind, Result.andThen_ok, hi]
    rw [if_neg hfits]
    simp only [Sem.run_bind, Sem.run_pure, Result.andThen_ok, hch, hi, room, hol]
    rw [hap]
    simp only [hzv, Result.andThen_ok, newRow, newObj, Sem.run_bind]
    simp
    rfl
end
end Go.AM

namespace Go.AM
section
variable {E : Env} {P : Program} {nm : Nm} {K : Kp} {base : World} {φ : Emb} {A A' : St} {w : World} {ρ ρ' : Operand → Value} {nx : Nx}

/-- What append comes to. -/
def AppGoal (P : Program) (nm : Nm) (K : Kp) (base : World) (φ : Emb) (A : St) (w : World) (s : Sem Value) (v : Value) (A' : St) : Prop :=
  ∃ φ' w' v', Emb.ext A.next φ φ' ∧ A.next ≤ A'.next ∧ WR nm K base φ' A' w' ∧ VR nm φ' v v' ∧ s.run P w = .ok v' w'

/-- The new array. -/
def plGrow (w : World) (csz sz : Nat) : Pl := { blk := w.heap.size, off := 0, csz, esz := sz, opn := true }

theorem openRow_rel {vs cvs : List Value} {pad : Array Value} {e : TypeId} {sz g : Nat} {cells : T Value} {size frz : Nat} {sb : Bool} {hp : Array Obj} (hv : LR nm φ vs cvs) (hc : ∀ i, i < vs.length → cells.get i = vs[i]?)
    (hsz : size = vs.length) (hsize : hp.size = w.heap.size) :
    RowR nm φ (hp.push (.cells (cvs.toArray ++ pad) e)) (plGrow w (cvs.length + pad.size) sz) (openRow cells size e sz g frz sb) (cvs.toArray ++ pad) (0, 0) := by
  have hlen := hv.length
  refine { blk := ?_, csz := by simp [plGrow], opn := rfl, esz := fun _ => rfl, fit := ?_, cell := ?_, frz := fun _ j h1 h2 => by simp at h2, sb := fun _ _ => .inl rfl, exact := fun h => by simp [openRow] at h }
  · simp [plGrow, openRow, ← hsize]
  · simp [plGrow, openRow, hsz, hlen]
  · intro i hi
    simp only [openRow, hsz] at hi
    refine ⟨_, (hc i hi).trans (List.getElem?_eq_getElem hi), ?_⟩
    obtain ⟨v', e1, e2⟩ := hv.get? (List.getElem?_eq_getElem hi)
    have : (cvs.toArray ++ pad).getD ((plGrow w (cvs.length + pad.size) sz).off + i) undef = v' := by
      simp only [plGrow, Nat.zero_add]
      rw [Array.getD_eq_getD_getElem?, Array.getElem?_append_left (by simp; omega)]
      simp [e1]
    rw [this]; exact e2

theorem appNew_ok (h : WR nm K base φ A w) {e : TypeId} {sz n : Nat} {cells cvs : List Value} {pad : Array Value} {cap : Nat} (hv : LR nm φ cells cvs) (_hlen : cells.length = n * sz)
    (hcap : n ≤ cap) (hpad : cvs.length + pad.size = cap * sz) :
    ∃ φ', Emb.ext A.next φ φ' ∧ WR nm K base φ' (appNew A e sz n cells).2 (w.drew.alloc (.cells (cvs.toArray ++ pad) e)) ∧ VR nm φ' (appNew A e sz n cells).1 (.slice (some ⟨w.heap.size, 0, none⟩) n cap) := by
  have hn := h.dom A.next (Nat.le_refl _)
  let p := plGrow w (cvs.length + pad.size) sz
  refine ⟨φ.upd A.next p, Emb.upd_ext _ _ _, ?_, ?_⟩
  · refine (h.drew (w.drawn + 1)).new A.next p _ _ (A.next + 1) hn (Nat.le_succ _) (Nat.lt_succ_self _) rfl ?_ rfl
    exact ⟨_, _, openRow_rel (w := w) (hv.mono (Emb.upd_le p hn)) (fun i _ => T.get_ofList _ _) rfl rfl⟩
  · refine .slc ⟨A.next, 0, none⟩ ⟨w.heap.size, 0, none⟩ n n cap p (Emb.upd_same _ _ _) rfl rfl rfl (.inr rfl) (fun g => by cases g) (fun _ => ⟨hcap, ?_⟩) (Nat.le_refl _)
    show 0 + cap * sz ≤ cvs.length + pad.size
    omega

/-- What is left of the rows in one block, when it is appended behind one. -/
structure ModeOk (K : Kp) (φ : Emb) (A : St) (b : Nat) (r : Row) (p : Pl) (reach : Bool) (h1 : T AObj) (rest : List Nat) : Prop where
  kill : ∀ c, h1.get c = A.h.get c ∨ h1.get c = some .dead
  near : ∀ c o q, h1.get c = some o → o.live = true → φ c = some q → q.blk = p.blk → reach = true ∧ ∃ s, o = .row s ∧ s.grp = r.grp ∧ c ∈ rest ∧ q.off + s.size ≤ p.off + r.size
  has : ∀ c, c ∈ rest → ∃ q, φ c = some q ∧ K q.blk = none
  old : ∀ ms, A.g.get r.grp = some ms → ∀ c d, c ≠ d → c ∈ ms → d ∈ ms → (∃ o, h1.get c = some o ∧ o.live = true) → (∃ o, h1.get d = some o ∧ o.live = true) → c ∈ rest ∧ d ∈ rest

theorem appMode_ok (h : WR nm K base φ A w) {b : Nat} {r : Row} {p : Pl} (hb : A.h.get b = some (.row r)) (hown : r.own = true) (hp : φ b = some p) (reach : Bool) :
    ModeOk K φ A b r p reach (appMode A b r reach).1 (appMode A b r reach).2 := by
  have hKb : K p.blk = none := by
    obtain ⟨q, e1, _, e3⟩ := h.obj b _ hb rfl
    rw [hp] at e1; cases e1
    have : (K p.blk).isNone = true := e3.trans hown
    simpa using this
  have hbn : b < A.next := by
    rcases Nat.lt_or_ge b A.next with g | g
    · exact g
    · rw [h.dom b g] at hp; cases hp
  have near : ∀ c o q, c ≠ b → A.h.get c = some o → o.live = true → φ c = some q → q.blk = p.blk →
      ∃ s ms, o = .row s ∧ s.grp = r.grp ∧ A.g.get r.grp = some ms ∧ b ∈ ms ∧ c ∈ ms := by
    intro c o q hcb hc lo hq hblk
    obtain ⟨r1, s, ms, e1, e2, e3, e4, e5, e6⟩ := h.near (Ne.symm hcb) hb hc rfl lo hown hp hq hblk.symm
    cases e1
    exact ⟨s, ms, e2, e3.symm, e4, e5, e6⟩
  have dead : ∀ {o : AObj}, (some AObj.dead : Option AObj) = some o → o.live = true → False := by
    intro o e hl; cases e; simp [AObj.live] at hl
  unfold appMode
  cases hg : A.g.get r.grp with
  | none =>
    cases reach with
    | true =>
      refine ⟨fun c => .inl rfl, ?_, ?_, fun ms hms => (by rw [hg] at hms; cases hms)⟩
      · intro c o q hc lo hq hblk
        by_cases e : c = b
        · subst e
          rw [if_pos rfl] at hc
          rw [hb] at hc; cases hc
          rw [hp] at hq; cases hq
          exact ⟨rfl, r, rfl, rfl, by simp, Nat.le_refl _⟩
        · obtain ⟨s, ms, _, _, g, _⟩ := near c o q e hc lo hq hblk
          rw [hg] at g; cases g
      · intro c hc; simp at hc; subst hc; exact ⟨p, hp, hKb⟩
    | false =>
      simp only [Bool.false_eq_true, if_false]
      refine ⟨fun c => ?_, ?_, fun c hc => by simp at hc, fun ms hms => (by rw [hg] at hms; cases hms)⟩
      · by_cases e : c = b
        · subst e; right; exact T.get_set_same _ _ _
        · left; exact T.get_set_other _ _ e
      · intro c o q hc lo hq hblk
        by_cases e : c = b
        · subst e; rw [T.get_set_same] at hc; exact (dead hc lo).elim
        · rw [T.get_set_other _ _ e] at hc
          obtain ⟨s, ms, _, _, g, _⟩ := near c o q e hc lo hq hblk
          rw [hg] at g; cases g
  | some ms =>
    cases reach with
    | true =>
      simp only [if_true]
      cases ms with
      | nil =>
        refine ⟨fun c => .inl rfl, ?_, ?_, fun ms hms => ?_⟩
        · intro c o q hc lo hq hblk
          by_cases e : c = b
          · subst e
            rw [hb] at hc; cases hc
            rw [hp] at hq; cases hq
            exact ⟨rfl, r, rfl, rfl, by simp, Nat.le_refl _⟩
          · obtain ⟨s, ms, _, _, g, k, _⟩ := near c o q e hc lo hq hblk
            rw [hg] at g; cases g; cases k
        · intro c hc; simp at hc; subst hc; exact ⟨p, hp, hKb⟩
        · rw [hg] at hms; cases hms; intro c d _ hc; cases hc
      | cons m ms =>
        simp only []
        by_cases em : m = b
        · subst em
          rw [if_pos (Nat.beq_refl m)]
          refine ⟨fun c => .inl rfl, ?_, ?_, fun ms' hms => ?_⟩
          · intro c o q hc lo hq hblk
            by_cases e : c = m
            · subst e
              rw [hb] at hc; cases hc
              rw [hp] at hq; cases hq
              exact ⟨rfl, r, rfl, rfl, by simp, Nat.le_refl _⟩
            · obtain ⟨s, ms', rfl, e2, g, k1, k2⟩ := near c o q e hc lo hq hblk
              rw [hg] at g; cases g
              refine ⟨rfl, s, rfl, e2, k2, ?_⟩
              have hcm : c ∈ ms := by simpa [e] using k2
              exact h.tip r.grp m ms hg c hcm s r q p hc hb hq hp hblk
          · intro c hc; exact h.grp r.grp _ hg c hc
          · rw [hg] at hms; cases hms
            intro c d _ hc hd _ _; exact ⟨hc, hd⟩
        · rw [if_neg (by simpa using em)]
          simp only []
          refine ⟨fun c => ?_, ?_, ?_, fun ms' hms => ?_⟩
          · rw [get_kill]
            split
            · exact .inr rfl
            · exact .inl rfl
          · intro c o q hc lo hq hblk
            rw [get_kill] at hc
            split at hc
            · exact (dead hc lo).elim
            · rename_i hk
              by_cases e : c = b
              · subst e
                rw [hb] at hc; cases hc
                rw [hp] at hq; cases hq
                exact ⟨rfl, r, rfl, rfl, by simp, Nat.le_refl _⟩
              · obtain ⟨s, ms', _, _, g, _, k2⟩ := near c o q e hc lo hq hblk
                rw [hg] at g; cases g
                exact absurd ⟨k2, e⟩ hk
          · intro c hc; simp at hc; subst hc; exact ⟨p, hp, hKb⟩
          · rw [hg] at hms; cases hms
            intro c d hcd hc hd ⟨o, ho, lo⟩ ⟨u, hu, lu⟩
            rw [get_kill] at ho hu
            split at ho
            · exact (dead ho lo).elim
            · rename_i k1
              split at hu
              · exact (dead hu lu).elim
              · rename_i k2
                have e1 : c = b := Classical.byContradiction fun e => k1 ⟨hc, e⟩
                have e2 : d = b := Classical.byContradiction fun e => k2 ⟨hd, e⟩
                exact absurd (e1.trans e2.symm) hcd
    | false =>
      simp only [Bool.false_eq_true, if_false]
      refine ⟨fun c => ?_, ?_, fun c hc => by simp at hc, fun ms' hms => ?_⟩
      · rw [get_kill]
        split
        · exact .inr rfl
        · exact .inl rfl
      · intro c o q hc lo hq hblk
        rw [get_kill] at hc
        split at hc
        · exact (dead hc lo).elim
        · rename_i hk
          have hcn : c ≠ A.next := by
            rintro rfl
            rw [h.dom _ (Nat.le_refl _)] at hq; cases hq
          by_cases e : c = b
          · subst e; exact absurd ⟨by simp, hcn⟩ hk
          · obtain ⟨s, ms', _, _, g, _, k2⟩ := near c o q e hc lo hq hblk
            rw [hg] at g; cases g
            exact absurd ⟨by simp [k2], hcn⟩ hk
      · rw [hg] at hms; cases hms
        intro c d hcd hc hd ⟨o, ho, lo⟩ _
        rw [get_kill] at ho
        split at ho
        · exact (dead ho lo).elim
        · rename_i hk
          have hcn : c ≠ A.next := by
            rintro rfl
            have := h.has hg hc
            rw [h.dom _ (Nat.le_refl _)] at this; cases this
          exact absurd ⟨by simp [hc], hcn⟩ hk
end
end Go.AM

namespace Go.AM
section
variable {E : Env} {P : Program} {nm : Nm} {K : Kp} {base : World} {φ : Emb} {A A' : St} {w : World} {ρ ρ' : Operand → Value} {nx : Nx}

/-- The cells of the new row. -/
theorem appOpen_cells {r : Row} {off n : Nat} {old new : List Value} (hr : r.cells.range off n = some old) (i : Nat) (hi : i < (old ++ new).length) :
    (if Nat.beq (off + n) r.size && Nat.beq off 0 then r.cells.setL r.size new else T.ofList (old ++ new)).get i = (old ++ new)[i]? := by
  obtain ⟨g1, g2⟩ := T.range_some _ _ _ _ hr
  split
  · rename_i hc
    simp only [Bool.and_eq_true, Nat.beq_eq] at hc
    obtain ⟨c1, rfl⟩ := hc
    rw [Nat.zero_add] at c1
    rw [T.get_setL, ← c1]
    simp only [List.length_append] at hi
    by_cases e : n ≤ i
    · rw [if_pos (by omega), List.getElem?_append_right (by omega), g1]
    · rw [if_neg (by omega), List.getElem?_append_left (by omega)]
      have := g2 i (by omega)
      rwa [Nat.zero_add] at this
  · exact T.get_ofList _ _

/-- Behind an open row, in its own array. -/
theorem appOpen_in (h : WR nm K base φ A w) {a : Addr} {r : Row} {p : Pl} {sz len n k' : Nat} {old new cnew cold : List Value} (hb : A.h.get a.block = some (.row r)) (hown : r.own = true) (hopn : r.opn = true)
    (hesz : r.esz = sz) (hp : φ a.block = some p) (_hfit : a.off + len * sz ≤ r.size) (hr : r.cells.range a.off (len * sz) = some old) (hfrz : r.frz ≤ a.off + len * sz)
    (hnew : LR nm φ new cnew) (hnl : new.length = n * sz) (hone : new.all one = true) (hrd : Rd nm φ w ⟨p.blk, p.off + a.off, none⟩ (len * sz) old cold)
    (hk : len + n ≤ k') (hcap : p.off + a.off + k' * p.esz ≤ p.csz) :
    ∃ φ' w', Emb.ext A.next φ φ' ∧ WR nm K base φ' (appOpen A r a r.elem sz len n old new).2 w' ∧
      VR nm φ' (appOpen A r a r.elem sz len n old new).1 (.slice (some ⟨p.blk, p.off + a.off, none⟩) (len + n) k') ∧
      (storeCells ⟨p.blk, p.off + (a.off + len * sz), none⟩ cnew).run P w = .ok () w' := by
  have hn := h.dom A.next (Nat.le_refl _)
  obtain ⟨q, hq, ⟨cs, fz, ho⟩, hK⟩ := h.obj a.block _ hb rfl
  rw [hp] at hq; cases hq
  obtain ⟨g1, g2⟩ := T.range_some _ _ _ _ hr
  have hlenN := hnew.length
  have hesz' : p.esz = sz := (ho.esz hopn).trans hesz
  have hmul : (len + n) * sz = len * sz + n * sz := Nat.add_mul _ _ _
  have hbound : p.off + a.off + (len + n) * sz ≤ cs.size := by
    rw [← ho.csz]
    have : (len + n) * sz ≤ k' * p.esz := by rw [hesz']; exact Nat.mul_le_mul_right _ hk
    omega
  have hlt := h.lt _ _ hp
  have hrun := run_storeCells P p.blk (p.off + (a.off + len * sz)) r.elem fz cnew 0 cs w ho.blk (by omega)
    (fun v hm => by
      obtain ⟨i, hi⟩ := List.getElem?_of_mem hm
      have hi' : i < new.length := by
        rcases Nat.lt_or_ge i new.length with g | g
        · exact g
        · rw [List.getElem?_eq_none (by omega)] at hi; cases hi
      obtain ⟨v', e1, e2⟩ := hnew.get? (List.getElem?_eq_getElem hi')
      rw [hi] at e1; cases e1
      rw [e2.one]
      exact List.all_eq_true.1 hone _ (List.getElem_mem hi'))
    (fun j g1 g2 g3 => by
      have := ho.frz hown j g3.1 g3.2 (by omega)
      omega)
  let p' : Pl := { blk := p.blk, off := p.off + a.off, csz := p.csz, esz := p.esz, opn := true }
  have hm := appMode_ok h hb hown hp (Nat.beq (a.off + len * sz) r.size)
  refine ⟨φ.upd A.next p', _, Emb.upd_ext _ _ _, ?_, ?_, hrun⟩
  · refine h.addRow (p := p') (r := openRow _ ((len + n) * sz) r.elem sz r.grp (r.frz - a.off) r.sb) hm.kill (by simp) (by rw [size_putO]; exact hlt) (fun B _ hB => putO_other w _ hB) ?_ ?_ hm.has hm.old ?_ ?_ rfl ⟨rfl, rfl, rfl⟩
    · cases hkk : K p'.blk with
      | none => rfl
      | some x =>
        have hK' : (K p.blk).isNone = true := hK.trans hown
        rw [show K p.blk = some x from hkk] at hK'; cases hK'
    · intro c o q hc lo hq hblk
      obtain ⟨hre, s, rfl, e2, e3, e4⟩ := hm.near c o q hc lo hq hblk
      have hreach : a.off + len * sz = r.size := Nat.eq_of_beq_eq_true hre
      refine ⟨?_, s, rfl, e2, e3, ?_⟩
      · have hcA : A.h.get c = some (.row s) := by
          rcases hm.kill c with g | g
          · rw [← g]; exact hc
          · rw [g] at hc; cases hc
        obtain ⟨q', f1, ⟨cs', fz', hs⟩, _⟩ := h.obj c _ hcA rfl
        rw [hq] at f1; cases f1
        have hbq : q.blk = p.blk := hblk
        have hsame := hs.blk
        rw [hbq, ho.blk] at hsame
        simp only [Option.some.injEq, Obj.cells.injEq] at hsame
        obtain ⟨rfl, hel, rfl⟩ := hsame
        refine ⟨spl cs (p.off + (a.off + len * sz) + 0) cnew, fz, ?_⟩
        refine { blk := ?_, csz := by rw [size_spl]; exact hs.csz, opn := hs.opn, esz := hs.esz, fit := by rw [size_spl]; exact hs.fit, cell := ?_, frz := ?_, sb := ?_, exact := by rw [size_spl]; exact hs.exact }
        · rw [hbq, ← hel]; exact putO_same w _ hlt
        · intro i hi
          rw [getD_spl _ _ _ _ (by omega), if_neg (by omega)]
          exact hs.cell i hi
        · intro o j; rw [size_spl]; exact hs.frz o j
        · intro o; rw [size_spl]; exact hs.sb o
      · show q.off + s.size ≤ p.off + a.off + (len + n) * sz
        omega
    · intro c s q hc hs hq hblk
      obtain ⟨hre, s', e1, e2, e3, e4⟩ := hm.near c _ q hs rfl hq hblk
      cases e1
      have hreach : a.off + len * sz = r.size := Nat.eq_of_beq_eq_true hre
      show q.off + s.size ≤ p.off + a.off + (len + n) * sz
      omega
    · refine ⟨spl cs (p.off + (a.off + len * sz) + 0) cnew, fz, ?_⟩
      refine { blk := putO_same w _ hlt, csz := by rw [size_spl]; exact ho.csz, opn := rfl, esz := fun _ => hesz', fit := ?_, cell := ?_, frz := ?_, sb := ?_, exact := fun g => by cases g }
      · rw [size_spl]; exact hbound
      · intro i hi
        have hi' : i < (len + n) * sz := hi
        have hii : i < (old ++ new).length := by rw [List.length_append, g1, hnl]; omega
        refine ⟨_, (appOpen_cells hr i hii).trans (List.getElem?_eq_getElem hii), ?_⟩
        show VR nm _ _ ((spl cs (p.off + (a.off + len * sz) + 0) cnew).getD (p.off + a.off + i) undef)
        rw [getD_spl _ _ _ _ (by omega)]
        obtain ⟨v', e1, e2⟩ := ((hrd.rel.append hnew).mono (Emb.upd_le p' hn)).get? (List.getElem?_eq_getElem hii)
        by_cases e : len * sz ≤ i
        · rw [if_pos (by omega)]
          rw [List.getElem?_append_right (by rw [hrd.len]; exact e), hrd.len] at e1
          rw [show p.off + a.off + i - (p.off + (a.off + len * sz) + 0) = i - len * sz from by omega, List.getD_eq_getElem?_getD, e1]
          exact e2
        · rw [if_neg (by omega)]
          rw [List.getElem?_append_left (by rw [hrd.len]; omega)] at e1
          have hc := hrd.cell i v' e1
          rw [add_mk, cell_at ho.blk] at hc
          rw [Array.getD_eq_getD_getElem?, hc]
          exact e2
      · intro _ j; rw [size_spl]
        intro j1 j2 j3
        have := ho.frz hown j j1 j2 j3
        show j < p.off + a.off + (r.frz - a.off)
        omega
      · intro _ hsb; rw [size_spl]; exact ho.sb hown hsb
  · refine .slc ⟨A.next, 0, none⟩ ⟨p.blk, p.off + a.off, none⟩ (len + n) (len + n) k' p' (Emb.upd_same _ _ _) rfl rfl rfl (.inr rfl) (fun g => by cases g) (fun _ => ⟨hk, hcap⟩) (Nat.le_refl _)

/-- Behind an open row, in a new array. -/
theorem appOpen_new (h : WR nm K base φ A w) {a : Addr} {r : Row} {p : Pl} {sz len n cap : Nat} {old new cvs : List Value} {pad : Array Value} (hb : A.h.get a.block = some (.row r)) (hown : r.own = true)
    (hp : φ a.block = some p) (hr : r.cells.range a.off (len * sz) = some old) (hv : LR nm φ (old ++ new) cvs) (hnl : new.length = n * sz)
    (hcap : len + n ≤ cap) (hpad : cvs.length + pad.size = cap * sz) :
    ∃ φ', Emb.ext A.next φ φ' ∧ WR nm K base φ' (appOpen A r a r.elem sz len n old new).2 (w.drew.alloc (.cells (cvs.toArray ++ pad) r.elem)) ∧
      VR nm φ' (appOpen A r a r.elem sz len n old new).1 (.slice (some ⟨w.heap.size, 0, none⟩) (len + n) cap) := by
  have hn := h.dom A.next (Nat.le_refl _)
  obtain ⟨g1, g2⟩ := T.range_some _ _ _ _ hr
  have hmul : (len + n) * sz = len * sz + n * sz := Nat.add_mul _ _ _
  have hlen := hv.length
  rw [List.length_append] at hlen
  let p' := plGrow w (cvs.length + pad.size) sz
  have hm := appMode_ok h hb hown hp (Nat.beq (a.off + len * sz) r.size)
  have far : ∀ c q, φ c = some q → q.blk = p'.blk → False := by
    intro c q hq hblk
    have := h.lt _ _ hq
    have e : p'.blk = w.heap.size := rfl
    omega
  have hsz : (w.drew.alloc (.cells (cvs.toArray ++ pad) r.elem)).heap.size = w.heap.size + 1 := by show (w.heap.push _).size = _; simp
  refine ⟨φ.upd A.next p', Emb.upd_ext _ _ _, ?_, ?_⟩
  · refine h.addRow (p := p') (r := openRow _ ((len + n) * sz) r.elem sz r.grp (r.frz - a.off) r.sb) hm.kill (by omega) (by show w.heap.size < _; omega) (fun B hB _ => getElem?_push_lt hB) ?_ ?_ hm.has hm.old ?_ ?_ rfl ⟨rfl, rfl, rfl⟩
    · cases hkk : K p'.blk with
      | none => rfl
      | some x => have := h.key _ _ hkk; simp [p', plGrow] at this
    · intro c o q hc lo hq hblk; exact (far c q hq hblk).elim
    · intro c s q hc hs hq hblk; exact (far c q hq hblk).elim
    · exact ⟨_, _, openRow_rel (w := w) (hp := w.heap) (hv.mono (Emb.upd_le p' hn)) (fun i hi => appOpen_cells hr i hi) (by rw [List.length_append, g1, hnl]; exact hmul) rfl⟩
  · refine .slc ⟨A.next, 0, none⟩ ⟨w.heap.size, 0, none⟩ (len + n) (len + n) cap p' (Emb.upd_same _ _ _) rfl rfl rfl (.inr rfl) (fun g => by cases g) (fun _ => ⟨hcap, ?_⟩) (Nat.le_refl _)
    show 0 + cap * sz ≤ cvs.length + pad.size
    omega

theorem storeN_zero {a b : Addr} : (storeCells a []).run P w = (storeCells b []).run P w := rfl

theorem app_ok (ok : EnvOk E P nm) (h : WR nm K base φ A w) {ts : List TypeId} {args : List Value} {args' : Array Value} {ty : TypeId} {v : Value} (ha : LR nm φ args args'.toList)
    (hf : app E A ts args = some (v, A')) : AppGoal P nm K base φ A w (Builtin.append_ ts.toArray ty args') v A' := by
  unfold app at hf
  split at hf
  · rename_i t t1 bs len cap x
    split at hf
    · rename_i e d1 hu hd
      split at hf
      · rename_i i z hi hz
        split at hf
        · rename_i n new hnew
          split at hf
          · rename_i hc
            obtain ⟨c1, c2, c3, c4, c5, c6⟩ := hc
            obtain ⟨s', l1, e1, hs, ha1⟩ := ha.cons_inv
            obtain ⟨x', l2, rfl, hx, ha2⟩ := ha1.cons_inv
            have := ha2.nil_inv
            subst this
            have hargs : args' = #[s', x'] := by
              apply Array.ext'
              exact e1
            subst hargs
            have hty : #[t, t1] = [t, t1].toArray := rfl
            rw [← hty]
            obtain ⟨cnew, hcn, hnews⟩ := newCells_ok ok h hd hx hnew
            have hsz : E.size e = some i.size := by simp [Env.size, hi]
            have hzs : ∀ w2 : World, (zeroValue e).run P w2 = .ok z w2 := fun w2 => ok.run_zero hz w2
            have hmul : (len + n) * i.size = len * i.size + n * i.size := Nat.add_mul _ _ _
            have hbytes : n * i.bytes ≤ 140737488355328 := Nat.le_trans (Nat.mul_le_mul_right _ (Nat.le_add_left n len)) c3
            have padsz : ∀ m, (Builtin.zeroCells z.cells m).size = m * i.size := by intro m; simp [Builtin.zeroCells, c5]
            have padok : ∀ cold : List Value, cold.length = len * i.size → ∀ c, (cold ++ cnew).length + (Builtin.zeroCells z.cells (grownCap w (len + n) c e - (len + n))).size = grownCap w (len + n) c e * i.size := by
              intro cold hcl c
              rw [padsz, List.length_append, hcl, ← hcn.length, c2, ← hmul, ← Nat.add_mul]
              congr 1
              have := grownCap_ge w (len + n) c e
              omega
            split at hf
            · rename_i hroom
              unfold appIn at hf
              split at hf
              · cases hf
                have hcn0 : cnew = [] := List.eq_nil_of_length_eq_zero (by rw [← hcn.length, c2]; simp)
                subst hcn0
                cases bs with
                | none =>
                  rw [hs.nils_inv]
                  refine ⟨φ, w, .slice none len cap, Emb.ext_refl _ _, Nat.le_refl _, h, .nils _ _, ?_⟩
                  rw [run_app_in (ok.run_und hu) (ok.run_inf hi) (ok.run_size hsz) hnews hroom hbytes (.inl rfl)]
                  rfl
                | some b =>
                  have hs0 := hs
                  obtain ⟨a', k', p, rfl, hp, _, _, _, _, q4, q5, _⟩ := hs.slc_inv
                  have hk : cap ≤ k' := by
                    cases ho : p.opn with
                    | true => exact (q5 ho).1
                    | false => rw [q4 ho]; exact Nat.le_refl _
                  refine ⟨φ, w, _, Emb.ext_refl _ _, Nat.le_refl _, h, hs0, ?_⟩
                  rw [run_app_in (ok.run_und hu) (ok.run_inf hi) (ok.run_size hsz) hnews (Nat.le_trans hroom hk) hbytes (.inl rfl)]
                  rfl
              · split at hf
                · cases hf
                · rename_i b
                  split at hf
                  · rename_i A1 hst
                    cases hf
                    obtain ⟨a', k', p, rfl, hp, hsp, q1, q2, q3, q4, q5, q6⟩ := hs.slc_inv
                    have hk : cap ≤ k' := by
                      cases ho : p.opn with
                      | true => exact (q5 ho).1
                      | false => rw [q4 ho]; exact Nat.le_refl _
                    have hoff : a'.off = p.off + b.off := q3.resolve_left (by omega)
                    obtain ⟨w', h1, h2, h3⟩ := h.store (P := P) (a := addA b (len * i.size)) hst hcn (p := p) hp
                    refine ⟨φ, w', _, Emb.ext_refl _ _, by rw [h3]; exact Nat.le_refl _, h2, .slc b a' _ _ _ p hp hsp q1 q2 q3 q4 q5 hroom, ?_⟩
                    rw [run_app_in (ok.run_und hu) (ok.run_inf hi) (ok.run_size hsz) hnews (Nat.le_trans hroom hk) hbytes (.inr c1)]
                    have haddr : a'.add (len * i.size) = ⟨p.blk, p.off + (addA b (len * i.size)).off, none⟩ := by
                      obtain ⟨ab, ao, as⟩ := a'
                      simp only [] at q1 q2 hoff
                      subst q1; subst q2; subst hoff
                      exact add_eq _
                    simp only [haddr, h1, Result.andThen_ok]
                  · cases hf
            · rename_i hroom
              have hn0 : 0 < len + n := by omega
              unfold appGrow at hf
              split at hf
              · split at hf
                · cases hf
                  rw [hs.nils_inv]
                  have hold : ReadsAs P w (Builtin.firstCells i.size 0 (.slice none 0 cap)) [] := fun w2 _ => by simp [Builtin.firstCells]
                  have hrun := run_app_grow (ok.run_und hu) (ok.run_inf hi) (ok.run_size hsz) hzs hnews hold hroom c4 c3 c1 (ty := ty)
                  obtain ⟨φ', e1, e2, e3⟩ := appNew_ok (e := e) (cells := new) (cvs := cnew) h hcn c2 (n := n) (cap := grownCap w (0 + n) cap e) (by have := grownCap_ge w (0 + n) cap e; omega)
                    (by have := padok [] (by simp) cap; simpa using this)
                  refine ⟨φ', _, _, e1, Nat.le_succ _, e2, e3, ?_⟩
                  rw [hrun]
                  simp
                · cases hf
              · rename_i b
                split at hf
                · rename_i r hr
                  split at hf
                  · rename_i hfit
                    split at hf
                    · cases hf
                    · rename_i old hrg
                      have hb := row?_some hr
                      obtain ⟨a', k', p, rfl, hp, hsp, q1, q2, q3, q4, q5, q6⟩ := hs.slc_inv
                      obtain ⟨q, hq, ⟨cs, fz, ho⟩, hK⟩ := h.obj b.block _ hb rfl
                      rw [hp] at hq; cases hq
                      have hload : A.loadN b (len * i.size) = some old := by
                        unfold St.loadN
                        rw [hsp, hr]
                        simp only []
                        rw [if_pos hfit]; exact hrg
                      obtain ⟨cold, hrd⟩ := h.load hload hp
                      have hold : ReadsAs P w (Builtin.firstCells i.size len (.slice (some a') len k')) cold := by
                        intro w2 hw
                        by_cases h0 : len * i.size = 0
                        · have : cold = [] := List.eq_nil_of_length_eq_zero (by rw [hrd.len, h0])
                          subst this
                          simp [Builtin.firstCells, h0, loadCells, loadCellsFrom]
                        · have hk0 : ¬ k' = 0 := by
                            intro e0
                            have hl : 0 < len := by
                              rcases Nat.eq_zero_or_pos len with g | g
                              · subst g; simp at h0
                              · exact g
                            cases hop : p.opn with
                            | true => have := (q5 hop).1; omega
                            | false => have := q4 hop; omega
                          have hoff := q3.resolve_left hk0
                          have haddr : a' = ⟨p.blk, p.off + b.off, none⟩ := by
                            obtain ⟨ab, ao, as⟩ := a'
                            simp only [] at q1 q2 hoff
                            subst q1; subst q2; subst hoff
                            rfl
                          rw [haddr]
                          have : Rd nm φ w2 ⟨p.blk, p.off + b.off, none⟩ (len * i.size) old cold := ⟨hrd.len, hrd.rel, fun j v hj => by rw [cell_same hw]; exact hrd.cell j v hj⟩
                          exact this.run
                      split at hf
                      · rename_i hop
                        split at hf
                        · rename_i hc2
                          obtain ⟨d1', d2, d3, d4⟩ := hc2
                          cases hf
                          obtain ⟨q51, q52⟩ := q5 (ho.opn.trans hop)
                          by_cases hk : len + n ≤ k'
                          · have hoff := q3.resolve_left (by omega)
                            have haddr : a' = ⟨p.blk, p.off + b.off, none⟩ := by
                              obtain ⟨ab, ao, as⟩ := a'
                              simp only [] at q1 q2 hoff
                              subst q1; subst q2; subst hoff
                              rfl
                            subst haddr
                            subst d1'
                            obtain ⟨φ', w', e1, e2, e3, e4⟩ := appOpen_in (P := P) h hb d3 hop d2 hp hfit hrg d4 hcn c2 c6 hrd hk q52
                            refine ⟨φ', w', _, e1, Nat.le_succ _, e2, e3, ?_⟩
                            rw [run_app_in (ok.run_und hu) (ok.run_inf hi) (ok.run_size hsz) hnews hk hbytes (.inr c1)]
                            simp only [add_mk, Nat.add_assoc, e4, Result.andThen_ok]
                          · subst d1'
                            have hrun := run_app_grow (ok.run_und hu) (ok.run_inf hi) (ok.run_size hsz) hzs hnews hold hk c4 c3 c1 (ty := ty)
                            obtain ⟨φ', e1, e2, e3⟩ := appOpen_new h hb d3 hp hrg (hrd.rel.append hcn) c2 (cap := grownCap w (len + n) k' r.elem) (grownCap_ge _ _ _ _) (padok cold hrd.len k')
                            exact ⟨φ', _, _, e1, Nat.le_succ _, e2, e3, hrun⟩
                        · cases hf
                      · rename_i hop
                        cases hf
                        have hkc : k' = cap := q4 (by rw [ho.opn]; exact hop)
                        subst hkc
                        have hrun := run_app_grow (ok.run_und hu) (ok.run_inf hi) (ok.run_size hsz) hzs hnews hold hroom c4 c3 c1 (ty := ty)
                        obtain ⟨φ', e1, e2, e3⟩ := appNew_ok (e := e) (n := len + n) h (hrd.rel.append hcn) (by rw [List.length_append, c2, (T.range_some _ _ _ _ hrg).1, hmul]) (cap := grownCap w (len + n) k' e) (grownCap_ge _ _ _ _) (padok cold hrd.len k')
                        exact ⟨φ', _, _, e1, Nat.le_succ _, e2, e3, hrun⟩
                  · cases hf
                · cases hf
          · cases hf
        · cases hf
      · cases hf
    · cases hf
  · cases hf
end
end Go.AM
