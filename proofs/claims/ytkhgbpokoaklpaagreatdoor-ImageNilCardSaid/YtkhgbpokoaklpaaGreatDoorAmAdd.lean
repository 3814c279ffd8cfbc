/- A row is added, in a block of its own or behind what lies in one: what append does. -/
import Derived.Test.YtkhgbpokoaklpaaGreatDoorAmOps7
namespace Go.AM
section
variable {E : Env} {P : Program} {nm : Nm} {K : Kp} {base : World} {φ : Emb} {A A' : St} {w : World} {ρ ρ' : Operand → Value} {nx : Nx}

theorem WR.addRow (h : WR nm K base φ A w) {p : Pl} {r : Row} {w' : World} {h1 : T AObj} {rest : List Nat}
    (hkill : ∀ c, h1.get c = A.h.get c ∨ h1.get c = some .dead) (hsize : w.heap.size ≤ w'.heap.size) (hpb : p.blk < w'.heap.size)
    (hsame : ∀ B, B < w.heap.size → B ≠ p.blk → w'.heap[B]? = w.heap[B]?) (hK : K p.blk = none)
    (hin : ∀ c o q, h1.get c = some o → o.live = true → φ c = some q → q.blk = p.blk →
      OR nm φ w'.heap q o ∧ ∃ s, o = .row s ∧ s.grp = r.grp ∧ c ∈ rest ∧ q.off + s.size ≤ p.off + r.size)
    (hrest : ∀ c, c ∈ rest → ∃ q, φ c = some q ∧ K q.blk = none)
    (hold : ∀ ms, A.g.get r.grp = some ms → ∀ c d, c ≠ d → c ∈ ms → d ∈ ms → (∃ o, h1.get c = some o ∧ o.live = true) → (∃ o, h1.get d = some o ∧ o.live = true) → c ∈ rest ∧ d ∈ rest)
    (htip : ∀ c s q, c ∈ rest → h1.get c = some (.row s) → φ c = some q → q.blk = p.blk → q.off + s.size ≤ p.off + r.size)
    (hr : ∃ cs fz, RowR nm (φ.upd A.next p) w'.heap p r cs fz) (hown : r.own = true) (henv : w'.tape = w.tape ∧ w'.os = w.os ∧ w'.output = w.output) :
    WR nm K base (φ.upd A.next p) { A with next := A.next + 1, h := h1.set A.next (.row r), g := A.g.set r.grp (A.next :: rest) } w' := by
  have hn := h.dom A.next (Nat.le_refl _)
  have hle := Emb.upd_le p hn
  have keep : ∀ c o, h1.get c = some o → o.live = true → A.h.get c = some o := by
    intro c o hc hl
    rcases hkill c with g | g
    · rw [← g]; exact hc
    · rw [g] at hc; cases hc; simp [AObj.live] at hl
  have orOld : ∀ c o q, h1.get c = some o → o.live = true → φ c = some q → OR nm (φ.upd A.next p) w'.heap q o := by
    intro c o q hc hl hq
    by_cases hb : q.blk = p.blk
    · exact (hin c o q hc hl hq hb).1.mono hle rfl
    · obtain ⟨q', e1, e2, _⟩ := h.obj c o (keep c o hc hl) hl
      rw [hq] at e1; cases e1
      exact e2.mono hle (hsame _ (h.lt _ _ hq) hb)
  refine ⟨?_, ?_, ?_, ?_, ?_, ?_, ?_, ?_, Nat.le_trans h.size hsize, fun x u q hx hl hu hq => (by
    simp only [] at hx
    by_cases e : x = A.next
    · subst e; rw [T.get_set_same] at hx; cases hx; rw [show AObj.own (.row r) = true from hown] at hu; cases hu
    · rw [T.get_set_other _ _ e] at hx; rw [Emb.upd_other φ p e] at hq; exact h.old x u q (keep x u hx hl) hl hu hq)⟩
  · intro x hx
    have hx' : A.next + 1 ≤ x := hx
    rw [Emb.upd_other φ p (by omega)]; exact h.dom x (by omega)
  · intro x q hx
    by_cases e : x = A.next
    · subst e; rw [Emb.upd_same] at hx; cases hx; exact hpb
    · rw [Emb.upd_other φ p e] at hx; exact Nat.lt_of_lt_of_le (h.lt _ _ hx) hsize
  · intro x u hx hl
    simp only [] at hx
    by_cases e : x = A.next
    · subst e
      rw [T.get_set_same] at hx; cases hx
      exact ⟨p, Emb.upd_same _ _ _, hr, by rw [hK]; exact hown.symm⟩
    · rw [T.get_set_other _ _ e] at hx
      obtain ⟨q, g1, g2, g3⟩ := h.obj x u (keep x u hx hl) hl
      exact ⟨q, hle _ _ g1, orOld x u q hx hl g1, g3⟩
  · intro B u hB
    have := h.key _ _ hB
    have hlt : B < w.heap.size := (Array.getElem?_eq_some_iff.1 this).1
    rw [hsame B hlt (by rintro rfl; rw [hK] at hB; cases hB)]
    exact this
  · intro x y ox oy px py hxy hx hy lx ly wx wy ex ey hblk
    simp only [] at hx hy
    by_cases e1 : x = A.next
    · subst e1
      rw [T.get_set_same] at hx; cases hx
      rw [Emb.upd_same] at ex; cases ex
      have e2 : y ≠ A.next := fun e => hxy e.symm
      rw [T.get_set_other _ _ e2] at hy
      rw [Emb.upd_other φ p e2] at ey
      obtain ⟨_, s, rfl, g1, g2, _⟩ := hin y oy py hy ly ey hblk.symm
      exact ⟨r, s, A.next :: rest, rfl, rfl, g1.symm, T.get_set_same _ _ _, by simp, by simp [g2]⟩
    · rw [T.get_set_other _ _ e1] at hx
      rw [Emb.upd_other φ p e1] at ex
      by_cases e2 : y = A.next
      · subst e2
        rw [T.get_set_same] at hy; cases hy
        rw [Emb.upd_same] at ey; cases ey
        obtain ⟨_, s, rfl, g1, g2, _⟩ := hin x ox px hx lx ex hblk
        exact ⟨s, r, A.next :: rest, rfl, rfl, g1, by rw [g1]; exact T.get_set_same _ _ _, by simp [g2], by simp⟩
      · rw [T.get_set_other _ _ e2] at hy
        rw [Emb.upd_other φ p e2] at ey
        obtain ⟨r1, r2, ms, g1, g2, g3, g4, g5, g6⟩ := h.sep x y ox oy px py hxy (keep _ _ hx lx) (keep _ _ hy ly) lx ly wx wy ex ey hblk
        by_cases eg : r1.grp = r.grp
        · obtain ⟨k1, k2⟩ := hold ms (eg ▸ g4) x y hxy g5 g6 ⟨ox, hx, lx⟩ ⟨oy, hy, ly⟩
          exact ⟨r1, r2, A.next :: rest, g1, g2, g3, by rw [eg]; exact T.get_set_same _ _ _, by simp [k1], by simp [k2]⟩
        · exact ⟨r1, r2, ms, g1, g2, g3, by simp only []; rw [T.get_set_other _ _ eg]; exact g4, g5, g6⟩
  · intro g m ms hgm x hx s1 s2 px py k1 k2 e1 e2 hblk
    simp only [] at hgm k1 k2
    by_cases eg : g = r.grp
    · subst eg
      rw [T.get_set_same] at hgm
      simp only [Option.some.injEq, List.cons.injEq] at hgm
      obtain ⟨rfl, rfl⟩ := hgm
      rw [T.get_set_same] at k2; cases k2
      rw [Emb.upd_same] at e2; cases e2
      by_cases ex : x = A.next
      · subst ex
        obtain ⟨_, this, _⟩ := hrest _ hx
        rw [hn] at this; cases this
      · rw [T.get_set_other _ _ ex] at k1
        rw [Emb.upd_other φ p ex] at e1
        exact htip x s1 px hx k1 e1 hblk
    · rw [T.get_set_other _ _ eg] at hgm
      have hmem : ∀ z, z ∈ m :: ms → z ≠ A.next := by
        intro z hz e
        subst e
        have := h.has hgm hz
        rw [hn] at this; cases this
      have x1 := hmem x (by simp [hx])
      have x2 := hmem m (by simp)
      rw [T.get_set_other _ _ x1] at k1
      rw [T.get_set_other _ _ x2] at k2
      rw [Emb.upd_other φ p x1] at e1
      rw [Emb.upd_other φ p x2] at e2
      exact h.tip g m ms hgm x hx s1 s2 px py (keep _ _ k1 rfl) (keep _ _ k2 rfl) e1 e2 hblk
  · intro g ms hgm z hz
    simp only [] at hgm
    by_cases eg : g = r.grp
    · subst eg
      rw [T.get_set_same] at hgm
      cases hgm
      rcases List.mem_cons.1 hz with e | e
      · subst e; exact ⟨p, Emb.upd_same _ _ _, hK⟩
      · obtain ⟨q, h1, h2⟩ := hrest z e
        exact ⟨q, hle _ _ h1, h2⟩
    · rw [T.get_set_other _ _ eg] at hgm
      obtain ⟨q, h1, h2⟩ := h.grp g ms hgm z hz
      exact ⟨q, hle _ _ h1, h2⟩
  · obtain ⟨a, b, c⟩ := h.env
    exact ⟨henv.1.trans a, henv.2.1.trans b, henv.2.2.trans c⟩
end
end Go.AM
