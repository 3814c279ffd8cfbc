/- Blocks that are kept aside, and taken up. -/
import Derived.Test.YtkhgbpokoaklpaaGreatDoorAmDraw1
namespace Go.AM
section
variable {E : Env} {P : Program} {nm : Nm} {K : Kp} {base : World} {φ ψ : Emb} {A A' : St} {w : World}

theorem WR.hide (h : WR nm K base φ A w) {b : Nat} (hb : φ b = none) (hbn : b < A.next) (p : Pl) (c : Obj) (hp : p.blk = w.heap.size) :
    WR nm (fun B => if B = p.blk then some c else K B) base (φ.upd b p) A (w.alloc c) := by
  have hle := Emb.upd_le p hb
  have hsz : (w.alloc c).heap.size = w.heap.size + 1 := by simp
  have hold : ∀ B, B < w.heap.size → (w.alloc c).heap[B]? = w.heap[B]? := fun B hB => getElem?_push_lt hB
  have ne : ∀ x q, φ x = some q → q.blk ≠ p.blk := fun x q hq e => by have := h.lt x q hq; omega
  have back : ∀ x q, x ≠ b → φ.upd b p x = some q → φ x = some q := fun x q hx hq => by rwa [Emb.upd_other φ p hx] at hq
  have live : ∀ x o, A.h.get x = some o → o.live = true → x ≠ b := by
    rintro x o hx hl rfl
    obtain ⟨q, e, _⟩ := h.obj x o hx hl
    rw [hb] at e; cases e
  refine ⟨?_, ?_, ?_, ?_, ?_, ?_, ?_, h.env, by rw [hsz]; exact Nat.le_succ_of_le h.size, ?_⟩
  · intro x hx
    rw [Emb.upd_other φ p (by omega)]; exact h.dom x hx
  · intro x q hx
    rw [hsz]
    by_cases e : x = b
    · subst e; rw [Emb.upd_same] at hx; cases hx; omega
    · have := h.lt x q (back x q e hx); omega
  · intro x o hx hl
    obtain ⟨q, h1, h2, h3⟩ := h.obj x o hx hl
    refine ⟨q, hle _ _ h1, h2.mono hle (hold _ (h.lt _ _ h1)), ?_⟩
    show (if q.blk = p.blk then some c else K q.blk).isNone = o.own
    rw [if_neg (ne x q h1)]; exact h3
  · intro B o hB
    have hB' : (if B = p.blk then some c else K B) = some o := hB
    split at hB'
    · rename_i e
      cases hB'
      rw [e, hp]
      show (w.heap.push c)[w.heap.size]? = some c
      simp
    · have hk := h.key B o hB'
      rw [hold B (by
        rcases Nat.lt_or_ge B w.heap.size with g | g
        · exact g
        · rw [Array.getElem?_eq_none g] at hk; cases hk)]
      exact hk
  · intro x y ox oy px py hxy hx hy lx ly wx wy ex ey hblk
    exact h.sep x y ox oy px py hxy hx hy lx ly wx wy (back _ _ (live _ _ hx lx) ex) (back _ _ (live _ _ hy ly) ey) hblk
  · intro g m ms hgm x hx r s px py h1 h2 e1 e2 hblk
    exact h.tip g m ms hgm x hx r s px py h1 h2 (back _ _ (live _ _ h1 rfl) e1) (back _ _ (live _ _ h2 rfl) e2) hblk
  · intro g ms hgm m hm
    obtain ⟨q, h1, h2⟩ := h.grp g ms hgm m hm
    exact ⟨q, hle _ _ h1, by show (if q.blk = p.blk then some c else K q.blk) = none; rw [if_neg (ne m q h1)]; exact h2⟩
  · intro x o q hx hl ho hq
    exact h.old x o q hx hl ho (back _ _ (live _ _ hx hl) hq)

theorem WR.adopt (h : WR nm K base φ A w) {b : Nat} {p : Pl} {c : Obj} {u : AObj} (hb : φ b = some p) (hk : K p.blk = some c) (hor : OR nm φ w.heap p u) (hown : u.own = true) (hsz : base.heap.size ≤ p.blk) :
    WR nm (fun B => if B = p.blk then none else K B) base φ { A with h := A.h.set b u } w := by
  have ne : ∀ x o q, A.h.get x = some o → o.live = true → φ x = some q → q.blk ≠ p.blk := by
    intro x o q hx hl hq e
    obtain ⟨q', h1, _, h3⟩ := h.obj x o hx hl
    rw [hq] at h1; cases h1
    rw [e, hk] at h3
    have := h.old x o q hx hl h3.symm hq
    omega
  refine ⟨h.dom, h.lt, ?_, ?_, ?_, ?_, ?_, h.env, h.size, ?_⟩
  · intro x o hx hl
    simp only [] at hx
    by_cases e : x = b
    · subst e
      rw [T.get_set_same] at hx; cases hx
      exact ⟨p, hb, hor, by show (if p.blk = p.blk then none else K p.blk).isNone = _; rw [if_pos rfl]; exact hown.symm⟩
    · rw [T.get_set_other _ _ e] at hx
      obtain ⟨q, h1, h2, h3⟩ := h.obj x o hx hl
      exact ⟨q, h1, h2, by show (if q.blk = p.blk then none else K q.blk).isNone = _; rw [if_neg (ne x o q hx hl h1)]; exact h3⟩
  · intro B o hB
    have hB' : (if B = p.blk then none else K B) = some o := hB
    split at hB'
    · cases hB'
    · exact h.key B o hB'
  · intro x y ox oy px py hxy hx hy lx ly wx wy ex ey hblk
    simp only [] at hx hy
    by_cases e1 : x = b
    · subst e1
      rw [hb] at ex; cases ex
      rw [T.get_set_other _ _ (Ne.symm hxy)] at hy
      exact absurd hblk.symm (ne y oy py hy ly ey)
    · rw [T.get_set_other _ _ e1] at hx
      by_cases e2 : y = b
      · subst e2
        rw [hb] at ey; cases ey
        exact absurd hblk (ne x ox px hx lx ex)
      · rw [T.get_set_other _ _ e2] at hy
        exact h.sep x y ox oy px py hxy hx hy lx ly wx wy ex ey hblk
  · intro g m ms hgm x hx r s px py h1 h2 e1 e2 hblk
    have nob : ∀ z, z ∈ m :: ms → z ≠ b := by
      rintro z hz rfl
      obtain ⟨q, k1, k2⟩ := h.grp g _ hgm z hz
      rw [hb] at k1; cases k1
      rw [hk] at k2; cases k2
    simp only [] at h1 h2
    rw [T.get_set_other _ _ (nob x (by simp [hx]))] at h1
    rw [T.get_set_other _ _ (nob m (by simp))] at h2
    exact h.tip g m ms hgm x hx r s px py h1 h2 e1 e2 hblk
  · intro g ms hgm m hm
    obtain ⟨q, h1, h2⟩ := h.grp g ms hgm m hm
    exact ⟨q, h1, by show (if q.blk = p.blk then none else K q.blk) = none; split; rfl; exact h2⟩
  · intro x o q hx hl ho hq
    simp only [] at hx
    by_cases e : x = b
    · subst e; rw [T.get_set_same] at hx; cases hx; rw [hown] at ho; cases ho
    · rw [T.get_set_other _ _ e] at hx; exact h.old x o q hx hl ho hq
end
end Go.AM
