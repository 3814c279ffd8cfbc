/- Tries over the natural numbers: what is set is got; all else is as it was. -/
import Derived.Test.YticbldgcpppnoaaGreatDoorAmCore
namespace Go.AM
namespace T
variable {α : Type}

theorem get_nil (k : Nat) : (T.nil : T α).get k = none := by unfold get; rfl
theorem get_node_zero (v : Option α) (a b c d : T α) : (T.node v a b c d).get 0 = v := by simp [get]
theorem get_node_0 (v : Option α) (a b c d : T α) (m : Nat) (h : m % 4 = 0) : (T.node v a b c d).get (m + 1) = a.get (m / 4) := by
  simp only [get, h]
theorem get_node_1 (v : Option α) (a b c d : T α) (m : Nat) (h : m % 4 = 1) : (T.node v a b c d).get (m + 1) = b.get (m / 4) := by
  simp only [get, h]
theorem get_node_2 (v : Option α) (a b c d : T α) (m : Nat) (h : m % 4 = 2) : (T.node v a b c d).get (m + 1) = c.get (m / 4) := by
  simp only [get, h]
theorem get_node_3 (v : Option α) (a b c d : T α) (m : Nat) (h : m % 4 = 3) : (T.node v a b c d).get (m + 1) = d.get (m / 4) := by
  simp only [get, h]

theorem four (m : Nat) : m % 4 = 0 ∨ m % 4 = 1 ∨ m % 4 = 2 ∨ m % 4 = 3 := by omega

theorem get_setF (x : α) : ∀ (f n : Nat) (t : T α) (k : Nat), n < f → (setF x f t n).get k = if k = n then some x else t.get k := by
  intro f
  induction f with
  | zero => intro n t k h; omega
  | succ f ih =>
    intro n t k hn
    cases t with
    | nil =>
      cases n with
      | zero =>
        cases k with
        | zero => simp [setF, get]
        | succ k => rcases four k with h | h | h | h <;> simp [setF, get, h]
      | succ m =>
        have hm : m / 4 < f := by omega
        rcases four m with h | h | h | h <;> simp only [setF, h] <;> cases k with
          | zero => simp [get]
          | succ k =>
            rcases four k with g | g | g | g <;> simp only [get, g, ih _ _ _ hm] <;>
              first
                | (by_cases e : k = m
                   · subst e; simp
                   · have : k / 4 ≠ m / 4 := by omega
                     simp [e, this])
                | (have : k ≠ m := by omega
                   simp [this])
    | node v a b c d =>
      cases n with
      | zero =>
        cases k with
        | zero => simp [setF, get]
        | succ k => rcases four k with h | h | h | h <;> simp [setF, get, h]
      | succ m =>
        have hm : m / 4 < f := by omega
        rcases four m with h | h | h | h <;> simp only [setF, h] <;> cases k with
          | zero => simp [get]
          | succ k =>
            rcases four k with g | g | g | g <;> simp only [get, g, ih _ _ _ hm] <;>
              first
                | (by_cases e : k = m
                   · subst e; simp
                   · have : k / 4 ≠ m / 4 := by omega
                     simp [e, this])
                | (have : k ≠ m := by omega
                   simp [this])

theorem get_set (t : T α) (n : Nat) (x : α) (k : Nat) : (t.set n x).get k = if k = n then some x else t.get k :=
  get_setF x (n + 1) n t k (Nat.lt_succ_self n)
theorem get_set_same (t : T α) (n : Nat) (x : α) : (t.set n x).get n = some x := by rw [get_set]; simp
theorem get_set_other (t : T α) {n k : Nat} (x : α) (h : k ≠ n) : (t.set n x).get k = t.get k := by rw [get_set]; simp [h]

theorem get_setL (l : List α) : ∀ (t : T α) (i k : Nat), (t.setL i l).get k = if i ≤ k ∧ k < i + l.length then l[k - i]? else t.get k := by
  induction l with
  | nil => intro t i k; simp only [setL, List.length_nil]; rw [if_neg (by omega)]
  | cons x xs ih =>
    intro t i k
    simp only [setL, ih, get_set, List.length_cons]
    by_cases h : i + 1 ≤ k ∧ k < i + 1 + xs.length
    · rw [if_pos h, if_pos (by omega)]
      rw [show k - i = (k - (i + 1)) + 1 from by omega, List.getElem?_cons_succ]
    · rw [if_neg h]
      by_cases e : k = i
      · subst e; rw [if_pos rfl, if_pos (by omega)]; simp
      · rw [if_neg e, if_neg (by omega)]

theorem get_ofList (l : List α) (k : Nat) : (ofList l).get k = l[k]? := by
  unfold ofList
  rw [get_setL]
  by_cases h : k < l.length
  · rw [if_pos (by omega)]; simp
  · rw [if_neg (by omega), get_nil, List.getElem?_eq_none (by omega)]

theorem range_some : ∀ (n i : Nat) (t : T α) (l : List α), t.range i n = some l → l.length = n ∧ ∀ j, j < n → t.get (i + j) = l[j]? := by
  intro n
  induction n with
  | zero => intro i t l h; simp [range] at h; subst h; exact ⟨rfl, fun j hj => by omega⟩
  | succ n ih =>
    intro i t l h
    simp only [range] at h
    cases hx : t.get i with
    | none => simp [hx] at h
    | some x =>
      simp only [hx] at h
      cases hr : t.range (i + 1) n with
      | none => simp [hr] at h
      | some xs =>
        simp only [hr, Option.some.injEq] at h
        subst h
        obtain ⟨h1, h2⟩ := ih _ _ _ hr
        refine ⟨by simp [h1], fun j hj => ?_⟩
        cases j with
        | zero => simpa using hx
        | succ j =>
          rw [List.getElem?_cons_succ, ← h2 j (by omega)]
          congr 1
          omega
end T
end Go.AM
