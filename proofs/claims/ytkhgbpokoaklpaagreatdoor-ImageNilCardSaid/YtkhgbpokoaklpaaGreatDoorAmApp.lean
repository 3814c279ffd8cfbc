/- append: whatever the capacity, in place or in a new array. -/
import Derived.Test.YtkhgbpokoaklpaaGreatDoorAmAdd
import Derived.Laws.AppendOwn
namespace Go.AM
section
variable {E : Env} {P : Program} {nm : Nm} {K : Kp} {base : World} {φ : Emb} {A A' : St} {w : World} {ρ ρ' : Operand → Value} {nx : Nx}

/-- Cells that are read, in every world with the same memory. -/
def ReadsAs (P : Program) (w : World) (s : Sem (Array Value)) (cvs : List Value) : Prop := ∀ w2 : World, w2.heap = w.heap → s.run P w2 = .ok cvs.toArray w2

theorem cell_same {w w2 : World} (h : w2.heap = w.heap) (a : Addr) : w2.cell? a = w.cell? a := by simp [World.cell?, h]

/-- The place of a slice that is not empty. -/
theorem slc_place {a : Addr} {l k : Nat} {c : Value} (h : VR nm φ (.slice (some a) l k) c) (hl : 0 < l) :
    ∃ k' p, c = .slice (some ⟨p.blk, p.off + a.off, none⟩) l k' ∧ φ a.block = some p ∧ a.spot = none ∧ (p.opn = false → k' = k) ∧ (p.opn = true → k ≤ k' ∧ p.off + a.off + k' * p.esz ≤ p.csz) ∧ l ≤ k := by
  obtain ⟨a', k', p, rfl, hp, hsp, q1, q2, q3, q4, q5, q6⟩ := h.slc_inv
  have hk : ¬ k' = 0 := by
    intro e
    cases ho : p.opn with
    | true => have := (q5 ho).1; omega
    | false => have := q4 ho; omega
  have haddr : a' = ⟨p.blk, p.off + a.off, none⟩ := by
    cases a'; simp only [] at q1 q2 q3
    simp [q1, q2, q3.resolve_left hk]
  subst haddr
  exact ⟨k', p, rfl, hp, hsp, q4, q5, q6⟩

theorem firstN_ok (h : WR nm K base φ A w) {sz n : Nat} {x x' : Value} {vs : List Value} (hx : VR nm φ x x') (hf : firstN A sz n x = some vs) (hn : ∀ a l c, x = .slice (some a) l c → n ≤ l) :
    ∃ cvs, LR nm φ vs cvs ∧ ReadsAs P w (Builtin.firstCells sz n x') cvs := by
  unfold firstN at hf
  split at hf
  · rename_i a l c
    by_cases hz : n * sz = 0
    · have hl : vs = [] := by
        unfold St.loadN at hf
        split at hf
        · cases hf
        split at hf
        · split at hf
          · exact List.eq_nil_of_length_eq_zero ((T.range_some _ _ _ _ hf).1.trans hz)
          · cases hf
        · cases hf
      subst hl
      obtain ⟨a', k', p, rfl, _⟩ := hx.slc_inv
      exact ⟨[], .nil, fun w2 _ => by simp [Builtin.firstCells, hz, loadCells, loadCellsFrom]⟩
    · have hn0 : 0 < n := by
        rcases Nat.eq_zero_or_pos n with g | g
        · subst g; simp at hz
        · exact g
      obtain ⟨k', p, rfl, hp, hsp, _⟩ := slc_place hx (Nat.lt_of_lt_of_le hn0 (hn a l c rfl))
      obtain ⟨cvs, hr⟩ := h.load hf hp
      refine ⟨cvs, hr.rel, fun w2 hw => ?_⟩
      have : Rd nm φ w2 ⟨p.blk, p.off + a.off, none⟩ (n * sz) vs cvs := ⟨hr.len, hr.rel, fun j v hj => by rw [cell_same hw]; exact hr.cell j v hj⟩
      exact this.run
  · rename_i l c
    split at hf
    · rename_i hn
      cases hf
      rw [hx.nils_inv]
      exact ⟨[], .nil, fun w2 _ => by simp [Builtin.firstCells]⟩
    · cases hf
  · rename_i s
    cases hf
    rw [hx.str_inv]
    refine ⟨_, LR.map _ fun b _ => .int _ _, fun w2 _ => ?_⟩
    simp only [Builtin.firstCells, Sem.run_pure]
    congr 1
    apply Array.ext'
    simp
  · cases hf

/-- What is appended, as the model reads it. -/
inductive News (P : Program) (w : World) (t1 e : TypeId) (i : TypeInfo) (x' : Value) (n : Nat) (cnew : List Value) : Prop where
  | plain (d1 : TypeDesc) : (∀ w2 : World, (underlying t1).run P w2 = .ok d1 w2) → (∀ k, d1 ≠ .int k) → (∀ w2 : World, (Builtin.lenOf x').run P w2 = .ok n w2) →
      ReadsAs P w (Builtin.firstCells i.size n x') cnew → News P w t1 e i x' n cnew
  | zeros (k k0 : IntKind) (z : Value) : (∀ w2 : World, (underlying t1).run P w2 = .ok (.int k) w2) → x' = .int k0 n → n ≤ 4294967296 → (∀ w3 : World, (zeroValue e).run P w3 = .ok z w3) → z.cells.size = i.size →
      cnew = zeros z.cells.toList n → News P w t1 e i x' n cnew

theorem newCells_ok (ok : EnvOk E P nm) (h : WR nm K base φ A w) {t1 : TypeId} {d1 : TypeDesc} {e : TypeId} {i : TypeInfo} {x x' : Value} {n : Nat} {new : List Value}
    (hd : E.und t1 = some d1) (hx : VR nm φ x x') (hf : newCells E A d1 e i x = some (n, new)) : ∃ cnew, LR nm φ new cnew ∧ News P w t1 e i x' n cnew := by
  unfold newCells at hf
  split at hf
  · rename_i k
    split at hf
    · rename_i k0 m z hz
      split at hf
      · rename_i hc
        cases hf
        obtain ⟨q, rfl⟩ := Int.eq_ofNat_of_zero_le hc.1
        refine ⟨_, zeros_rel (zero_cells hz φ) _, .zeros k k0 z (fun w2 => ok.run_und hd w2) ?_ ?_ (fun w3 => ok.run_zero hz w3) hc.2.2 rfl⟩
        · rw [hx.int_inv]; simp
        · simp only [Int.toNat_natCast]; omega
      · cases hf
    · cases hf
  · rename_i hni
    split at hf
    · rename_i m hl
      split at hf
      · rename_i nw hfn
        cases hf
        obtain ⟨cvs, h1, h2⟩ := firstN_ok (P := P) h hx hfn (fun a l c e => by subst e; simp [lenV] at hl; omega)
        refine ⟨cvs, h1, .plain d1 (fun w2 => ok.run_und hd w2) (fun k e => hni k e) (fun w2 => ?_) h2⟩
        unfold lenV at hl
        split at hl
        · rename_i b l c
          cases hl
          cases b with
          | none => rw [hx.nils_inv]; rfl
          | some b => obtain ⟨a', k', p, rfl, _⟩ := hx.slc_inv; rfl
        · cases hl; rw [hx.str_inv]; rfl
        · cases hl
      · cases hf
    · cases hf

/-- The run of append where there is room. -/
theorem run_app_in {t t1 ty e : TypeId} {i : TypeInfo} {bs : Option Addr} {len c n : Nat} {x' : Value} {cnew : List Value} (ht : ∀ w2 : World, (underlying t).run P w2 = .ok (.slice e) w2)
    (hi : ∀ w2 : World, (typeInfo e).run P w2 = .ok i w2) (hs : ∀ w2 : World, (sizeOf e).run P w2 = .ok i.size w2) (hn : News P w t1 e i x' n cnew) (hroom : len + n ≤ c) (hcap : n * i.bytes ≤ 140737488355328) (hz : n = 0 ∨ i.size ≠ 0) :
    (Builtin.append_ #[t, t1] ty #[.slice bs len c, x']).run P w =
      ((match bs with | some a => storeCells (a.add (len * i.size)) cnew | none => pure ()).run P w).andThen fun _ w' => .ok (.slice bs (len + n) c) w' := by
  cases hn with
  | plain d1 h1 h2 h3 h4 =>
    have hne : (d1 matches .int _) = false := by cases d1 <;> first | rfl | (exact absurd rfl (h2 _))
    have h4' := h4 w rfl
    simp only [Builtin.append_, List.getElem?_toArray, List.getElem?_cons_zero, List.getElem?_cons_succ, Sem.run_bind, ht, hs, Result.andThen_ok, h1, Sem.run_pure, Bool.false_eq_true, if_false, h3, Bool.not_false, if_true]
    rw [if_pos hroom]
    simp only [Sem.run_bind, h4', Result.andThen_ok]
    cases bs <;> simp
  | zeros k k0 z h1 h2 h3 h4 h5 h6 =>
    subst h2
    subst h6
    have w1 : IntKind.i64.wrap (n : Int) = n := by unfold IntKind.wrap; simp [IntKind.bits, IntKind.signed]; omega
    have big : ¬ ((2 : Int) ^ 48 < (n : Int) * i.bytes) := by
      have : ((n * i.bytes : Nat) : Int) = (n : Int) * i.bytes := by simp
      omega
    have hzc : Builtin.zeroCells z.cells n = (zeros z.cells.toList n).toArray := by
      unfold Builtin.zeroCells
      exact zeros_eq z.cells n z.cells.size rfl
    simp only [Builtin.append_, List.getElem?_toArray, List.getElem?_cons_zero, List.getElem?_cons_succ, Sem.run_bind, ht, hs, Result.andThen_ok, h1, Sem.run_pure, if_true, asInt, asIntOf, w1]
    rw [if_neg (by omega)]
    simp only [Sem.run_bind, hi, Result.andThen_ok]
    rw [if_neg (by simpa using big)]
    simp only [Sem.run_bind, Sem.run_pure, Result.andThen_ok, Int.toNat_natCast, Bool.not_true, Bool.false_eq_true, if_false]
    rw [if_pos hroom]
    by_cases h0 : n * i.size = 0
    · have hn0 : n = 0 := by
        rcases Nat.mul_eq_zero.1 h0 with g | g
        · exact g
        · exact hz.resolve_right (fun f => f g)
      subst hn0
      rw [if_pos h0]
      simp only [Sem.run_bind, Sem.run_pure, Result.andThen_ok, zeros]
      cases bs <;> simp [storeCells]
    · rw [if_neg h0]
      simp only [Sem.run_bind, h4, Sem.run_pure, Result.andThen_ok, hzc]
      cases bs <;> simp

/-- The run of append where there is none. -/
theorem run_app_grow {t t1 ty e : TypeId} {i : TypeInfo} {bs : Option Addr} {len c n : Nat} {x' z : Value} {cold cnew : List Value} (ht : ∀ w2 : World, (underlying t).run P w2 = .ok (.slice e) w2)
    (hi : ∀ w2 : World, (typeInfo e).run P w2 = .ok i w2) (hs : ∀ w2 : World, (sizeOf e).run P w2 = .ok i.size w2) (hzv : ∀ w2 : World, (zeroValue e).run P w2 = .ok z w2)
    (hn : News P w t1 e i x' n cnew) (hold : ReadsAs P w (Builtin.firstCells i.size len (.slice bs len c)) cold) (hroom : ¬ len + n ≤ c) (h63 : len + n ≤ 4611686018427387904)
    (hcap : (len + n) * i.bytes ≤ 140737488355328) (hz : i.size ≠ 0) :
    (Builtin.append_ #[t, t1] ty #[.slice bs len c, x']).run P w =
      .ok (.slice (some ⟨w.heap.size, 0, none⟩) (len + n) (grownCap w (len + n) c e))
        (w.drew.alloc (.cells ((cold ++ cnew).toArray ++ Builtin.zeroCells z.cells (grownCap w (len + n) c e - (len + n))) e)) := by
  have h63' : ¬ (((len + n : Nat) : Int) > IntKind.i64.max) := by simp [IntKind.max, IntKind.bits, IntKind.signed]; omega
  have hfits : ¬ (Builtin.nextslicecap (len + n) c * i.bytes > 2 ^ 48) := by
    have := growslice_fits (bytes := i.bytes) (show c < len + n by omega) hcap
    omega
  have hd : w.drew.heap = w.heap := rfl
  have hol := hold w.drew hd
  have room : ∀ (m : Nat) (w2 : World), (askRoom m).run P w2 = .ok () w2 := by
    intro m w2
    unfold askRoom
    split <;> rfl
  have hch : ∀ need old : Nat, (choose (.appendCap need old e)).run P w = .ok ((Question.appendCap need old e).cut (w.tape w.drawn (.appendCap need old e))) w.drew := by
    intro need old
    exact run_choose _ _ _ |>.trans rfl
  cases hn with
  | plain d1 h1 h2 h3 h4 =>
    have hne : (d1 matches .int _) = false := by cases d1 <;> first | rfl | (exact absurd rfl (h2 _))
    have h4' := h4 w.drew hd
    simp only [Builtin.append_, List.getElem?_toArray, List.getElem?_cons_zero, List.getElem?_cons_succ, Sem.run_bind, ht, hs, Result.andThen_ok, h1, Sem.run_pure, Bool.false_eq_true, if_false, h3, Bool.not_false, if_true]
    rw [if_neg hroom]
    simp only [Sem.run_bind, hi, Result.andThen_ok]
    rw [if_neg (fun g => h63' g.1)]
    simp only [Sem.run_bind, Result.andThen_ok, hi]
    rw [if_neg hfits]
    simp only [Sem.run_bind, Sem.run_pure, Result.andThen_ok, hch, hi, room, hol, h4', hzv, newRow, run_newObj, Sem.run_bind, Sem.run_pure]
    simp
    exact ⟨rfl, rfl⟩
  | zeros k k0 zv h1 h2 h3 h4 h5 h6 =>
    subst h2
    subst h6
    have w1 : IntKind.i64.wrap (n : Int) = n := by unfold IntKind.wrap; simp [IntKind.bits, IntKind.signed]; omega
    have big : ¬ ((2 : Int) ^ 48 < (n : Int) * i.bytes) := by
      have : ((n * i.bytes : Nat) : Int) = (n : Int) * i.bytes := by simp
      have := Nat.le_trans (Nat.mul_le_mul_right i.bytes (Nat.le_add_left n len)) hcap
      omega
    have hzc : Builtin.zeroCells zv.cells n = (zeros zv.cells.toList n).toArray := by
      unfold Builtin.zeroCells
      exact zeros_eq zv.cells n zv.cells.size rfl
    have hap : Sem.run P (if n * i.size = 0 then pure #[] else (do let a ← zeroValue e; pure (Builtin.zeroCells a.cells n)) : Sem (Array Value)) w.drew = .ok (zeros zv.cells.toList n).toArray w.drew := by
      by_cases h0 : n * i.size = 0
      · have hn0 : n = 0 := by
          rcases Nat.mul_eq_zero.1 h0 with g | g
          · exact g
          · exact absurd g hz
        subst hn0
        rw [if_pos h0]
        simp [zeros]
      · rw [if_neg h0]
        simp only [Sem.run_bind, h4, Sem.run_pure, Result.andThen_ok, hzc]
    simp only [Builtin.append_, List.getElem?_toArray, List.getElem?_cons_zero, List.getElem?_cons_succ, Sem.run_bind, ht, hs, Result.andThen_ok, h1, Sem.run_pure, if_true, asInt, asIntOf, w1]
    rw [if_neg (by omega)]
    simp only [Sem.run_bind, hi, Result.andThen_ok]
    rw [if_neg (by simpa using big)]
    simp only [Sem.run_bind, Sem.run_pure, Result.andThen_ok, Int.toNat_natCast, Bool.not_true, Bool.false_eq_true, if_false]
    rw [if_neg hroom]
    simp only [Sem.run_bind, hi, Result.andThen_ok]
    rw [if_neg (fun g => h63' g.1)]
    simp only [Sem.run_bind, Result.andThen_ok, hi]
    rw [if_neg hfits]
    simp only [Sem.run_bind, Sem.run_pure, Result.andThen_ok, hch, hi, room, hol]
    rw [hap]
    simp only [hzv, Result.andThen_ok, newRow, newObj, Sem.run_bind]
    simp
    rfl
end
end Go.AM
