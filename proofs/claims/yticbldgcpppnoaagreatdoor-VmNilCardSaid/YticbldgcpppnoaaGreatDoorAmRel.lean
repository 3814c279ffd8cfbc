/- How the abstract machine's values, objects and states stand for the model's: the relation, and how it is kept. -/
import Derived.Test.YticbldgcpppnoaaGreatDoorAmTrie
import Derived.Calls
namespace Go.AM

/-- Where an abstract block lies: its block, its first cell's place in it, the block's size, an element's size, whether its capacity is open. -/
structure Pl where
  blk : Nat
  off : Nat
  csz : Nat
  esz : Nat
  opn : Bool
abbrev Emb := Nat → Option Pl
def Emb.le (φ ψ : Emb) : Prop := ∀ b p, φ b = some p → ψ b = some p
theorem Emb.le_refl (φ : Emb) : φ.le φ := fun _ _ h => h
theorem Emb.le_trans {φ ψ χ : Emb} (h : φ.le ψ) (k : ψ.le χ) : φ.le χ := fun b p hb => k b p (h b p hb)

def ArR (R : Value → Value → Prop) (a c : Array Value) : Prop := a.size = c.size ∧ ∀ i, R (a.getD i undef) (c.getD i undef)

/-- The text that the abstract machine holds as a sign alone. -/
abbrev Nm := ByteArray

inductive FnR (φ : Emb) : Fn → Fn → Prop where
  | func (f : FuncId) : FnR φ (.func f) (.func f)
  | method (n : String) : FnR φ (.method n) (.method n)
  | yield (l l' : Nat) (p : Pl) : φ l = some p → p.blk = l' → FnR φ (.yield l) (.yield l')

inductive VR (nm : Nm) (φ : Emb) : Value → Value → Prop where
  | bool (b : Bool) : VR nm φ (.bool b) (.bool b)
  | int (k : IntKind) (n : Int) : VR nm φ (.int k n) (.int k n)
  | str (s : ByteArray) : VR nm φ (.string s) (.string s)
  | sym : VR nm φ (.float .f64 0) (.string nm)
  | nilp : VR nm φ (.pointer none) (.pointer none)
  | ptr (a : Addr) (p : Pl) : φ a.block = some p → a.spot = none → VR nm φ (.pointer (some a)) (.pointer (some ⟨p.blk, p.off + a.off, none⟩))
  | nils (l c : Nat) : VR nm φ (.slice none l c) (.slice none l c)
  | slc (a a' : Addr) (l c c' : Nat) (p : Pl) : φ a.block = some p → a.spot = none → a'.block = p.blk → a'.spot = none → (c' = 0 ∨ a'.off = p.off + a.off) →
      (p.opn = false → c' = c) → (p.opn = true → c ≤ c' ∧ a'.off + c' * p.esz ≤ p.csz) → l ≤ c → VR nm φ (.slice (some a) l c) (.slice (some a') l c')
  | nilm : VR nm φ (.map none) (.map none)
  | map (r : Nat) (p : Pl) : φ r = some p → VR nm φ (.map (some r)) (.map (some p.blk))
  | nilf : VR nm φ .nilFunc .nilFunc
  | func (f f' : Fn) (a a' c c' : Array Value) : FnR φ f f' → a.size = a'.size → (∀ i, i < a.size → VR nm φ (a.getD i undef) (a'.getD i undef)) →
      c.size = c'.size → (∀ i, i < c.size → VR nm φ (c.getD i undef) (c'.getD i undef)) → VR nm φ (.func f a c) (.func f' a' c')
  | nili : VR nm φ .nilIface .nilIface
  | iface (t : TypeId) (v v' : Value) : VR nm φ v v' → VR nm φ (.iface t v) (.iface t v')
  | agg (a a' : Array Value) : a.size = a'.size → (∀ i, i < a.size → VR nm φ (a.getD i undef) (a'.getD i undef)) → VR nm φ (.agg a) (.agg a')
  | tuple (a a' : Array Value) : a.size = a'.size → (∀ i, i < a.size → VR nm φ (a.getD i undef) (a'.getD i undef)) → VR nm φ (.tuple a) (.tuple a')

section
variable {nm : Nm} {φ ψ : Emb}

theorem FnR.mono (h : φ.le ψ) {f g : Fn} (r : FnR φ f g) : FnR ψ f g := by
  cases r with
  | func f => exact .func f
  | method n => exact .method n
  | yield l l' p h1 h2 => exact .yield l l' p (h _ _ h1) h2

theorem VR.mono (h : φ.le ψ) {v c : Value} (r : VR nm φ v c) : VR nm ψ v c := by
  induction r with
  | bool b => exact .bool b
  | int k n => exact .int k n
  | str s => exact .str s
  | sym => exact .sym
  | nilp => exact .nilp
  | ptr a p h1 h2 => exact .ptr a p (h _ _ h1) h2
  | nils l c => exact .nils l c
  | slc a a' l c c' p h1 h2 h3 h4 h5 h6 h7 h8 => exact .slc a a' l c c' p (h _ _ h1) h2 h3 h4 h5 h6 h7 h8
  | nilm => exact .nilm
  | map r p h1 => exact .map r p (h _ _ h1)
  | nilf => exact .nilf
  | func f f' a a' c c' h1 h2 _ h4 _ i1 i2 => exact .func f f' a a' c c' (h1.mono h) h2 i1 h4 i2
  | nili => exact .nili
  | iface t v v' _ ih => exact .iface t v v' ih
  | agg a a' h1 _ ih => exact .agg a a' h1 ih
  | tuple a a' h1 _ ih => exact .tuple a a' h1 ih

theorem VR.undef : VR nm φ undef undef := .tuple #[] #[] rfl (fun i h => by simp at h)

/-- Lists of values, pairwise. -/
def LR (nm : Nm) (φ : Emb) (l l' : List Value) : Prop := l.length = l'.length ∧ ∀ i, i < l.length → VR nm φ (l.getD i Go.undef) (l'.getD i Go.undef)
theorem LR.mono (h : φ.le ψ) {l l' : List Value} (r : LR nm φ l l') : LR nm ψ l l' := ⟨r.1, fun i hi => (r.2 i hi).mono h⟩
theorem LR.nil : LR nm φ [] [] := ⟨rfl, fun i h => by simp at h⟩
theorem LR.cons {v v' : Value} {l l' : List Value} (h : VR nm φ v v') (r : LR nm φ l l') : LR nm φ (v :: l) (v' :: l') := by
  refine ⟨by simp [r.1], fun i hi => ?_⟩
  cases i with
  | zero => simpa using h
  | succ i => simpa using r.2 i (by simpa using hi)
theorem LR.head {v v' : Value} {l l' : List Value} (r : LR nm φ (v :: l) (v' :: l')) : VR nm φ v v' := by simpa using r.2 0 (by simp)
theorem LR.tail {v v' : Value} {l l' : List Value} (r : LR nm φ (v :: l) (v' :: l')) : LR nm φ l l' :=
  ⟨by simpa using r.1, fun i hi => by simpa using r.2 (i + 1) (by simpa using hi)⟩
theorem LR.cons_inv {v : Value} {l l' : List Value} (r : LR nm φ (v :: l) l') : ∃ v' m, l' = v' :: m ∧ VR nm φ v v' ∧ LR nm φ l m := by
  cases l' with
  | nil => exact absurd r.1 (by simp)
  | cons v' m => exact ⟨v', m, rfl, r.head, r.tail⟩
theorem LR.nil_inv {l' : List Value} (r : LR nm φ [] l') : l' = [] := by
  cases l' with
  | nil => rfl
  | cons v' m => exact absurd r.1 (by simp)
theorem LR.append {l l' m m' : List Value} (r : LR nm φ l l') (s : LR nm φ m m') : LR nm φ (l ++ m) (l' ++ m') := by
  induction l generalizing l' with
  | nil => rw [r.nil_inv]; simpa using s
  | cons v l ih =>
    obtain ⟨v', l'', rfl, h1, h2⟩ := r.cons_inv
    exact .cons h1 (ih h2)
theorem LR.get? {l l' : List Value} (r : LR nm φ l l') {i : Nat} {v : Value} (h : l[i]? = some v) : ∃ v', l'[i]? = some v' ∧ VR nm φ v v' := by
  have hi : i < l.length := by
    rcases Nat.lt_or_ge i l.length with g | g
    · exact g
    · rw [List.getElem?_eq_none g] at h; cases h
  have hi' : i < l'.length := r.1 ▸ hi
  refine ⟨l'[i], List.getElem?_eq_getElem hi', ?_⟩
  have := r.2 i hi
  rw [List.getD_eq_getElem?_getD, h, List.getD_eq_getElem?_getD, List.getElem?_eq_getElem hi'] at this
  simpa using this
theorem LR.of_get? {l l' : List Value} (hl : l.length = l'.length) (h : ∀ (i : Nat) (v v' : Value), l[i]? = some v → l'[i]? = some v' → VR nm φ v v') : LR nm φ l l' := by
  refine ⟨hl, fun i hi => ?_⟩
  have hi' : i < l'.length := hl ▸ hi
  rw [List.getD_eq_getElem?_getD, List.getD_eq_getElem?_getD, List.getElem?_eq_getElem hi, List.getElem?_eq_getElem hi']
  exact h i _ _ (List.getElem?_eq_getElem hi) (List.getElem?_eq_getElem hi')
theorem LR.map {α : Type} {f g : α → Value} (l : List α) (h : ∀ x, x ∈ l → VR nm φ (f x) (g x)) : LR nm φ (l.map f) (l.map g) := by
  induction l with
  | nil => exact .nil
  | cons x l ih => exact .cons (h x (by simp)) (ih fun y hy => h y (by simp [hy]))
theorem LR.take {l l' : List Value} (r : LR nm φ l l') (n : Nat) : LR nm φ (l.take n) (l'.take n) := by
  refine .of_get? (by simp [r.1]) fun i v v' h1 h2 => ?_
  rw [List.getElem?_take] at h1 h2
  split at h1
  · rename_i hi
    rw [if_pos hi] at h2
    obtain ⟨u, hu, hv⟩ := r.get? h1
    rw [hu] at h2; cases h2; exact hv
  · cases h1
theorem LR.drop {l l' : List Value} (r : LR nm φ l l') (n : Nat) : LR nm φ (l.drop n) (l'.drop n) := by
  refine .of_get? (by simp [r.1]) fun i v v' h1 h2 => ?_
  rw [List.getElem?_drop] at h1 h2
  obtain ⟨u, hu, hv⟩ := r.get? h1
  rw [hu] at h2; cases h2; exact hv
theorem LR.length {l l' : List Value} (r : LR nm φ l l') : l.length = l'.length := r.1

/-- Arrays of values, pairwise. -/
abbrev AR (nm : Nm) (φ : Emb) (a a' : Array Value) : Prop := LR nm φ a.toList a'.toList
theorem getD_toList (a : Array Value) (i : Nat) : a.toList.getD i Go.undef = a.getD i Go.undef := by
  simp [Array.getD_eq_getD_getElem?, List.getD_eq_getElem?_getD]
theorem AR.of {a a' : Array Value} (hs : a.size = a'.size) (h : ∀ i, i < a.size → VR nm φ (a.getD i Go.undef) (a'.getD i Go.undef)) : AR nm φ a a' :=
  ⟨by simpa using hs, fun i hi => by rw [getD_toList, getD_toList]; exact h i (by simpa using hi)⟩
theorem AR.size {a a' : Array Value} (h : AR nm φ a a') : a.size = a'.size := by simpa using h.1
theorem AR.at {a a' : Array Value} (h : AR nm φ a a') (i : Nat) (hi : i < a.size) : VR nm φ (a.getD i Go.undef) (a'.getD i Go.undef) := by
  have := h.2 i (by simpa using hi)
  rwa [getD_toList, getD_toList] at this
theorem VR.agg' {a a' : Array Value} (h : AR nm φ a a') : VR nm φ (.agg a) (.agg a') := .agg a a' h.size h.at
theorem VR.tuple' {a a' : Array Value} (h : AR nm φ a a') : VR nm φ (.tuple a) (.tuple a') := .tuple a a' h.size h.at
theorem VR.agg_inv {a : Array Value} {c : Value} (h : VR nm φ (.agg a) c) : ∃ a', c = .agg a' ∧ AR nm φ a a' := by
  cases h with
  | agg a a' hs h => exact ⟨a', rfl, .of hs h⟩
theorem VR.tuple_inv {a : Array Value} {c : Value} (h : VR nm φ (.tuple a) c) : ∃ a', c = .tuple a' ∧ AR nm φ a a' := by
  cases h with
  | tuple a a' hs h => exact ⟨a', rfl, .of hs h⟩
theorem VR.func_inv {f : Fn} {a b : Array Value} {c : Value} (h : VR nm φ (.func f a b) c) : ∃ f' a' b', c = .func f' a' b' ∧ FnR φ f f' ∧ AR nm φ a a' ∧ AR nm φ b b' := by
  cases h with
  | func f f' a a' c c' h1 h2 h3 h4 h5 => exact ⟨f', a', c', rfl, h1, .of h2 h3, .of h4 h5⟩
theorem VR.func' {f f' : Fn} {a a' b b' : Array Value} (h1 : FnR φ f f') (h2 : AR nm φ a a') (h3 : AR nm φ b b') : VR nm φ (.func f a b) (.func f' a' b') :=
  .func f f' a a' b b' h1 h2.size h2.at h3.size h3.at

theorem VR.cells {v c : Value} (h : VR nm φ v c) : AR nm φ v.cells c.cells := by
  have one : ∀ x y : Value, VR nm φ x y → AR nm φ #[x] #[y] := fun x y h => .cons h .nil
  cases h with
  | agg a a' hs h => exact .of hs h
  | bool b => exact one _ _ (.bool b)
  | int k n => exact one _ _ (.int k n)
  | str s => exact one _ _ (.str s)
  | sym => exact one _ _ .sym
  | nilp => exact one _ _ .nilp
  | ptr a p h1 h2 => exact one _ _ (.ptr a p h1 h2)
  | nils l c => exact one _ _ (.nils l c)
  | slc a a' l c c' p h1 h2 h3 h4 h5 h6 h7 h8 => exact one _ _ (.slc a a' l c c' p h1 h2 h3 h4 h5 h6 h7 h8)
  | nilm => exact one _ _ .nilm
  | map r p h1 => exact one _ _ (.map r p h1)
  | nilf => exact one _ _ .nilf
  | func f f' a a' c c' h1 h2 h3 h4 h5 => exact one _ _ (.func f f' a a' c c' h1 h2 h3 h4 h5)
  | nili => exact one _ _ .nili
  | iface t v v' h => exact one _ _ (.iface t v v' h)
  | tuple a a' h1 h2 => exact one _ _ (.tuple a a' h1 h2)

theorem VR.one {v c : Value} (h : VR nm φ v c) : one c = one v := by cases h <;> rfl

/-- Values without addresses stand for themselves. -/
theorem VR.plain_eq : ∀ (n : Nat) (v c : Value), VR nm φ v c → noAddr n v = true → c = v := by
  have arr : ∀ (n : Nat), (∀ v c, VR nm φ v c → noAddr n v = true → c = v) → ∀ a a' : Array Value, AR nm φ a a' → a.toList.all (noAddr n) = true → a' = a := by
    intro n ih a a' h hall
    apply Array.ext'
    apply List.ext_getElem? 
    intro i
    cases hx : a.toList[i]? with
    | none =>
      have : a.toList.length ≤ i := by
        rcases Nat.lt_or_ge i a.toList.length with g | g
        · rw [List.getElem?_eq_getElem g] at hx; cases hx
        · exact g
      exact List.getElem?_eq_none (by rw [← h.1]; exact this)
    | some x =>
      obtain ⟨y, hy, hr⟩ := h.get? hx
      rw [hy]
      have hm : x ∈ a.toList := List.mem_of_getElem? hx
      rw [ih x y hr (List.all_eq_true.1 hall x hm)]
  intro n
  induction n with
  | zero =>
    intro v c h hn
    cases h <;> first | rfl | (simp [noAddr] at hn)
  | succ n ih =>
    intro v c h hn
    cases h with
    | iface t v v' h => simp only [noAddr] at hn; rw [ih _ _ h hn]
    | agg a a' hs h => simp only [noAddr] at hn; rw [arr n ih a a' (.of hs h) hn]
    | tuple a a' hs h => simp only [noAddr] at hn; rw [arr n ih a a' (.of hs h) hn]
    | func f f' a a' c c' h1 h2 h3 h4 h5 =>
      simp only [noAddr, Bool.and_eq_true] at hn
      obtain ⟨⟨hf, ha⟩, hc⟩ := hn
      rw [arr n ih a a' (.of h2 h3) ha, arr n ih c c' (.of h4 h5) hc]
      cases h1 with
      | func f => rfl
      | method n => simp at hf
      | yield l l' p g1 g2 => simp at hf
    | ptr a p h1 h2 => simp [noAddr] at hn
    | slc a a' l c c' p h1 h2 h3 h4 h5 h6 h7 h8 => simp [noAddr] at hn
    | map r p h1 => simp [noAddr] at hn
    | sym => simp [noAddr] at hn
    | _ => rfl

theorem VR.of_plain : ∀ (n : Nat) (v : Value), noAddr n v = true → VR nm φ v v := by
  have arr : ∀ (n : Nat), (∀ v, noAddr n v = true → VR nm φ v v) → ∀ a : Array Value, a.toList.all (noAddr n) = true → AR nm φ a a := by
    intro n ih a hall
    refine .of_get? rfl fun i v v' h1 h2 => ?_
    rw [h1] at h2; cases h2
    exact ih v (List.all_eq_true.1 hall v (List.mem_of_getElem? h1))
  intro n
  induction n with
  | zero =>
    intro v h
    cases v with
    | bool b => exact .bool b
    | int k n => exact .int k n
    | string s => exact .str s
    | pointer a => cases a with
      | none => exact .nilp
      | some a => simp [noAddr] at h
    | slice a l c => cases a with
      | none => exact .nils l c
      | some a => simp [noAddr] at h
    | map r => cases r with
      | none => exact .nilm
      | some r => simp [noAddr] at h
    | nilFunc => exact .nilf
    | nilIface => exact .nili
    | _ => simp [noAddr] at h
  | succ n ih =>
    intro v h
    cases v with
    | bool b => exact .bool b
    | int k n => exact .int k n
    | string s => exact .str s
    | pointer a => cases a with
      | none => exact .nilp
      | some a => simp [noAddr] at h
    | slice a l c => cases a with
      | none => exact .nils l c
      | some a => simp [noAddr] at h
    | map r => cases r with
      | none => exact .nilm
      | some r => simp [noAddr] at h
    | nilFunc => exact .nilf
    | nilIface => exact .nili
    | iface t v => simp only [noAddr] at h; exact .iface t v v (ih v h)
    | agg a => simp only [noAddr] at h; exact .agg' (arr n ih a h)
    | tuple a => simp only [noAddr] at h; exact .tuple' (arr n ih a h)
    | func f a c =>
      simp only [noAddr, Bool.and_eq_true] at h
      obtain ⟨⟨hf, ha⟩, hc⟩ := h
      cases f with
      | func f => exact .func' (.func f) (arr n ih a ha) (arr n ih c hc)
      | _ => simp at hf
    | _ => simp [noAddr] at h

theorem VR.plainV_eq {v c : Value} (h : VR nm φ v c) (hp : plainV v = true) : c = v := VR.plain_eq 40 v c h hp
theorem VR.of_plainV {v : Value} (hp : plainV v = true) : VR nm φ v v := VR.of_plain 40 v hp
end
end Go.AM
