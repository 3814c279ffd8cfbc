/- Values that are the same; what changes nothing. -/
import Derived.Test.YtkhgbpokoaklpaaGreatDoorAmRun1
namespace Go.AM

theorem zip_eq {n : Nat} (ih : ∀ a b, veq n a b = true → a = b) : ∀ (a b : List Value), a.length = b.length → (a.zip b).all (fun p => veq n p.1 p.2) = true → a = b
  | [], [], _, _ => rfl
  | [], _ :: _, h, _ => by simp at h
  | _ :: _, [], h, _ => by simp at h
  | x :: a, y :: b, h, g => by
    simp only [List.zip_cons_cons, List.all_cons, Bool.and_eq_true] at g
    rw [ih x y g.1, zip_eq ih a b (by simpa using h) g.2]

theorem arr_eq {n : Nat} (ih : ∀ a b, veq n a b = true → a = b) (a b : Array Value) (h : (a.size == b.size && (a.toList.zip b.toList).all fun p => veq n p.1 p.2) = true) : a = b := by
  simp only [Bool.and_eq_true, beq_iff_eq] at h
  apply Array.ext'
  exact zip_eq ih _ _ (by simpa using h.1) h.2

theorem bytes_ext {a b : ByteArray} (h : a.data.toList = b.data.toList) : a = b := by
  cases a; cases b
  congr 1
  exact Array.ext' h

theorem veq_eq : ∀ (n : Nat) (a b : Value), veq n a b = true → a = b := by
  intro n
  induction n with
  | zero =>
    intro a b h
    cases a <;> cases b <;> first | (simp [veq] at h; done) | skip
    case bool => simp [veq] at h; rw [h]
    case int => simp [veq] at h; rw [h.1, h.2]
    case string x y => simp only [veq, decide_eq_true_eq] at h; rw [bytes_ext h]
    case pointer x y => cases x <;> cases y <;> simp [veq] at h <;> first | rfl | rw [h]
    case slice x l c y m d => cases x <;> cases y <;> simp [veq] at h <;> first | (rw [h.1, h.2]; done) | (obtain ⟨⟨h1, h2⟩, h3⟩ := h; rw [h1, h2, h3])
    case map x y => cases x <;> cases y <;> simp [veq] at h <;> first | rfl | rw [h]
    case nilFunc => rfl
    case nilIface => rfl
  | succ n ih =>
    intro a b h
    cases a <;> cases b <;> first | (simp [veq] at h; done) | skip
    case bool => simp [veq] at h; rw [h]
    case int => simp [veq] at h; rw [h.1, h.2]
    case string x y => simp only [veq, decide_eq_true_eq] at h; rw [bytes_ext h]
    case pointer x y => cases x <;> cases y <;> simp [veq] at h <;> first | rfl | rw [h]
    case slice x l c y m d => cases x <;> cases y <;> simp [veq] at h <;> first | (rw [h.1, h.2]; done) | (obtain ⟨⟨h1, h2⟩, h3⟩ := h; rw [h1, h2, h3])
    case map x y => cases x <;> cases y <;> simp [veq] at h <;> first | rfl | rw [h]
    case nilFunc => rfl
    case nilIface => rfl
    case iface t v u w =>
      simp only [veq, Bool.and_eq_true, decide_eq_true_eq] at h
      rw [h.1, ih _ _ h.2]
    case agg x y => simp only [veq] at h; rw [arr_eq ih x y h]
    case tuple x y => simp only [veq] at h; rw [arr_eq ih x y h]
    case func f x c g y d =>
      simp only [veq] at h
      rw [Bool.and_eq_true, Bool.and_eq_true] at h
      obtain ⟨⟨h1, h2⟩, h3⟩ := h
      rw [arr_eq ih x y h2, arr_eq ih c d h3, of_decide_eq_true h1]

section
variable {E : Env} {A A' : St} {ρ : Operand → Value} {nx : Nx}

theorem viaPure_same {o : Oper} (h : viaPure E A ρ o = some (nx, A')) : A' = A := by
  unfold viaPure at h
  repeat' split at h
  all_goals first | (cases h; done) | (cases h; rfl)

theorem float_same {o : Oper} (hf : isFloat E o = true) (h : opX E A ρ o = some (nx, A')) : A' = A := by
  unfold opX at h
  split at h
  case isFalse => cases h
  unfold opD at h
  unfold isFloat at hf
  cases hop : o.op <;> simp only [hop] at h hf <;> first | (cases hf; done) | skip
  case move => cases h; rfl
  case assign => cases h; rfl
  case pick => unfold xPick at h; repeat' split at h
               all_goals first | (cases h; done) | (cases h; rfl)
  case build => unfold xBuild at h; repeat' split at h
                all_goals first | (cases h; done) | (cases h; rfl)
  case load => unfold xLoad at h; repeat' split at h
               all_goals first | (cases h; done) | (cases h; rfl)
  case nilCheck => unfold xNilCheck at h; repeat' split at h
                   all_goals first | (cases h; done) | (cases h; rfl)
  case binOp =>
    unfold xBinOp at h
    split at h
    · cases h; rfl
    · split at h
      · rename_i r hr
        cases h
        exact viaPure_same hr
      · repeat' split at h
        all_goals first | (cases h; done) | (cases h; rfl)
  case unOp => exact viaPure_same h
  case convert src dst x =>
    unfold xConvert at h
    split at h
    · repeat' split at h
      all_goals first | (cases h; done) | (cases h; rfl)
    · rename_i hd hx
      rw [hd] at hf
      cases hf
    · repeat' split at h
      all_goals first | (cases h; done) | (cases h; rfl)
    · repeat' split at h
      all_goals first | (cases h; done) | (cases h; rfl)
    · exact viaPure_same h
  case makeInterface => unfold xMakeInterface at h; repeat' split at h
                        all_goals first | (cases h; done) | (cases h; rfl)
  case makeFunc => unfold xMakeFunc at h; repeat' split at h
                   all_goals first | (cases h; done) | (cases h; rfl)
  case slice => unfold xSlice at h; repeat' split at h
                all_goals first | (cases h; done) | (cases h; rfl)
  case fieldAddr => unfold xFieldAddr at h; repeat' split at h
                    all_goals first | (cases h; done) | (cases h; rfl)
  case field => unfold xField at h; repeat' split at h
                all_goals first | (cases h; done) | (cases h; rfl)
  case indexAddr => unfold xIndexAddr at h; repeat' split at h
                    all_goals first | (cases h; done) | (cases h; rfl)
  case index => unfold xIndex at h; repeat' split at h
                all_goals first | (cases h; done) | (cases h; rfl)
  case lookup =>
    unfold xLookup at h
    split at h
    case h_2 => cases h
    split at h
    case h_2 => cases h
    split at h
    case isFalse => cases h
    simp only [] at h
    generalize (match ρ _ with
      | .map none => some []
      | .map (some r) => match A.h.get r with
        | some (.map es _) => some es
        | _ => none
      | _ => none : Option (List MapEntry)) = es at h
    repeat' split at h
    all_goals first | (cases h; done) | (cases h; rfl)
  case typeAssert => unfold xTypeAssert at h; repeat' split at h
                     all_goals first | (cases h; done) | (cases h; rfl)
  case extract => unfold xExtract at h; repeat' split at h
                  all_goals first | (cases h; done) | (cases h; rfl)
  case call c =>
    obtain ⟨callee, args, argTypes⟩ := c
    cases callee with
    | value f => cases hf
    | invoke r m => cases hf
    | builtin b =>
      unfold xCall at h
      simp only [resolveT] at h
      unfold invokeT at h
      simp only [] at h
      unfold builtinOp at h
      cases b <;> simp only [] at hf h <;> first | (cases hf; done) | skip
      case len => unfold bLen at h; repeat' split at h
                  all_goals first | (cases h; done) | (cases h; rfl)
      case cap => unfold bCap at h; repeat' split at h
                  all_goals first | (cases h; done) | (cases h; rfl)
      case min => unfold bMin at h; repeat' split at h
                  all_goals first | (cases h; done) | (cases h; rfl)
      case max => unfold bMin at h; repeat' split at h
                  all_goals first | (cases h; done) | (cases h; rfl)
      case unsafeSliceData => unfold bUnsafeSliceData at h; repeat' split at h
                              all_goals first | (cases h; done) | (cases h; rfl)
end
end Go.AM
