/- The symbolic evaluator is right: operations in the text's order. -/
import Derived.Test.YtkhgbpokoaklpaaGreatDoorSxOp
namespace Go.AM.SX
open Go

/-! ### More fuel -/
def Le (r s : Rec) : Prop := (∀ nt c fr A x, r.code nt c fr A = some x → s.code nt c fr A = some x) ∧ (∀ f as A x, r.call f as A = some x → s.call f as A = some x)
section
variable {E : Env} {r s : Rec}
theorem doEnter_mono (h : Le r s) {nt : Nat} {fr : Fr} {d : Option Tmp} {f : FuncId} {as : List Value} {A : St} {x : Fr × St} (hx : doEnter r nt fr d f as A = some x) : doEnter s nt fr d f as A = some x := by
  unfold doEnter at hx ⊢
  cases hc : r.call f as A with
  | none => rw [hc] at hx; cases hx
  | some v => rw [hc] at hx; rw [h.2 _ _ _ _ hc]; exact hx
theorem doNx_mono (h : Le r s) {nt : Nat} {fr : Fr} {d : Option Tmp} {nx : Nx} {A : St} {x : Fr × St} (hx : doNx r nt fr d nx A = some x) : doNx s nt fr d nx A = some x := by
  cases nx <;> first
    | exact hx
    | exact doEnter_mono h hx
theorem doOp_mono (h : Le r s) {nt : Nat} {o : Oper} {fr : Fr} {A : St} {x : Fr × St} (hx : doOp E r nt o fr A = some x) : doOp E s nt o fr A = some x := by
  unfold doOp at hx ⊢
  split at hx
  · cases hx
  · rename_i nx A1 h1
    exact doNx_mono h hx
theorem doOps_mono (h : Le r s) {nt : Nat} {ops : Array Oper} : ∀ {os : List Oper} {fr : Fr} {A : St} {x : Fr × St}, doOps E r nt ops os fr A = some x → doOps E s nt ops os fr A = some x
  | [], _, _, _, hx => hx
  | o :: os, fr, A, x, hx => by
    unfold doOps at hx ⊢
    split at hx
    · rename_i hg
      rw [if_pos hg]
      cases h1 : doOp E r nt o fr A with
      | none => rw [h1] at hx; cases hx
      | some y =>
        rw [h1] at hx
        rw [doOp_mono h h1]
        exact doOps_mono h hx
    · rename_i hg
      rw [if_neg hg]
      cases h1 : Fr.put nt fr o.dst undef with
      | none => rw [h1] at hx; cases hx
      | some y =>
        rw [h1] at hx
        exact doOps_mono h hx
theorem doDraw_mono (h : Le r s) {nt : Nat} {ops : Array Oper} {befs : List Nat} : ∀ {os : List (Oper × Nat)} {i rid : Nat} {fr : Fr} {A : St} {log : List Ent} {Hs : List (Nat × St)} {ks : List Nat} {x : Fr × St},
    doDraw E r nt ops befs os i rid fr A log Hs ks = some x → doDraw E s nt ops befs os i rid fr A log Hs ks = some x
  | [], _, _, _, _, _, _, _, _, hx => hx
  | (o, b) :: os, i, rid, fr, A, log, Hs, ks, x, hx => by
    unfold doDraw at hx ⊢
    split at hx
    · rename_i hg
      rw [if_pos hg]
      split at hx
      · rename_i hfl
        rw [if_pos hfl]
        split at hx
        · rename_i v A1 h1
          split at hx
          · rename_i fr1 h2
            exact doDraw_mono h hx
          · cases hx
        · cases hx
      · rename_i hfl
        rw [if_neg hfl]
        split at hx
        · rename_i hal
          rw [if_pos hal]
          split at hx
          · rename_i v A1 h1
            split at hx
            · rename_i fr1 h2
              exact doDraw_mono h hx
            · cases hx
          · cases hx
        · rename_i hal
          rw [if_neg hal]
          cases h1 : doOp E r nt o fr A with
          | none => rw [h1] at hx; cases hx
          | some y =>
            rw [h1] at hx
            rw [doOp_mono h h1]
            exact doDraw_mono h hx
    · rename_i hg
      rw [if_neg hg]
      cases h1 : Fr.put nt fr o.dst undef with
      | none => rw [h1] at hx; cases hx
      | some y =>
        rw [h1] at hx
        exact doDraw_mono h hx
theorem drawRegion_mono (h : Le r s) {nt : Nat} {ops : Array Oper} {fr : Fr} {A : St} {x : Fr × St} (hx : drawRegion E r nt ops fr A = some x) : drawRegion E s nt ops fr A = some x := by
  unfold drawRegion at hx ⊢
  split at hx
  · rename_i hc
    rw [if_pos hc]
    exact doDraw_mono h hx
  · cases hx
theorem codeRange_mono (h : Le r s) {f : Operand} {fr : Fr} {A : St} {x : Out × Fr × St} (hx : codeRange E r f fr A = some x) : codeRange E s f fr A = some x := by
  by_cases hl : litOk E f = true
  · simp only [codeRange, if_pos hl] at hx ⊢
    split at hx
    · cases hx
    · split at hx
      · rename_i g as A2 hi
        cases hc : r.call g as A2 with
        | none => rw [hc] at hx; cases hx
        | some y =>
          rw [hc] at hx
          rw [h.2 _ _ _ _ hc]
          exact hx
      · cases hx
  · simp only [codeRange, if_neg hl] at hx
    cases hx
theorem codeB_mono (h : Le r s) {nt : Nat} {c : Code} {fr : Fr} {A : St} {x : Out × Fr × St} (hx : codeB E r nt c fr A = some x) : codeB E s nt c fr A = some x := by
  cases c <;> simp only [codeB] at hx ⊢ <;> first
    | (exfalso; cases hx; done)
    | exact hx
    | exact h.1 _ _ _ _ _ hx
    | exact codeRange_mono h hx
    | skip
  case region i ops draw =>
    cases draw with
    | true =>
      simp only [if_true] at hx ⊢
      cases h1 : drawRegion E r nt ops fr A with
      | none => rw [h1] at hx; cases hx
      | some y => rw [h1] at hx; rw [drawRegion_mono h h1]; exact hx
    | false =>
      simp only [Bool.false_eq_true, if_false] at hx ⊢
      cases h1 : doOps E r nt ops ops.toList fr A with
      | none => rw [h1] at hx; cases hx
      | some y => rw [h1] at hx; rw [doOps_mono h h1]; exact hx
  case seq a b =>
    cases h1 : r.code nt a fr A with
    | none => simp only [h1] at hx; cases hx
    | some y =>
      simp only [h1] at hx
      simp only [h.1 _ _ _ _ _ h1]
      obtain ⟨o, fr1, A1⟩ := y
      cases o <;> first
        | exact h.1 _ _ _ _ _ hx
        | exact hx
  case cond c t e =>
    split at hx
    · rename_i hc; exact h.1 _ _ _ _ _ hx
    · rename_i hc; exact h.1 _ _ _ _ _ hx
    · cases hx
  case block id b =>
    cases h1 : r.code nt b fr A with
    | none => simp only [h1] at hx; cases hx
    | some y =>
      simp only [h1] at hx
      simp only [h.1 _ _ _ _ _ h1]
      exact hx
  case loop b =>
    cases h1 : r.code nt b fr A with
    | none => simp only [h1] at hx; cases hx
    | some y =>
      simp only [h1] at hx
      simp only [h.1 _ _ _ _ _ h1]
      obtain ⟨o, fr1, A1⟩ := y
      cases o <;> first
        | exact h.1 _ _ _ _ _ hx
        | exact hx
theorem callC_mono (h : Le r s) {f : FuncId} {as : List Value} {A : St} {x : Value × St} (hx : callC E r f as A = some x) : callC E s f as A = some x := by
  unfold callC at hx ⊢
  cases hfn : E.fn.get f with
  | none => rw [hfn] at hx; cases hx
  | some fn =>
    rw [hfn] at hx
    simp only at hx ⊢
    cases hb : fn.body with
    | none => rw [hb] at hx; cases hx
    | some c =>
      rw [hb] at hx
      simp only at hx ⊢
      split at hx
      · rename_i hle
        rw [if_pos hle]
        cases h1 : r.code fn.ntmps c { tm := T.ofList as, marks := [] } A with
        | none => rw [h1] at hx; cases hx
        | some y => rw [h1] at hx; rw [h.1 _ _ _ _ _ h1]; exact hx
      · cases hx
theorem callB_mono (h : Le r s) {f : FuncId} {as : List Value} {A : St} {x : Value × St} (hx : callB E r f as A = some x) : callB E s f as A = some x := by
  unfold callB at hx ⊢
  cases hk : knownAt f as E.known with
  | none => rw [hk] at hx; exact callC_mono h hx
  | some k => rw [hk] at hx; exact hx
end
theorem knownAt_none {f : FuncId} {as : List Value} : ∀ {ks : List Known}, ks.any (fun k => Nat.beq k.f f) = false → knownAt f as ks = none
  | [], _ => rfl
  | k :: ks, h => by
    simp only [List.any_cons, Bool.or_eq_false_iff] at h
    simp only [knownAt]
    rw [h.1]
    exact knownAt_none h.2
theorem runs_known {E : Env} {f : FuncId} {as : List Value} {A : St} {k : Known} (hk : knownAt f as E.known = some k) (hl : (k.looks.all fun r => Nat.blt r.g E.ng && lookOk A r) = true) :
    Runs E f as A (shiftV A.next 8 k.v) { A with next := A.next + k.cnt, h := addRows A.next A.h k.objs } := ⟨1, by
  show callB E (big E 0) f as A = _
  unfold callB
  rw [hk]
  simp only
  rw [if_pos hl]⟩
theorem big_mono (E : Env) : ∀ {n m : Nat}, n ≤ m → Le (big E n) (big E m)
  | 0, _, _ => ⟨fun _ _ _ _ _ h => (by cases h), fun _ _ _ _ h => (by cases h)⟩
  | n + 1, 0, h => by omega
  | n + 1, m + 1, h => ⟨fun _ _ _ _ _ hx => codeB_mono (big_mono E (Nat.le_of_succ_le_succ h)) hx, fun _ _ _ _ hx => callB_mono (big_mono E (Nat.le_of_succ_le_succ h)) hx⟩
theorem Runs.det {E : Env} {f : FuncId} {as : List Value} {A : St} {v w : Value} {B C : St} (h1 : Runs E f as A v B) (h2 : Runs E f as A w C) : v = w ∧ B = C := by
  obtain ⟨n, h1⟩ := h1
  obtain ⟨m, h2⟩ := h2
  have a := (big_mono E (Nat.le_max_left n m)).2 _ _ _ _ h1
  have b := (big_mono E (Nat.le_max_right n m)).2 _ _ _ _ h2
  rw [a] at b
  cases b
  exact ⟨rfl, rfl⟩
end Go.AM.SX

namespace Go.AM.SX
open Go

def outN : Nat → Out
  | 0 => .norm
  | 1 => .ret
  | n + 2 => .exit n

section
variable {E : Env} {cfg : Cfg} {rec_ : SRec} {Q : Post} {σ : Sg} {H : List St} {sf : SF} {fr : Fr} {A : St} {T : N} {nt : Nat} {o : Oper}

def KGood (E : Env) (Q : Post) (σ : Sg) (H : List St) (k : K) (fr : Fr) (A : St) : Prop :=
  ∃ σ' H' sf' T', FrRel (σ ++ σ') sf' fr ∧ k sf' (σ ++ σ').length (H ++ H').length = some T' ∧ wp E T' (σ ++ σ') (H ++ H') A Q
def XGood (E : Env) (Q : Post) (σ : Sg) (H : List St) (k : KX) (v : Value) (A : St) : Prop :=
  ∃ σ' H' x T', X.good (σ ++ σ') x ∧ x.den (σ ++ σ') = v ∧ k x (σ ++ σ').length (H ++ H').length = some T' ∧ wp E T' (σ ++ σ') (H ++ H') A Q
theorem KGood.here {k : K} (hf : FrRel σ sf fr) (h : k sf σ.length H.length = some T) (hw : wp E T σ H A Q) : KGood E Q σ H k fr A :=
  ⟨[], [], sf, T, by simpa using hf, by simpa using h, by simpa using hw⟩
theorem KGood.more {k : K} {τ : Sg} {I : List St} (h : KGood E Q (σ ++ τ) (H ++ I) k fr A) : KGood E Q σ H k fr A := by
  obtain ⟨σ', H', sf', T', h1, h2, h3⟩ := h
  exact ⟨τ ++ σ', I ++ H', sf', T', by rw [← List.append_assoc]; exact h1, by rw [← List.append_assoc, ← List.append_assoc]; exact h2, by rw [← List.append_assoc, ← List.append_assoc]; exact h3⟩
theorem XGood.here {k : KX} {x : X} (hx : x.good σ) (h : k x σ.length H.length = some T) (hw : wp E T σ H A Q) : XGood E Q σ H k (x.den σ) A :=
  ⟨[], [], x, T, by simpa using hx, by simp, by simpa using h, by simpa using hw⟩
theorem XGood.more {k : KX} {τ : Sg} {I : List St} {v : Value} (h : XGood E Q (σ ++ τ) (H ++ I) k v A) : XGood E Q σ H k v A := by
  obtain ⟨σ', H', sf', T', h1, h1', h2, h3⟩ := h
  exact ⟨τ ++ σ', I ++ H', sf', T', by rw [← List.append_assoc]; exact h1, by rw [← List.append_assoc]; exact h1', by rw [← List.append_assoc, ← List.append_assoc]; exact h2, by rw [← List.append_assoc, ← List.append_assoc]; exact h3⟩

/-- The two runs that a run goes on by are right. -/
structure RecOk (E : Env) (rec_ : SRec) : Prop where
  code : ∀ {f nt : Nat} {c : Code} {sf : SF} {fr : Fr} {σ : Sg} {H : List St} {A : St} {T : N} {Q : Post} {k : KO}, FrRel σ sf fr → rec_.code f nt c sf σ.length H.length k = some T → wp E T σ H A Q →
    ∃ n o fr' A', (big E n).code nt c fr A = some (outN o, fr', A') ∧ fr'.marks = fr.marks ∧ KGood E Q σ H (k o) fr' A'
  call : ∀ {f : Nat} {args : List X} {σ : Sg} {H : List St} {A : St} {T : N} {Q : Post} {k : KX}, (∀ x, x ∈ args → X.good σ x) → rec_.call f args σ.length H.length k = some T → wp E T σ H A Q →
    ∃ n v A', (big E n).call f (denL σ args) A = some (v, A') ∧ XGood E Q σ H k v A'

def valNx (r : Rec) (nx : Nx) (A : St) : Option (Value × St) :=
  match nx with
  | .val v => some (v, A)
  | .skip => some (undef, A)
  | .enter f as => r.call f as A
  | _ => none
theorem doNx_val {r : Rec} {nx : Nx} {d : Option Tmp} {v : Value} {A' : St} (h : valNx r nx A = some (v, A')) : doNx r nt fr d nx A = doVal nt fr d v A' := by
  cases nx <;> simp only [valNx] at h <;> first
    | (cases h; done)
    | (cases h; rfl)
    | (simp only [doNx, doEnter, h])

theorem nOp_some {r : R} {args : List X} {n : Option N} (h : nOp r args n = some T) : ∃ n', n = some n' ∧ T = .op r args n' := by
  cases n with
  | none => cases h
  | some n => cases h; exact ⟨_, rfl, rfl⟩
theorem nCall_some {f : Nat} {args : List X} {n : Option N} (h : nCall f args n = some T) : ∃ n', n = some n' ∧ T = .call f args n' := by
  cases n with
  | none => cases h
  | some n => cases h; exact ⟨_, rfl, rfl⟩
theorem nCallv_some {f : X} {args : List X} {n : Option N} (h : nCallv f args n = some T) : ∃ n', n = some n' ∧ T = .callv f args n' := by
  cases n with
  | none => cases h
  | some n => cases h; exact ⟨_, rfl, rfl⟩
theorem nCallm_some {x : X} {name : String} {args : List X} {n : Option N} (h : nCallm x name args n = some T) : ∃ n', n = some n' ∧ T = .callm x name args n' := by
  cases n with
  | none => cases h
  | some n => cases h; exact ⟨_, rfl, rfl⟩
theorem nOpAt_some {b off : Nat} {r : R} {args : List X} {n : Option N} (h : nOpAt b off r args n = some T) : ∃ n', n = some n' ∧ T = .opAt b off r args n' := by
  cases n with
  | none => cases h
  | some n => cases h; exact ⟨_, rfl, rfl⟩
theorem nSave_some {n : Option N} (h : nSave n = some T) : ∃ n', n = some n' ∧ T = .save n' := by
  cases n with
  | none => cases h
  | some n => cases h; exact ⟨_, rfl, rfl⟩
theorem nBump_some {m : Nat} {n : Option N} (h : nBump m n = some T) : ∃ n', n = some n' ∧ T = .bump m n' := by
  cases n with
  | none => cases h
  | some n => cases h; exact ⟨_, rfl, rfl⟩
theorem mkBr_some {j : Nat} {a b : Option N} (h : mkBr j a b = some T) : ∃ a' b', a = some a' ∧ b = some b' ∧ T = .br (vn j) a' b' := by
  cases a with
  | none => cases h
  | some a => cases b with
    | none => cases h
    | some b => cases h; exact ⟨_, _, rfl, rfl, rfl⟩

/-- One variable more. -/
theorem XGood.one {k : KX} {v : Value} {x : X} (hx : x.good (σ ++ [v])) {u : Value} (hu : x.den (σ ++ [v]) = u) (h : k x (σ.length + 1) H.length = some T) (hw : wp E T (σ ++ [v]) H A Q) : XGood E Q σ H k u A :=
  ⟨[v], [], x, T, hx, hu, by simpa using h, by simpa using hw⟩
theorem vn_new (σ : Sg) (v : Value) : (vn σ.length).good (σ ++ [v]) ∧ (vn σ.length).den (σ ++ [v]) = v := ⟨vn_good (by simp), look_new σ v⟩

theorem act_ok (hR : RecOk E rec_) {a : Act} {k : KX} (ha : ActOk E σ fr o a) (h : sxAct cfg rec_ a σ.length H.length k = some T) (hw : wp E T σ H A Q) :
    ∃ n v A' nx A1, opX E A (evalO fr) o = some (nx, A1) ∧ valNx (big E n) nx A1 = some (v, A') ∧ XGood E Q σ H k v A' := by
  cases a with
  | st x => exact ⟨0, _, A, _, _, ha.2 A, rfl, .here ha.1 h hw⟩
  | op r args =>
    obtain ⟨T', h1, rfl⟩ := nOp_some h
    obtain ⟨v, A', hs, hw'⟩ := hw
    exact ⟨0, v, A', _, _, ha A v A' hs, rfl, .one (vn_new σ v).1 (vn_new σ v).2 h1 hw'⟩
  | opSl r args len =>
    obtain ⟨T', h1, rfl⟩ := nOp_some h
    obtain ⟨v, A', hs, hw'⟩ := hw
    obtain ⟨⟨p, hp⟩, h2⟩ := ha A v A' hs
    refine ⟨0, slV v len, A', _, _, h2, rfl, .one (x := .sl (.n σ.length) len) ⟨vn_ok (by simp), ⟨p, ?_⟩⟩ ?_ h1 hw'⟩
    · rw [← hp]; exact look_new σ v
    · show slV (look _ _) len = _
      rw [look_new]
  | eff r args =>
    obtain ⟨T', h1, rfl⟩ := nOp_some h
    obtain ⟨v, A', hs, hw'⟩ := hw
    exact ⟨0, undef, A', _, _, ha A v A' hs, rfl, .one (vv_good _ _) rfl h1 hw'⟩
  | call f args =>
    simp only [sxAct] at h
    split at h
    · obtain ⟨n, v, A', hc, hx⟩ := hR.call ha.1 h hw
      exact ⟨n, v, A', _, _, ha.2 A, hc, hx⟩
    · obtain ⟨T', h1, rfl⟩ := nCall_some h
      obtain ⟨v, A', ⟨n, hc⟩, hw'⟩ := hw
      exact ⟨n, v, A', _, _, ha.2 A, hc, .one (vn_new σ v).1 (vn_new σ v).2 h1 hw'⟩
  | callv f args =>
    obtain ⟨T', h1, rfl⟩ := nCallv_some h
    obtain ⟨g, fs, cs, v, A', hd, hb, ⟨n, hc⟩, hw'⟩ := hw
    exact ⟨n, v, A', _, _, ha A g fs cs hd hb, hc, .one (vn_new σ v).1 (vn_new σ v).2 h1 hw'⟩
  | callm x name args =>
    obtain ⟨T', h1, rfl⟩ := nCallm_some h
    obtain ⟨g, as, v, A', hm, ⟨n, hc⟩, hw'⟩ := hw
    exact ⟨n, v, A', _, _, ha A g as hm, hc, .one (vn_new σ v).1 (vn_new σ v).2 h1 hw'⟩
  | pick j a b => cases h

theorem put_ok (hf : FrRel σ sf fr) {d : Option Tmp} {x : X} (hx : x.good σ) {sf1 : SF} (h : sput nt sf d x = some sf1) : ∃ fr', Fr.put nt fr d (x.den σ) = some fr' ∧ fr'.marks = fr.marks ∧ FrRel σ sf1 fr' := by
  cases d with
  | none => cases h; exact ⟨fr, rfl, rfl, hf⟩
  | some d =>
    simp only [sput] at h
    split at h
    · rename_i hlt
      cases h
      refine ⟨{ fr with tm := fr.tm.set d (x.den σ) }, ?_, rfl, hf.put hx⟩
      simp only [Fr.put, hlt]
    · cases h
theorem putX_ok (hf : FrRel σ sf fr) {d : Option Tmp} {k : K} {v : Value} (h : XGood E Q σ H (putK nt sf d k) v A) : ∃ fr', Fr.put nt fr d v = some fr' ∧ fr'.marks = fr.marks ∧ KGood E Q σ H k fr' A := by
  obtain ⟨σ', H', x, T', h1, h2, h3, h4⟩ := h
  simp only [putK] at h3
  split at h3
  · rename_i sf1 hs
    obtain ⟨fr', p1, p2, p3⟩ := put_ok (hf.append σ') h1 hs
    rw [h2] at p1
    exact ⟨fr', p1, p2, σ', H', sf1, T', p3, h3, h4⟩
  · cases h3
theorem putH_ok (hf : FrRel σ sf fr) {d : Option Tmp} {k : K} {x : X} (hx : x.good σ) (h : putK nt sf d k x σ.length H.length = some T) (hw : wp E T σ H A Q) : ∃ fr', Fr.put nt fr d (x.den σ) = some fr' ∧ fr'.marks = fr.marks ∧ KGood E Q σ H k fr' A :=
  putX_ok hf (.here hx h hw)

theorem op_ok (hE : SxEnv E) (hR : RecOk E rec_) (hf : FrRel σ sf fr) {k : K} (h : sxOp E cfg rec_ nt o sf σ.length H.length k = some T) (hw : wp E T σ H A Q) :
    ∃ n fr' A', doOp E (big E n) nt o fr A = some (fr', A') ∧ fr'.marks = fr.marks ∧ KGood E Q σ H k fr' A' := by
  unfold sxOp at h
  split at h
  · rename_i hl
    cases ht : tr E sf o with
    | none => rw [ht] at h; cases h
    | some act =>
      rw [ht] at h
      have hact := tr_ok hE hf hl ht
      by_cases hp : ∃ j a b, act = .pick j a b
      · obtain ⟨j, a, b, rfl⟩ := hp
        obtain ⟨ga, gb, hpick⟩ := hact
        obtain ⟨ta, tb, h1, h2, rfl⟩ := mkBr_some h
        obtain ⟨t, hj, hwt, hwf⟩ := hw
        have hj' : look σ j = .bool t := hj
        have hX := hpick A t hj'
        cases t with
        | true =>
          obtain ⟨fr', p1, p2, p3⟩ := putH_ok (hf.learn hj') (X.learn_ok ga) h1 (hwt rfl)
          rw [X.learn_den hj'] at p1
          refine ⟨0, fr', A, ?_, p2, p3⟩
          unfold doOp
          rw [hX]
          simp only [doNx, doVal, if_true]
          rw [p1]
        | false =>
          obtain ⟨fr', p1, p2, p3⟩ := putH_ok (hf.learn hj') (X.learn_ok gb) h2 (hwf rfl)
          rw [X.learn_den hj'] at p1
          refine ⟨0, fr', A, ?_, p2, p3⟩
          unfold doOp
          rw [hX]
          simp only [doNx, doVal, Bool.false_eq_true, if_false]
          rw [p1]
      · have h' : sxAct cfg rec_ act σ.length H.length (putK nt sf o.dst k) = some T := by
          cases act <;> first
            | exact h
            | exact absurd ⟨_, _, _, rfl⟩ hp
        obtain ⟨n, v, A', nx, A1, e1, e2, e3⟩ := act_ok hR hact h' hw
        obtain ⟨fr', p1, p2, p3⟩ := putX_ok hf e3
        refine ⟨n, fr', A', ?_, p2, p3⟩
        unfold doOp
        rw [e1]
        simp only
        rw [doNx_val e2]
        simp only [doVal, p1]
  · cases h

theorem guard_yes {ops : Array Oper} (hf : FrRel σ sf fr) (h : gd ops o sf = .yes) : guardOk ops o fr = true := by
  unfold gd at h
  unfold guardOk
  split at h
  · rename_i hg; rw [hg]
  · rename_i j want hg
    rw [hg]
    simp only
    cases hd : (ops[j]?).bind (·.dst) with
    | none => rw [hd] at h; cases h
    | some d =>
      rw [hd] at h
      simp only [Option.bind_some] at h ⊢
      split at h
      · rename_i b hb
        obtain ⟨_, h2⟩ := hf _ _ hb
        rw [h2]
        simp only [X.den, At.den]
        split at h
        · assumption
        · cases h
      · cases h
      · cases h
      · cases h
theorem guard_no {ops : Array Oper} (hf : FrRel σ sf fr) (h : gd ops o sf = .no) : guardOk ops o fr = false := by
  unfold gd at h
  unfold guardOk
  split at h
  · cases h
  · rename_i j want hg
    rw [hg]
    simp only
    cases hd : (ops[j]?).bind (·.dst) with
    | none => rw [hd] at h; cases h
    | some d =>
      rw [hd] at h
      simp only [Option.bind_some] at h ⊢
      split at h
      · rename_i b hb
        obtain ⟨_, h2⟩ := hf _ _ hb
        rw [h2]
        simp only [X.den, At.den]
        split at h
        · cases h
        · rename_i hc; simpa using hc
      · rename_i v hn hv
        obtain ⟨_, h2⟩ := hf _ _ hv
        rw [h2]
        simp only [X.den, At.den]
        cases v <;> first
          | rfl
          | exact (hn _ rfl).elim
      · cases h
      · cases h
theorem guard_sym {ops : Array Oper} (hf : FrRel σ sf fr) {k : Nat} {want t : Bool} (h : gd ops o sf = .sym k want) (hk : look σ k = .bool t) : guardOk ops o fr = (t == want) := by
  unfold gd at h
  unfold guardOk
  split at h
  · cases h
  · rename_i j w hg
    rw [hg]
    simp only
    cases hd : (ops[j]?).bind (·.dst) with
    | none => rw [hd] at h; cases h
    | some d =>
      rw [hd] at h
      simp only [Option.bind_some] at h ⊢
      split at h
      · split at h <;> cases h
      · cases h
      · rename_i j' hv
        cases h
        obtain ⟨_, h2⟩ := hf _ _ hv
        rw [h2]
        simp only [X.den, At.den, hk]
      · cases h

theorem ops_ok (hE : SxEnv E) (hR : RecOk E rec_) {ops : Array Oper} {k : K} : ∀ {os : List Oper} {σ : Sg} {H : List St} {sf : SF} {fr : Fr} {A : St} {T : N}, FrRel σ sf fr → sxOps E cfg rec_ nt ops os sf σ.length H.length k = some T → wp E T σ H A Q →
    ∃ n fr' A', doOps E (big E n) nt ops os fr A = some (fr', A') ∧ fr'.marks = fr.marks ∧ KGood E Q σ H k fr' A'
  | [], σ, H, sf, fr, A, T, hf, h, hw => ⟨0, fr, A, rfl, rfl, .here hf h hw⟩
  | o :: os, σ, H, sf, fr, A, T, hf, h, hw => by
    have step : ∀ {sf : SF} {T : N}, FrRel σ sf fr → guardOk ops o fr = true → sxOp E cfg rec_ nt o sf σ.length H.length (fun sf nv nh => sxOps E cfg rec_ nt ops os sf nv nh k) = some T → wp E T σ H A Q →
        ∃ n fr' A', doOps E (big E n) nt ops (o :: os) fr A = some (fr', A') ∧ fr'.marks = fr.marks ∧ KGood E Q σ H k fr' A' := by
      intro sf T hf hg h hw
      obtain ⟨n, fr1, A1, d1, d2, ⟨σ', H', sf', T', g1, g2, g3⟩⟩ := op_ok hE hR hf h hw
      obtain ⟨m, fr2, A2, e1, e2, e3⟩ := ops_ok hE hR g1 g2 g3
      refine ⟨max n m, fr2, A2, ?_, e2.trans d2, e3.more⟩
      unfold doOps
      rw [if_pos hg, doOp_mono (big_mono E (Nat.le_max_left n m)) d1]
      exact doOps_mono (big_mono E (Nat.le_max_right n m)) e1
    have skip : ∀ {sf : SF} {T : N}, FrRel σ sf fr → guardOk ops o fr = false → putK nt sf o.dst (fun sf nv nh => sxOps E cfg rec_ nt ops os sf nv nh k) (vv undef) σ.length H.length = some T → wp E T σ H A Q →
        ∃ n fr' A', doOps E (big E n) nt ops (o :: os) fr A = some (fr', A') ∧ fr'.marks = fr.marks ∧ KGood E Q σ H k fr' A' := by
      intro sf T hf hg h hw
      obtain ⟨fr1, d1, d2, ⟨σ', H', sf', T', g1, g2, g3⟩⟩ := putH_ok hf (vv_good σ undef) h hw
      obtain ⟨m, fr2, A2, e1, e2, e3⟩ := ops_ok hE hR g1 g2 g3
      refine ⟨m, fr2, A2, ?_, e2.trans d2, e3.more⟩
      have d1' : Fr.put nt fr o.dst undef = some fr1 := d1
      unfold doOps
      rw [if_neg (by rw [hg]; decide), d1']
      exact e1
    unfold sxOps at h
    split at h
    · rename_i hg
      exact step hf (guard_yes hf hg) h hw
    · rename_i hg
      exact skip hf (guard_no hf hg) h hw
    · rename_i j hg
      obtain ⟨ta, tb, h1, h2, rfl⟩ := mkBr_some h
      obtain ⟨t, hj, hwt, hwf⟩ := hw
      have hj' : look σ j = .bool t := hj
      cases t with
      | true => exact step (hf.learn hj') (guard_sym hf hg hj') h1 (hwt rfl)
      | false => exact skip (hf.learn hj') (guard_sym hf hg hj') h2 (hwf rfl)
    · rename_i j hg
      obtain ⟨ta, tb, h1, h2, rfl⟩ := mkBr_some h
      obtain ⟨t, hj, hwt, hwf⟩ := hw
      have hj' : look σ j = .bool t := hj
      cases t with
      | true => exact skip (hf.learn hj') (guard_sym hf hg hj') h1 (hwt rfl)
      | false => exact step (hf.learn hj') (guard_sym hf hg hj') h2 (hwf rfl)
    · cases h
end
end Go.AM.SX

namespace Go.AM.SX
open Go
section
variable {E : Env} {cfg : Cfg} {rec_ : SRec} {Q : Post} {nt : Nat}

inductive F2 {α β : Type} (P : α → β → Prop) : List α → List β → Prop where
  | nil : F2 P [] []
  | cons {a : α} {b : β} {l : List α} {m : List β} : P a b → F2 P l m → F2 P (a :: l) (b :: m)
/-- An entry and what stands for it. -/
structure EntRel (E : Env) (σ : Sg) (se : SEnt) (e : Ent) : Prop where
  kind : se.kind = e.kind
  bef : se.bef = e.bef
  val : se.kind = 1 → e.v = se.x.den σ ∧ se.x.ok σ.length = true
  known : se.kind = 1 → se.r = none → ∀ A, opX E A (evalO e.fr) e.o = some (.val e.v, A)
  asked : se.kind = 1 → ∀ r args, se.r = some (r, args) → args.all (·.ok σ.length) = true ∧ ∀ B v A', semR r (denL σ args) B = some (v, A') → opX E B (evalO e.fr) e.o = some (.val v, A')
theorem EntRel.append {σ : Sg} {se : SEnt} {e : Ent} (h : EntRel E σ se e) (τ : Sg) : EntRel E (σ ++ τ) se e where
  kind := h.kind
  bef := h.bef
  val := fun hk => ⟨by rw [X.den_append τ (h.val hk).2]; exact (h.val hk).1, X.ok_mono (by simp) (h.val hk).2⟩
  known := h.known
  asked := fun hk r args hr => by
    obtain ⟨h1, h2⟩ := h.asked hk r args hr
    have h1' := List.all_eq_true.1 h1
    refine ⟨List.all_eq_true.2 fun x hx => X.ok_mono (by simp) (h1' x hx), fun B v A' hs => ?_⟩
    rw [denL_append τ h1'] at hs
    exact h2 B v A' hs

def LogRel (E : Env) (σ : Sg) (sl : List SEnt) (l : List Ent) : Prop := F2 (EntRel E σ) sl l
def HsRel (H : List St) (sl : List (Nat × Nat)) (l : List (Nat × St)) : Prop := F2 (fun p q => p.1 = q.1 ∧ H[p.2]? = some q.2) sl l
theorem forall₂_mono {α β : Type} {P R : α → β → Prop} (h : ∀ a b, P a b → R a b) : ∀ {l : List α} {m : List β}, F2 P l m → F2 R l m
  | _, _, .nil => .nil
  | _, _, .cons a b => .cons (h _ _ a) (forall₂_mono h b)
theorem LogRel.append {σ : Sg} {sl : List SEnt} {l : List Ent} (h : LogRel E σ sl l) (τ : Sg) : LogRel E (σ ++ τ) sl l := forall₂_mono (fun _ _ h => h.append τ) h
theorem HsRel.append {H : List St} {sl : List (Nat × Nat)} {l : List (Nat × St)} (h : HsRel H sl l) (I : List St) : HsRel (H ++ I) sl l :=
  forall₂_mono (fun p q ⟨h1, h2⟩ => ⟨h1, by
    have hlt := (List.getElem?_eq_some_iff.1 h2).1
    rw [List.getElem?_append_left hlt]; exact h2⟩) h
theorem forall₂_append {α β : Type} {P : α → β → Prop} : ∀ {l l' : List α} {m m' : List β}, F2 P l m → F2 P l' m' → F2 P (l ++ l') (m ++ m')
  | _, _, _, _, .nil, h => h
  | _, _, _, _, .cons a b, h => .cons a (forall₂_append b h)
theorem forall₂_reverse {α β : Type} {P : α → β → Prop} : ∀ {l : List α} {m : List β}, F2 P l m → F2 P l.reverse m.reverse
  | _, _, .nil => .nil
  | _, _, .cons a b => by
    simp only [List.reverse_cons]
    exact forall₂_append (forall₂_reverse b) (.cons a .nil)

theorem nChks_ok {σ : Sg} {H : List St} {A : St} {se : SEnt} {e : Ent} (he : EntRel E σ se e) (hk : se.kind = 1) {i : Nat} {befs ks : List Nat} {n : Option N} : ∀ {sHs : List (Nat × Nat)} {Hs : List (Nat × St)} {T : N}, HsRel H sHs Hs →
    nChks se i befs ks sHs n = some T → wp E T σ H A Q → (Hs.all fun p => !allowed i e.bef befs ks p.1 || sameAt E e p.2) = true ∧ ∃ T', n = some T' ∧ wp E T' σ H A Q
  | _, _, T, .nil, h, hw => ⟨rfl, T, h, hw⟩
  | (k, hh) :: sHs, (k', B) :: Hs, T, .cons ⟨h1, h2⟩ hr, h, hw => by
    have h1' : k = k' := h1
    subst h1'
    simp only [nChks] at h
    simp only [List.all_cons, Bool.and_eq_true]
    rw [← he.bef]
    split at h
    · rename_i hal
      rw [hal]
      simp only [Bool.not_true, Bool.false_or]
      split at h
      · rename_i r args n' hr' hn
        cases h
        obtain ⟨⟨B', v, A', b1, b2, b3⟩, hw'⟩ := hw
        have hB : B' = B := by
          have h2' : H[hh]? = some B := h2
          rw [h2'] at b1; cases b1; rfl
        subst hB
        obtain ⟨i1, i2⟩ := nChks_ok he hk hr hn hw'
        rw [← he.bef] at i1
        refine ⟨⟨?_, i1⟩, i2⟩
        unfold sameAt
        rw [(he.asked hk r args hr').2 B' v A' b2]
        simp only
        rw [(he.val hk).1]
        exact b3
      · rename_i n' hr' hn
        cases h
        obtain ⟨b3, hw'⟩ := hw
        obtain ⟨i1, i2⟩ := nChks_ok he hk hr hn hw'
        rw [← he.bef] at i1
        refine ⟨⟨?_, i1⟩, i2⟩
        unfold sameAt
        rw [he.known hk hr' B]
        simp only
        rw [(he.val hk).1]
        exact b3
      · cases h
    · rename_i hal
      obtain ⟨i1, i2⟩ := nChks_ok he hk hr h hw
      rw [← he.bef] at i1
      refine ⟨⟨?_, i1⟩, i2⟩
      have : allowed i se.bef befs ks k = false := by simpa using hal
      rw [this]
      rfl

theorem chk_ok {σ : Sg} {H : List St} {A : St} {befs ks : List Nat} {sHs : List (Nat × Nat)} {Hs : List (Nat × St)} (hH : HsRel H sHs Hs) {n : Option N} : ∀ {sl : List SEnt} {l : List Ent} {i : Nat} {T : N}, LogRel E σ sl l →
    chkNodes befs ks sHs sl i n = some T → wp E T σ H A Q → chkAll E befs ks Hs l i = true ∧ ∃ T', n = some T' ∧ wp E T' σ H A Q
  | _, _, i, T, .nil, h, hw => ⟨rfl, T, h, hw⟩
  | se :: sl, e :: l, i, T, .cons he hr, h, hw => by
    simp only [chkNodes] at h
    simp only [chkAll, Bool.and_eq_true]
    split at h
    · rename_i hk
      obtain ⟨a1, T1, a2, a3⟩ := nChks_ok he hk hH h hw
      obtain ⟨b1, b2⟩ := chk_ok hH hr a2 a3
      refine ⟨⟨?_, b1⟩, b2⟩
      unfold chkEnt
      rw [show e.kind = 1 from he.kind.symm.trans hk]
      exact a1
    · rename_i hk
      obtain ⟨b1, b2⟩ := chk_ok hH hr h hw
      refine ⟨⟨?_, b1⟩, b2⟩
      unfold chkEnt
      split
      · rename_i hk'; exact absurd (he.kind.trans hk') (by simpa using hk)
      · rfl

theorem float_ok (hE : SxEnv E) {o : Oper} {bf : Nat} {σ : Sg} {H : List St} {sf : SF} {fr : Fr} {A : St} {T : N} {k : SF → Nat → Nat → SEnt → Option N} (hfl : isFloat E o = true) (hf : FrRel σ sf fr) (h : dFloat E nt o bf sf σ.length H.length k = some T) (hw : wp E T σ H A Q) :
    ∃ v fr' τ sf' se T', opX E A (evalO fr) o = some (.val v, A) ∧ Fr.put nt fr o.dst v = some fr' ∧ fr'.marks = fr.marks ∧ FrRel (σ ++ τ) sf' fr' ∧ EntRel E (σ ++ τ) se { o, fr, v, kind := 1, bef := bf } ∧ k sf' (σ ++ τ).length H.length se = some T' ∧ wp E T' (σ ++ τ) H A Q := by
  have known : ∀ {x : X} {sf0 : SF} {T : N}, FrRel σ sf0 fr → x.good σ → (∀ B, opX E B (evalO fr) o = some (.val (x.den σ), B)) → putK nt sf0 o.dst (fun sf nv nh => k sf nv nh { kind := 1, r := none, x, bef := bf }) x σ.length H.length = some T → wp E T σ H A Q →
      ∃ v fr' τ sf' se T', opX E A (evalO fr) o = some (.val v, A) ∧ Fr.put nt fr o.dst v = some fr' ∧ fr'.marks = fr.marks ∧ FrRel (σ ++ τ) sf' fr' ∧ EntRel E (σ ++ τ) se { o, fr, v, kind := 1, bef := bf } ∧ k sf' (σ ++ τ).length H.length se = some T' ∧ wp E T' (σ ++ τ) H A Q := by
    intro x sf0 T hf hx hX h hw
    simp only [putK] at h
    split at h
    · rename_i sf1 hs
      obtain ⟨fr', p1, p2, p3⟩ := put_ok hf hx hs
      refine ⟨_, fr', [], sf1, _, T, hX A, p1, p2, by simpa using p3, ?_, by simpa using h, by simpa using hw⟩
      exact { kind := rfl, bef := rfl, val := fun _ => ⟨by simp, by simpa using hx.1⟩, known := fun _ _ => hX, asked := fun _ r args hr => by cases hr }
    · cases h
  unfold dFloat at h
  split at h
  · rename_i hl
    split at h
    · rename_i x ht
      have ha := tr_ok hE hf hl ht
      exact known hf ha.1 ha.2 h hw
    · rename_i r args ht
      have ha := tr_ok hE hf hl ht
      split at h
      · rename_i hargs
        obtain ⟨T1, h1, rfl⟩ := nOp_some h
        obtain ⟨v, A', hs, hw'⟩ := hw
        have hX := ha A v A' hs
        have hA : A' = A := float_same hfl hX
        subst hA
        simp only [putK] at h1
        split at h1
        · rename_i sf1 hsf
          obtain ⟨fr', p1, p2, p3⟩ := put_ok (hf.append [v]) (vn_new σ v).1 hsf
          rw [(vn_new σ v).2] at p1
          refine ⟨v, fr', [v], sf1, _, T1, hX, p1, p2, p3, ?_, by simpa using h1, hw'⟩
          have hargs' := List.all_eq_true.1 hargs
          refine { kind := rfl, bef := rfl, val := fun _ => ⟨(vn_new σ v).2.symm, (vn_new σ v).1.1⟩, known := fun _ hr => (by cases hr), asked := ?_ }
          intro _ r' args' hr
          cases hr
          refine ⟨List.all_eq_true.2 fun x hx => X.ok_mono (by simp) (hargs' x hx), fun B u B' hb => ?_⟩
          rw [denL_append [v] hargs'] at hb
          exact ha B u B' hb
        · cases h1
      · cases h
    · rename_i j a b ht
      obtain ⟨ga, gb, hpick⟩ := tr_ok hE hf hl ht
      obtain ⟨ta, tb, h1, h2, rfl⟩ := mkBr_some h
      obtain ⟨t, hj, hwt, hwf⟩ := hw
      have hj' : look σ j = .bool t := hj
      cases t with
      | true => exact known (hf.learn hj') (X.learn_ok ga) (fun B => by rw [X.learn_den hj']; exact hpick B true hj') h1 (hwt rfl)
      | false => exact known (hf.learn hj') (X.learn_ok gb) (fun B => by rw [X.learn_den hj']; exact hpick B false hj') h2 (hwf rfl)
    · cases h
  · cases h

theorem alloc_ok (hE : SxEnv E) {o : Oper} {bf b i base : Nat} {σ : Sg} {H : List St} {sf : SF} {fr : Fr} {A : St} {T : N} {k : SF → Nat → Nat → SEnt → Option N} (hb : look σ b = goInt base) (hf : FrRel σ sf fr) (h : dAlloc E nt b i o bf sf σ.length H.length k = some T) (hw : wp E T σ H A Q) :
    ∃ v A1 fr' τ sf' se T', opX E { A with next := base + i } (evalO fr) o = some (.val v, A1) ∧ Fr.put nt fr o.dst v = some fr' ∧ fr'.marks = fr.marks ∧ FrRel (σ ++ τ) sf' fr' ∧ EntRel E (σ ++ τ) se { o, fr, v, kind := 3, bef := bf } ∧ k sf' (σ ++ τ).length H.length se = some T' ∧ wp E T' (σ ++ τ) H { A1 with next := A.next } Q := by
  have hbase : natV (look σ b) = base := by rw [hb]; rfl
  have ent : ∀ (τ : Sg) (v : Value), EntRel E τ { kind := 3, r := none, x := vv undef, bef := bf } { o, fr, v, kind := 3, bef := bf } := fun τ v =>
    { kind := rfl, bef := rfl, val := fun hk => (by cases hk), known := fun hk => (by cases hk), asked := fun hk => (by cases hk) }
  unfold dAlloc at h
  split at h
  · rename_i hl
    split at h
    · rename_i r args ht
      have ha := tr_ok hE hf hl ht
      obtain ⟨T1, h1, rfl⟩ := nOpAt_some h
      obtain ⟨v, A', hs, hw'⟩ := hw
      rw [hbase] at hs
      simp only [putK] at h1
      split at h1
      · rename_i sf1 hsf
        obtain ⟨fr', p1, p2, p3⟩ := put_ok (hf.append [v]) (vn_new σ v).1 hsf
        rw [(vn_new σ v).2] at p1
        exact ⟨v, A', fr', [v], sf1, _, T1, ha _ v A' hs, p1, p2, p3, ent _ v, by simpa using h1, hw'⟩
      · cases h1
    · rename_i r args len ht
      have ha := tr_ok hE hf hl ht
      obtain ⟨T1, h1, rfl⟩ := nOpAt_some h
      obtain ⟨v, A', hs, hw'⟩ := hw
      rw [hbase] at hs
      obtain ⟨⟨p, hp⟩, hX⟩ := ha _ v A' hs
      simp only [putK] at h1
      split at h1
      · rename_i sf1 hsf
        have hg : X.good (σ ++ [v]) (.sl (.n σ.length) len) := ⟨vn_ok (by simp), ⟨p, by rw [← hp]; exact look_new σ v⟩⟩
        obtain ⟨fr', p1, p2, p3⟩ := put_ok (hf.append [v]) hg hsf
        have hd : X.den (σ ++ [v]) (.sl (.n σ.length) len) = slV v len := by
          show slV (look _ _) len = _
          rw [look_new]
        rw [hd] at p1
        exact ⟨slV v len, A', fr', [v], sf1, _, T1, hX, p1, p2, p3, ent _ _, by simpa using h1, hw'⟩
      · cases h1
    · cases h
  · cases h

theorem draw_ok (hE : SxEnv E) (hR : RecOk E rec_) {ops : Array Oper} {befs : List Nat} {b base : Nat} {k : K} : ∀ {os : List (Oper × Nat)} {i : Nat} {σ : Sg} {H : List St} {sf : SF} {fr : Fr} {A : St} {slog : List SEnt} {log : List Ent} {sHs : List (Nat × Nat)} {Hs : List (Nat × St)} {ks : List Nat} {T : N},
    b < σ.length → look σ b = goInt base → FrRel σ sf fr → LogRel E σ slog log → HsRel H sHs Hs → sxDraw E cfg rec_ nt ops befs b os i sf σ.length H.length slog sHs ks k = some T → wp E T σ H A Q →
    ∃ n fr' A', doDraw E (big E n) nt ops befs os i (base + i) fr A log Hs ks = some (fr', A') ∧ fr'.marks = fr.marks ∧ KGood E Q σ H k fr' A'
  | [], i, σ, H, sf, fr, A, slog, log, sHs, Hs, ks, T, hb, hbase, hf, hlog, hHs, h, hw => by
    simp only [sxDraw] at h
    obtain ⟨c1, T', c2, c3⟩ := chk_ok hHs (forall₂_reverse hlog) h hw
    refine ⟨0, fr, A, ?_, rfl, .here hf c2 c3⟩
    unfold doDraw
    rw [if_pos c1]
  | (o, bf) :: os, i, σ, H, sf, fr, A, slog, log, sHs, Hs, ks, T, hb, hbase, hf, hlog, hHs, h, hw => by
    have fin : ∀ {σ' : Sg} {H' : List St} {n : Nat} {fr1 fr' : Fr} {A' : St} {x : Option (Fr × St)}, fr1.marks = fr.marks → x = some (fr', A') → fr'.marks = fr1.marks → KGood E Q (σ ++ σ') (H ++ H') k fr' A' →
        (x = some (fr', A') → doDraw E (big E n) nt ops befs ((o, bf) :: os) i (base + i) fr A log Hs ks = some (fr', A')) →
        ∃ n fr' A', doDraw E (big E n) nt ops befs ((o, bf) :: os) i (base + i) fr A log Hs ks = some (fr', A') ∧ fr'.marks = fr.marks ∧ KGood E Q σ H k fr' A' :=
      fun h1 hx h2 hg hd => ⟨_, _, _, hd hx, h2.trans h1, hg.more⟩
    have no : ∀ {sf : SF} {T : N}, FrRel σ sf fr → guardOk ops o fr = false → putK nt sf o.dst (fun sf nv nh => sxDraw E cfg rec_ nt ops befs b os (i + 1) sf nv nh ({ kind := 0, r := none, x := vv undef, bef := bf } :: slog) sHs ks k) (vv undef) σ.length H.length = some T → wp E T σ H A Q →
        ∃ n fr' A', doDraw E (big E n) nt ops befs ((o, bf) :: os) i (base + i) fr A log Hs ks = some (fr', A') ∧ fr'.marks = fr.marks ∧ KGood E Q σ H k fr' A' := by
      intro sf T hf hg h hw
      simp only [putK] at h
      split at h
      · rename_i sf1 hs
        obtain ⟨fr1, p1, p2, p3⟩ := put_ok hf (vv_good σ undef) hs
        have p1' : Fr.put nt fr o.dst undef = some fr1 := p1
        obtain ⟨n, fr', A', e1, e2, e3⟩ := draw_ok hE hR hb hbase p3 (log := { o, fr, v := undef, kind := 0, bef := bf } :: log) (.cons { kind := rfl, bef := rfl, val := fun hk => (by cases hk), known := fun hk => (by cases hk), asked := fun hk => (by cases hk) } hlog) hHs h hw
        refine ⟨n, fr', A', ?_, e2.trans p2, e3⟩
        unfold doDraw
        rw [if_neg (by rw [hg]; decide), p1']
        exact e1
      · cases h
    have yes : ∀ {sf : SF} {T : N}, FrRel σ sf fr → guardOk ops o fr = true → (if isFloat E o then dFloat E nt o bf sf σ.length H.length fun sf nv nh e => sxDraw E cfg rec_ nt ops befs b os (i + 1) sf nv nh (e :: slog) sHs ks k
      else if isAlloc o then dAlloc E nt b i o bf sf σ.length H.length fun sf nv nh e => sxDraw E cfg rec_ nt ops befs b os (i + 1) sf nv nh (e :: slog) sHs ks k
      else sxOp E cfg rec_ nt o sf σ.length H.length fun sf nv nh => nSave (sxDraw E cfg rec_ nt ops befs b os (i + 1) sf nv (nh + 1) ({ kind := 2, r := none, x := vv undef, bef := bf } :: slog) ((i + 1, nh) :: sHs) (i :: ks) k)) = some T → wp E T σ H A Q →
        ∃ n fr' A', doDraw E (big E n) nt ops befs ((o, bf) :: os) i (base + i) fr A log Hs ks = some (fr', A') ∧ fr'.marks = fr.marks ∧ KGood E Q σ H k fr' A' := by
      intro sf T hf hg h hw
      split at h
      · rename_i hfl
        obtain ⟨v, fr1, τ, sf', se, T', d1, d2, d3, d4, d5, d6, d7⟩ := float_ok hE hfl hf h hw
        obtain ⟨n, fr', A', e1, e2, e3⟩ := draw_ok hE hR (Nat.lt_of_lt_of_le hb (by simp)) ((look_append σ τ hb).trans hbase) d4 (.cons d5 (hlog.append τ)) hHs d6 d7
        refine ⟨n, fr', A', ?_, e2.trans d3, KGood.more (I := []) (by simpa using e3)⟩
        unfold doDraw
        rw [if_pos hg, if_pos hfl, d1]
        simp only [d2]
        exact e1
      · rename_i hfl
        split at h
        · rename_i hal
          obtain ⟨v, A1, fr1, τ, sf', se, T', d1, d2, d3, d4, d5, d6, d7⟩ := alloc_ok hE hbase hf h hw
          obtain ⟨n, fr', A', e1, e2, e3⟩ := draw_ok hE hR (Nat.lt_of_lt_of_le hb (by simp)) ((look_append σ τ hb).trans hbase) d4 (.cons d5 (hlog.append τ)) hHs d6 d7
          refine ⟨n, fr', A', ?_, e2.trans d3, KGood.more (I := []) (by simpa using e3)⟩
          unfold doDraw
          rw [if_pos hg, if_neg hfl, if_pos hal, d1]
          simp only [d2]
          exact e1
        · rename_i hal
          obtain ⟨n, fr1, A1, d1, d2, ⟨σ', H', sf', T', g1, g2, g3⟩⟩ := op_ok hE hR hf h hw
          obtain ⟨T2, g4, rfl⟩ := nSave_some g2
          have g3' : wp E T2 (σ ++ σ') ((H ++ H') ++ [A1]) A1 Q := g3
          have hH2 : HsRel ((H ++ H') ++ [A1]) ((i + 1, (H ++ H').length) :: sHs) ((i + 1, A1) :: Hs) := .cons ⟨rfl, by simp⟩ ((hHs.append H').append [A1])
          have hL2 : LogRel E (σ ++ σ') ({ kind := 2, r := none, x := vv undef, bef := bf } :: slog) ({ o, fr, v := slotOf fr1 o.dst, kind := 2, bef := bf } :: log) :=
            .cons { kind := rfl, bef := rfl, val := fun hk => (by cases hk), known := fun hk => (by cases hk), asked := fun hk => (by cases hk) } (hlog.append σ')
          obtain ⟨m, fr', A', e1, e2, e3⟩ := draw_ok (H := (H ++ H') ++ [A1]) hE hR (Nat.lt_of_lt_of_le hb (by simp)) ((look_append σ σ' hb).trans hbase) g1 hL2 hH2 (by simpa [Nat.add_assoc] using g4) g3'
          refine ⟨max n m, fr', A', ?_, e2.trans d2, KGood.more (I := H' ++ [A1]) (by simpa using e3)⟩
          unfold doDraw
          rw [if_pos hg, if_neg hfl, if_neg hal, doOp_mono (big_mono E (Nat.le_max_left n m)) d1]
          exact doDraw_mono (big_mono E (Nat.le_max_right n m)) e1
    simp only [sxDraw] at h
    split at h
    · rename_i hg
      exact yes hf (guard_yes hf hg) h hw
    · rename_i hg
      exact no hf (guard_no hf hg) h hw
    · rename_i j hg
      obtain ⟨ta, tb, h1, h2, rfl⟩ := mkBr_some h
      obtain ⟨t, hj, hwt, hwf⟩ := hw
      have hj' : look σ j = .bool t := hj
      cases t with
      | true => exact yes (hf.learn hj') (guard_sym hf hg hj') h1 (hwt rfl)
      | false => exact no (hf.learn hj') (guard_sym hf hg hj') h2 (hwf rfl)
    · rename_i j hg
      obtain ⟨ta, tb, h1, h2, rfl⟩ := mkBr_some h
      obtain ⟨t, hj, hwt, hwf⟩ := hw
      have hj' : look σ j = .bool t := hj
      cases t with
      | true => exact no (hf.learn hj') (guard_sym hf hg hj') h1 (hwt rfl)
      | false => exact yes (hf.learn hj') (guard_sym hf hg hj') h2 (hwf rfl)
    · cases h

theorem region_ok (hE : SxEnv E) (hR : RecOk E rec_) {ops : Array Oper} {k : K} {σ : Sg} {H : List St} {sf : SF} {fr : Fr} {A : St} {T : N} (hf : FrRel σ sf fr) (h : sxDrawRegion E cfg rec_ nt ops sf σ.length H.length k = some T) (hw : wp E T σ H A Q) :
    ∃ n fr' A', drawRegion E (big E n) nt ops fr A = some (fr', A') ∧ fr'.marks = fr.marks ∧ KGood E Q σ H k fr' A' := by
  unfold sxDrawRegion at h
  split at h
  · rename_i hreg
    obtain ⟨T1, h1, rfl⟩ := nBump_some h
    obtain ⟨T2, h2, rfl⟩ := nSave_some h1
    have hw' : wp E T2 (σ ++ [goInt A.next]) (H ++ [{ A with next := A.next + ops.size }]) { A with next := A.next + ops.size } Q := hw
    obtain ⟨n, fr', A', e1, e2, e3⟩ := draw_ok (b := σ.length) (base := A.next) (σ := σ ++ [goInt A.next]) (H := H ++ [{ A with next := A.next + ops.size }]) (sHs := [(0, H.length)]) (Hs := [(0, { A with next := A.next + ops.size })]) (log := []) hE hR (by simp) (look_new σ _) (hf.append _) .nil (.cons ⟨rfl, by simp⟩ .nil) (by simpa using h2) hw'
    refine ⟨n, fr', A', ?_, e2, e3.more⟩
    unfold drawRegion
    rw [if_pos hreg]
    exact e1
  · cases h
end
end Go.AM.SX

namespace Go.AM.SX
open Go

theorem hasN_mem {l : List Nat} {n : Nat} : hasN l n = true ↔ n ∈ l := by
  unfold hasN
  rw [List.any_eq_true]
  constructor
  · rintro ⟨m, h1, h2⟩
    have : n = m := Nat.eq_of_beq_eq_true h2
    subst this
    exact h1
  · intro h
    exact ⟨n, h, Nat.beq_refl n⟩
theorem dedup_mem {n : Nat} : ∀ {l : List Nat}, n ∈ dedup l ↔ n ∈ l
  | [] => Iff.rfl
  | x :: l => by
    simp only [dedup]
    split
    · rename_i h
      rw [dedup_mem, List.mem_cons]
      constructor
      · exact .inr
      · rintro (rfl | h2)
        · exact dedup_mem.1 (hasN_mem.1 h)
        · exact h2
    · rw [List.mem_cons, List.mem_cons, dedup_mem]
theorem At.same_eq {a b : At} (h : a.same b = true) : a = b := by
  unfold At.same at h
  split at h
  · rw [Bool.and_eq_true, decide_eq_true_eq, decide_eq_true_eq] at h
    rw [h.1, h.2]
  · rw [decide_eq_true_eq] at h; rw [h]
  · rename_i x y
    rw [decide_eq_true_eq] at h
    obtain ⟨⟨x⟩⟩ := x
    obtain ⟨⟨y⟩⟩ := y
    have h' : x = y := h
    rw [h']
  · rfl
  · rfl
  · rw [Bool.and_eq_true, decide_eq_true_eq, decide_eq_true_eq] at h
    rw [h.1, h.2]
  · rw [Nat.eq_of_beq_eq_true h]
  · cases h
theorem sameL_eq : ∀ {l m : List At}, sameL l m = true → l = m
  | [], [], _ => rfl
  | [], _ :: _, h => by cases h
  | _ :: _, [], h => by cases h
  | a :: l, b :: m, h => by
    simp only [sameL, Bool.and_eq_true] at h
    rw [At.same_eq h.1, sameL_eq h.2]
theorem X.same_eq {a b : X} (h : a.same b = true) : a = b := by
  cases a <;> cases b <;> simp only [X.same, Bool.and_eq_true, Bool.false_eq_true] at h
  · rw [At.same_eq h]
  · rw [Nat.eq_of_beq_eq_true h.1, At.same_eq h.2]
  · rw [Nat.eq_of_beq_eq_true h.1, sameL_eq h.2]
  · rw [At.same_eq h.1, Nat.eq_of_beq_eq_true h.2]

theorem SF.get_append {sf tf : SF} {t : Nat} : (sf ++ tf).get t = match SF.get sf t with
    | some x => some x
    | none => SF.get tf t := by
  induction sf with
  | nil => rfl
  | cons p sf ih =>
    obtain ⟨s, x⟩ := p
    simp only [List.cons_append, SF.get]
    split
    · rfl
    · exact ih
theorem keptOf_get {M : List Nat} {t : Nat} {x : X} : ∀ {sf : SF} {seen : List Nat}, SF.get (keptOf M sf seen) t = some x → t ∉ seen ∧ t ∉ M ∧ SF.get sf t = some x
  | [], seen, h => by cases h
  | (s, y) :: sf, seen, h => by
    have drop : SF.get (keptOf M sf (s :: seen)) t = some x → t ∉ seen ∧ t ∉ M ∧ SF.get ((s, y) :: sf) t = some x := by
      intro h
      obtain ⟨h1, h2, h3⟩ := keptOf_get h
      rw [List.mem_cons, not_or] at h1
      refine ⟨h1.2, h2, ?_⟩
      simp only [SF.get]
      rw [if_neg]
      · exact h3
      · intro e; exact h1.1 (Nat.eq_of_beq_eq_true e).symm
    simp only [keptOf] at h
    split at h
    · exact drop h
    · rename_i hc
      split at h
      · rename_i hs
        simp only [SF.get] at h
        split at h
        · rename_i e
          cases h
          have : s = t := Nat.eq_of_beq_eq_true e
          subst this
          simp only [Bool.or_eq_true, not_or] at hc
          refine ⟨fun hm => hc.1 (hasN_mem.2 hm), fun hm => hc.2 (hasN_mem.2 hm), ?_⟩
          simp only [SF.get, e, if_true]
        · rename_i e
          obtain ⟨h1, h2, h3⟩ := keptOf_get h
          rw [List.mem_cons, not_or] at h1
          refine ⟨h1.2, h2, ?_⟩
          simp only [SF.get]
          rw [if_neg e]
          exact h3
      · exact drop h
theorem keptOk_get {sf : SF} {t : Nat} {x : X} : ∀ {kept : SF}, keptOk sf kept = true → SF.get kept t = some x → sf.get t = some x
  | [], _, h => by cases h
  | (s, y) :: kept, hk, h => by
    simp only [keptOk, Bool.and_eq_true] at hk
    simp only [SF.get] at h
    split at h
    · rename_i e
      cases h
      have : s = t := Nat.eq_of_beq_eq_true e
      subst this
      cases hs : sf.get s with
      | none => rw [hs] at hk; cases hk.1
      | some z => rw [hs] at hk; rw [X.same_eq hk.1]
    · exact keptOk_get hk.2 h
theorem getL_len {sf : SF} : ∀ {ts : List Nat} {xs : List X}, getL sf ts = some xs → xs.length = ts.length
  | [], xs, h => by cases h; rfl
  | t :: ts, xs, h => by
    simp only [getL] at h
    split at h
    · cases h; rename_i h2; simp [getL_len h2]
    · cases h
theorem getL_good {σ : Sg} {sf : SF} {fr : Fr} (hf : FrRel σ sf fr) : ∀ {ts : List Nat} {xs : List X}, getL sf ts = some xs → ∀ x, x ∈ xs → x.good σ
  | [], xs, h, x, hx => by cases h; simp at hx
  | t :: ts, xs, h, x, hx => by
    simp only [getL] at h
    split at h
    · rename_i y ys h1 h2
      cases h
      rcases List.mem_cons.1 hx with rfl | hx
      · exact (hf _ _ h1).1
      · exact getL_good hf h2 x hx
    · cases h

/-- A frame in which the slots of a list are variables, one behind the other. -/
theorem vars_ok {σ σ' : Sg} {sf : SF} {fr : Fr} (hf : FrRel σ' sf fr) : ∀ {ts : List Nat} {xs : List X} {nv : Nat}, getL sf ts = some xs → (∀ i, i < xs.length → look σ (nv + i) = (denL σ' xs).getD i undef) → nv + xs.length ≤ σ.length →
    ∀ {t : Nat} {x : X}, SF.get (varsFrom nv ts) t = some x → x.good σ ∧ fr.tm.get t = some (x.den σ)
  | [], xs, nv, h, hl, hlen, t, x, hg => by cases hg
  | s :: ts, xs, nv, h, hl, hlen, t, x, hg => by
    simp only [getL] at h
    split at h
    · rename_i y ys h1 h2
      cases h
      simp only [varsFrom, SF.get] at hg
      split at hg
      · rename_i e
        cases hg
        have : s = t := Nat.eq_of_beq_eq_true e
        subst this
        have h0 := hl 0 (by simp)
        simp only [denL, List.map_cons, Nat.add_zero, List.getD_cons_zero] at h0
        refine ⟨vn_good (by simp at hlen; omega), ?_⟩
        rw [(hf _ _ h1).2]
        show _ = some (look σ nv)
        rw [h0]
      · refine vars_ok hf h2 (nv := nv + 1) (fun i hi => ?_) (by simp at hlen; omega) hg
        have := hl (i + 1) (by simp; omega)
        simp only [denL, List.map_cons, List.getD_cons_succ] at this
        rw [show nv + 1 + i = nv + (i + 1) by omega]
        exact this
    · cases h
theorem denL_append_vals {σ : Sg} {vs : List Value} {i : Nat} : look (σ ++ vs) (σ.length + i) = vs.getD i undef := by
  rw [look_eq, List.getElem?_append_right (by omega)]
  simp [List.getD_eq_getElem?_getD]
end Go.AM.SX

namespace Go.AM.SX
open Go
section
variable {E : Env} {cfg : Cfg} {rec_ : SRec} {Q : Post} {nt : Nat}

/-- The frame at a loop's head: its varying slots, and those that stay. -/
def LFr (σ : Sg) (V : List Nat) (kept : SF) (fr : Fr) (vs : List Value) : Prop :=
  (∃ σ' sf' xs, FrRel σ' sf' fr ∧ getL sf' V = some xs ∧ denL σ' xs = vs) ∧ FrRel σ kept fr
theorem LFr.frame {σ : Sg} {V : List Nat} {kept : SF} {fr : Fr} {vs : List Value} (h : LFr σ V kept fr vs) (u : List Value) : FrRel (σ ++ (u ++ vs)) (varsFrom (σ.length + u.length) V ++ kept) fr := by
  obtain ⟨⟨σ', sf', xs, h1, h2, rfl⟩, hk⟩ := h
  have hlen : xs.length = V.length := getL_len h2
  intro t x hx
  rw [SF.get_append] at hx
  split at hx
  · rename_i y hy
    cases hx
    refine vars_ok h1 h2 (fun i hi => ?_) (by simp [denL, Nat.add_assoc]) hy
    rw [← List.append_assoc]
    have := denL_append_vals (σ := σ ++ u) (vs := denL σ' xs) (i := i)
    rw [List.length_append] at this
    exact this
  · exact hk.append _ t x hx
theorem LFr.len {σ : Sg} {V : List Nat} {kept : SF} {fr : Fr} {vs : List Value} (h : LFr σ V kept fr vs) : vs.length = V.length := by
  obtain ⟨⟨σ', sf', xs, h1, h2, rfl⟩, hk⟩ := h
  simp [denL, getL_len h2]

theorem swK_ok {nv : Nat} {kf : Nat → Option N} {σ : Sg} {H : List St} {A : St} : ∀ {os : List Nat} {T : N}, swK nv kf os = some T → wp E T σ H A Q → ∃ T', kf (natV (look σ nv)) = some T' ∧ wp E T' σ H A Q
  | [], T, h, hw => by cases h; exact hw.elim
  | o :: os, T, h, hw => by
    simp only [swK] at h
    split at h
    · rename_i a b h1 h2
      cases h
      by_cases hc : natV (look σ nv) = o
      · exact ⟨a, by rw [hc]; exact h1, hw.1 hc⟩
      · exact swK_ok h2 (hw.2 hc)
    · cases h

theorem code_of {n nt : Nat} {c : Code} {fr : Fr} {A : St} : (big E (n + 1)).code nt c fr A = codeB E (big E n) nt c fr A := rfl

theorem loop_ok (hR : RecOk E rec_) {f : Nat} {b : Code} {sf : SF} {fr : Fr} {σ : Sg} {H : List St} {A : St} {T : N} {k : KO} (hf : FrRel σ sf fr) (h : sxLoop rec_ f nt b sf σ.length H.length k = some T) (hw : wp E T σ H A Q) :
    ∃ n o fr' A', (big E n).code nt (.loop b) fr A = some (outN o, fr', A') ∧ fr'.marks = fr.marks ∧ KGood E Q σ H (k o) fr' A' := by
  simp only [sxLoop] at h
  split at h
  · cases h
  rename_i ins hins
  split at h
  · cases h
  rename_i body hbody
  split at h
  · rename_i kk hkk
    cases h
    generalize hV : (dedup (dsts b)).filter (fun t => (SF.get sf t).isSome) = V at *
    generalize hkept : keptOf (dsts b) sf [] = kept at *
    have hk0 : FrRel σ kept fr := by
      intro t x hx
      rw [← hkept] at hx
      exact hf t x (keptOf_get hx).2.2
    obtain ⟨n, hn⟩ := hw
    have key : ∀ (n : Nat) (vs : List Value) (fr1 : Fr) (A1 : St), LFr σ V kept fr1 vs →
        LoopN (fun vs A Q' => wp E body (σ ++ vs) H A Q') (fun o outs A' => wp E kk (σ ++ goInt o :: outs) H A' Q) n vs A1 →
        ∃ m o fr' A', (big E m).code nt (.loop b) fr1 A1 = some (outN o, fr', A') ∧ fr'.marks = fr1.marks ∧ ∃ outs, LFr σ V kept fr' outs ∧ wp E kk (σ ++ goInt o :: outs) H A' Q := by
      intro n
      induction n with
      | zero => intro vs fr1 A1 _ h; exact h.elim
      | succ n ih =>
        intro vs fr1 A1 hl h
        have hfr := hl.frame []
        simp only [List.nil_append, List.length_nil, Nat.add_zero] at hfr
        have hb2 : rec_.code f nt b (varsFrom σ.length V ++ kept) (σ ++ vs).length H.length (fun o sf' _ _ => if keptOk sf' kept then match getL sf' V with
            | some outs => some (.fin o outs)
            | none => none
            else none) = some body := by
          rw [List.length_append, hl.len]
          exact hbody
        obtain ⟨m, o, fr2, A2, c1, c2, ⟨σ1, H1, sf2, T2, g1, g2, g3⟩⟩ := hR.code hfr hb2 h
        simp only at g2
        split at g2
        · rename_i hko
          split at g2
          · rename_i outs houts
            cases g2
            have hkept2 : FrRel σ kept fr2 := by
              intro t x hx
              have h0 := (hk0 t x hx).1
              refine ⟨h0, ?_⟩
              have h2 := (g1 t x (keptOk_get hko hx)).2
              rw [h2, List.append_assoc, X.den_append _ h0.1]
            have hl2 : LFr σ V kept fr2 (denL (σ ++ vs ++ σ1) outs) := ⟨⟨_, sf2, outs, g1, houts, rfl⟩, hkept2⟩
            cases o with
            | zero =>
              obtain ⟨m2, o2, fr3, A3, d1, d2, d3⟩ := ih _ fr2 A2 hl2 g3
              refine ⟨max m m2 + 1, o2, fr3, A3, ?_, d2.trans c2, d3⟩
              rw [code_of]
              simp only [codeB]
              rw [(big_mono E (Nat.le_max_left m m2)).1 _ _ _ _ _ c1]
              exact (big_mono E (Nat.le_max_right m m2)).1 _ _ _ _ _ d1
            | succ o =>
              refine ⟨m + 1, o + 1, fr2, A2, ?_, c2, _, hl2, g3⟩
              rw [code_of]
              simp only [codeB]
              rw [c1]
              cases o <;> rfl
          · cases g2
        · cases g2
    obtain ⟨m, o, fr', A', e1, e2, outs, e3, e4⟩ := key n _ fr A ⟨⟨σ, sf, ins, hf, hins, rfl⟩, hk0⟩ hn
    refine ⟨m, o, fr', A', e1, e2, ?_⟩
    obtain ⟨T', t1, t2⟩ := swK_ok hkk e4
    have hlook : natV (look (σ ++ goInt o :: outs) σ.length) = o := by rw [look_at]; rfl
    rw [hlook] at t1
    refine ⟨goInt o :: outs, [], _, T', e3.frame [goInt o], ?_, by simpa using t2⟩
    have hlen := e3.len
    simp only [List.append_nil, List.length_append, List.length_cons]
    rw [show σ.length + (outs.length + 1) = σ.length + 1 + V.length by omega]
    exact t1
  · cases h

theorem seq_ok (hR : RecOk E rec_) {f : Nat} {a b : Code} {sf : SF} {fr : Fr} {σ : Sg} {H : List St} {A : St} {T : N} {k : KO} (hf : FrRel σ sf fr)
    (h : rec_.code f nt a sf σ.length H.length (seqK (fun sf nv nh => rec_.code f nt b sf nv nh k) k) = some T) (hw : wp E T σ H A Q) :
    ∃ n o fr' A', (match (big E n).code nt a fr A with
      | some (.norm, fr1, A1) => (big E n).code nt b fr1 A1
      | r => r) = some (outN o, fr', A') ∧ fr'.marks = fr.marks ∧ KGood E Q σ H (k o) fr' A' := by
  obtain ⟨n, o, fr1, A1, c1, c2, ⟨σ1, H1, sf1, T1, g1, g2, g3⟩⟩ := hR.code hf h hw
  cases o with
  | zero =>
    obtain ⟨m, o2, fr2, A2, d1, d2, d3⟩ := hR.code g1 g2 g3
    refine ⟨max n m, o2, fr2, A2, ?_, d2.trans c2, d3.more⟩
    rw [(big_mono E (Nat.le_max_left n m)).1 _ _ _ _ _ c1]
    exact (big_mono E (Nat.le_max_right n m)).1 _ _ _ _ _ d1
  | succ o =>
    refine ⟨n, o + 1, fr1, A1, ?_, c2, ⟨σ1, H1, sf1, T1, g1, g2, g3⟩⟩
    rw [c1]
    cases o <;> rfl

theorem code_ok (hE : SxEnv E) (hR : RecOk E rec_) {f : Nat} {c : Code} {sf : SF} {fr : Fr} {σ : Sg} {H : List St} {A : St} {T : N} {k : KO} (hf : FrRel σ sf fr) (h : sxCode E cfg rec_ f nt c sf σ.length H.length k = some T) (hw : wp E T σ H A Q) :
    ∃ n o fr' A', (big E n).code nt c fr A = some (outN o, fr', A') ∧ fr'.marks = fr.marks ∧ KGood E Q σ H (k o) fr' A' := by
  cases c <;> simp only [sxCode] at h <;> first
    | (exfalso; cases h; done)
    | skip
  case skip => exact ⟨1, 0, fr, A, rfl, rfl, .here hf h hw⟩
  case label l => exact ⟨1, 0, fr, A, rfl, rfl, .here hf h hw⟩
  case ret => exact ⟨1, 1, fr, A, rfl, rfl, .here hf h hw⟩
  case exit id => exact ⟨1, id + 2, fr, A, rfl, rfl, .here hf h hw⟩
  case scope b =>
    obtain ⟨n, o, fr', A', c1, c2, c3⟩ := hR.code hf h hw
    exact ⟨n + 1, o, fr', A', c1, c2, c3⟩
  case seq a b =>
    obtain ⟨n, o, fr', A', c1, c2, c3⟩ := seq_ok hR hf h hw
    exact ⟨n + 1, o, fr', A', by rw [code_of]; simp only [codeB]; exact c1, c2, c3⟩
  case region i ops draw =>
    cases draw with
    | true =>
      simp only [if_true] at h
      obtain ⟨n, fr', A', c1, c2, c3⟩ := region_ok hE hR hf h hw
      exact ⟨n + 1, 0, fr', A', by rw [code_of]; simp only [codeB, if_true]; rw [c1]; rfl, c2, c3⟩
    | false =>
      simp only [Bool.false_eq_true, if_false] at h
      obtain ⟨n, fr', A', c1, c2, c3⟩ := ops_ok hE hR hf h hw
      exact ⟨n + 1, 0, fr', A', by rw [code_of]; simp only [codeB, Bool.false_eq_true, if_false]; rw [c1]; rfl, c2, c3⟩
  case cond c t e =>
    split at h
    · rename_i hc
      obtain ⟨_, hv⟩ := evalS_ok hf hc
      obtain ⟨n, o, fr', A', c1, c2, c3⟩ := hR.code hf h hw
      exact ⟨n + 1, o, fr', A', by rw [code_of]; simp only [codeB, hv, X.den, At.den]; exact c1, c2, c3⟩
    · rename_i hc
      obtain ⟨_, hv⟩ := evalS_ok hf hc
      obtain ⟨n, o, fr', A', c1, c2, c3⟩ := hR.code hf h hw
      exact ⟨n + 1, o, fr', A', by rw [code_of]; simp only [codeB, hv, X.den, At.den]; exact c1, c2, c3⟩
    · rename_i j hc
      obtain ⟨_, hv⟩ := evalS_ok hf hc
      obtain ⟨ta, tb, h1, h2, rfl⟩ := mkBr_some h
      obtain ⟨tt, hj, hwt, hwf⟩ := hw
      have hj' : look σ j = .bool tt := hj
      have hv' : evalO fr c = .bool tt := hv.trans hj'
      cases tt with
      | true =>
        obtain ⟨n, o, fr', A', c1, c2, c3⟩ := hR.code (hf.learn hj') h1 (hwt rfl)
        exact ⟨n + 1, o, fr', A', by rw [code_of]; simp only [codeB, hv']; exact c1, c2, c3⟩
      | false =>
        obtain ⟨n, o, fr', A', c1, c2, c3⟩ := hR.code (hf.learn hj') h2 (hwf rfl)
        exact ⟨n + 1, o, fr', A', by rw [code_of]; simp only [codeB, hv']; exact c1, c2, c3⟩
    · cases h
  case block id b =>
    obtain ⟨n, o, fr', A', c1, c2, c3⟩ := hR.code hf h hw
    refine ⟨n + 1, if Nat.beq o (id + 2) then 0 else o, fr', A', ?_, c2, c3⟩
    rw [code_of]
    simp only [codeB]
    rw [c1]
    rcases o with _ | _ | o
    · rfl
    · rfl
    · simp only [outN]
      by_cases e : o = id
      · subst e; simp
      · have : Nat.beq (o + 2) (id + 2) = false := by
          cases hb : Nat.beq (o + 2) (id + 2) with
          | false => rfl
          | true => have := Nat.eq_of_beq_eq_true hb; omega
        rw [this]
        simp [e]
  case loop b =>
    split at h
    · obtain ⟨n, o, fr', A', c1, c2, c3⟩ := seq_ok hR hf h hw
      exact ⟨n + 1, o, fr', A', by rw [code_of]; simp only [codeB]; exact c1, c2, c3⟩
    · exact loop_ok hR hf h hw

theorem args_ok {σ : Sg} : ∀ {args : List X} {i : Nat} {tm : T Value}, (∀ x, x ∈ args → X.good σ x) → (∀ j, j < args.length → tm.get (i + j) = (denL σ args)[j]?) →
    ∀ {t : Nat} {x : X}, SF.get (argsSF i args) t = some x → x.good σ ∧ tm.get t = some (x.den σ)
  | [], i, tm, hg, ht, t, x, h => by cases h
  | y :: args, i, tm, hg, ht, t, x, h => by
    simp only [argsSF, SF.get] at h
    split at h
    · rename_i e
      cases h
      have : i = t := Nat.eq_of_beq_eq_true e
      subst this
      have := ht 0 (by simp)
      simp only [Nat.add_zero, denL, List.map_cons, List.getElem?_cons_zero] at this
      exact ⟨hg _ (List.mem_cons_self ..), this⟩
    · refine args_ok (i := i + 1) (fun x hx => hg x (List.mem_cons_of_mem _ hx)) (fun j hj => ?_) h
      have := ht (j + 1) (by simp; omega)
      rw [show i + 1 + j = i + (j + 1) by omega, this]
      simp [denL]

theorem res_ok (hE : SxEnv E) {sf : SF} {fr : Fr} {A : St} : ∀ {rs : List ResultVar} {σ : Sg} {H : List St} {T : N} {k : List X → Nat → Nat → Option N}, FrRel σ sf fr → sxRes E sf rs σ.length H.length k = some T → wp E T σ H A Q →
    ∃ vs τ xs T', rs.mapM (fun r => match r with
      | .tmp t => some ((fr.tm.get t).getD undef)
      | .cell a t => match (fr.tm.get a).getD undef with
        | .pointer (some ad) => loadV E A t ad
        | _ => none) = some vs ∧ (∀ x, x ∈ xs → X.good (σ ++ τ) x) ∧ denL (σ ++ τ) xs = vs ∧ k xs (σ ++ τ).length H.length = some T' ∧ wp E T' (σ ++ τ) H A Q
  | [], σ, H, T, k, hf, h, hw => ⟨[], [], [], T, rfl, fun x hx => by simp at hx, rfl, by simpa [sxRes] using h, by simpa using hw⟩
  | r :: rs, σ, H, T, k, hf, h, hw => by
    cases r with
    | tmp t =>
      simp only [sxRes] at h
      split at h
      · rename_i x hx
        obtain ⟨x1, x2⟩ := hf t x hx
        obtain ⟨vs, τ, xs, T', r1, r2, r3, r4, r5⟩ := res_ok hE hf h hw
        refine ⟨x.den σ :: vs, τ, x :: xs, T', ?_, fun y hy => ?_, ?_, r4, r5⟩
        · simp only [List.mapM_cons, x2, Option.getD_some]
          rw [r1]
          rfl
        · rcases List.mem_cons.1 hy with rfl | hy
          · exact x1.append τ
          · exact r2 y hy
        · simp only [denL, List.map_cons] at r3 ⊢
          rw [r3, X.den_append τ x1.1]
      · cases h
    | cell a t =>
      have go : ∀ {r : R} {x : X}, sf.get a = some x → nOp r [x] (sxRes E sf rs (σ.length + 1) H.length fun xs nv' nh => k (vn σ.length :: xs) nv' nh) = some T →
          (∀ v A', semR r [x.den σ] A = some (v, A') → A' = A ∧ ∃ ad, x.den σ = .pointer (some ad) ∧ loadV E A t ad = some v) →
          ∃ vs τ xs T', (ResultVar.cell a t :: rs).mapM (fun r => match r with
            | .tmp t => some ((fr.tm.get t).getD undef)
            | .cell a t => match (fr.tm.get a).getD undef with
              | .pointer (some ad) => loadV E A t ad
              | _ => none) = some vs ∧ (∀ x, x ∈ xs → X.good (σ ++ τ) x) ∧ denL (σ ++ τ) xs = vs ∧ k xs (σ ++ τ).length H.length = some T' ∧ wp E T' (σ ++ τ) H A Q := by
        intro r x hx h hsem
        obtain ⟨T1, h1, rfl⟩ := nOp_some h
        obtain ⟨v, A', hs, hw'⟩ := hw
        obtain ⟨rfl, ad, hd, hld⟩ := hsem v A' hs
        obtain ⟨x1, x2⟩ := hf a x hx
        obtain ⟨vs, τ, xs, T', r1, r2, r3, r4, r5⟩ := res_ok hE (hf.append [v]) (by simpa using h1) hw'
        refine ⟨v :: vs, v :: τ, vn σ.length :: xs, T', ?_, fun y hy => ?_, ?_, ?_, ?_⟩
        · simp only [List.mapM_cons, x2, Option.getD_some, hd, hld]
          rw [r1]
          rfl
        · rcases List.mem_cons.1 hy with rfl | hy
          · exact vn_good (by simp)
          · have := r2 y hy
            rw [List.append_assoc] at this
            exact this
        · rw [List.append_assoc] at r3
          simp only [denL, List.map_cons] at r3 ⊢
          have r3' : List.map (fun x => X.den (σ ++ v :: τ) x) xs = vs := r3
          rw [r3']
          show look (σ ++ v :: τ) σ.length :: vs = _
          rw [look_at]
        · rw [List.append_assoc] at r4; exact r4
        · rw [List.append_assoc] at r5; exact r5
      simp only [sxRes] at h
      split at h
      · rename_i x n hx ha hn
        refine go hx h fun v A' hs => ?_
        cases hd : x.den σ <;> rw [hd] at hs <;> first
          | (simp only [semR] at hs; cases hs; done)
          | skip
        rename_i p
        cases p with
        | none => simp only [semR] at hs; cases hs
        | some ad =>
          simp only [semR] at hs
          split at hs
          · rename_i vs hvs
            cases hs
            refine ⟨rfl, ad, rfl, ?_⟩
            simp only [loadV, ha, hn, hvs]
          · cases hs
      · rename_i x hx ha
        refine go hx h fun v A' hs => ?_
        cases hd : x.den σ <;> rw [hd] at hs <;> first
          | (simp only [semR] at hs; cases hs; done)
          | skip
        rename_i p
        cases p with
        | none => simp only [semR] at hs; cases hs
        | some ad =>
          simp only [semR] at hs
          split at hs
          · rename_i w hvs
            cases hs
            refine ⟨rfl, ad, rfl, ?_⟩
            simp only [loadV, ha, hvs]
          · cases hs
      · cases h

theorem sxcall_ok (hE : SxEnv E) (hR : RecOk E rec_) {f : Nat} {args : List X} {σ : Sg} {H : List St} {A : St} {T : N} {k : KX} (hg : ∀ x, x ∈ args → X.good σ x) (h : sxCall E rec_ f args σ.length H.length k = some T) (hw : wp E T σ H A Q) :
    ∃ n v A', (big E n).call f (denL σ args) A = some (v, A') ∧ XGood E Q σ H k v A' := by
  unfold sxCall at h
  split at h
  · cases h
  rename_i hkn
  split at h
  · cases h
  rename_i fn hfn
  split at h
  · cases h
  rename_i c hc
  split at h
  · rename_i hlen
    have hf : FrRel σ (argsSF 0 args) { tm := _root_.Go.AM.T.ofList (denL σ args), marks := [] } := by
      intro t x hx
      refine args_ok hg (fun j hj => ?_) hx
      rw [Nat.zero_add]
      exact _root_.Go.AM.T.get_ofList _ _
    obtain ⟨n, o, fr1, A1, c1, c2, ⟨σ1, H1, sf1, T1, g1, g2, g3⟩⟩ := hR.code hf h hw
    have hm : fr1.marks = [] := c2
    have fin : ∀ {o : Out}, (o = .norm ∨ o = .ret) → (big E n).code fn.ntmps c { tm := _root_.Go.AM.T.ofList (denL σ args), marks := [] } A = some (o, fr1, A1) → sxRes E sf1 fn.results.toList (σ ++ σ1).length (H ++ H1).length (resK k) = some T1 →
        ∃ n v A', (big E n).call f (denL σ args) A = some (v, A') ∧ XGood E Q σ H k v A' := by
      intro o ho c1 g2
      obtain ⟨vs, τ, xs, T2, r1, r2, r3, r4, r5⟩ := res_ok hE g1 g2 g3
      have hcall : ∀ v, (match vs with | [v] => some v | vs => some (.tuple vs.toArray) : Option Value) = some v → (big E (n + 1)).call f (denL σ args) A = some (v, A1) := by
        intro v hv
        show callB E (big E n) f (denL σ args) A = _
        unfold callB
        rw [knownAt_none (by simpa using hkn)]
        simp only
        unfold callC
        rw [hfn]
        simp only [hc]
        rw [if_pos (by simpa [denL] using hlen), c1]
        have hres : resultsOf E fn fr1 A1 = some v := by
          refine Eq.trans (b := (fun z : Option (List Value) => match z with
            | some [v] => some v
            | some vs => some (Value.tuple vs.toArray)
            | none => none) (some vs)) (congrArg (fun z : Option (List Value) => match z with
            | some [v] => some v
            | some vs => some (Value.tuple vs.toArray)
            | none => none) r1) ?_
          match vs, hv with
          | [], hv => exact hv
          | [_], hv => exact hv
          | _ :: _ :: _, hv => exact hv
        rcases ho with rfl | rfl <;> simp only [hm, takeMarks, hres]
      match xs, r2, r3, r4 with
      | [x], r2, r3, r4 =>
        have hv : vs = [x.den (σ ++ σ1 ++ τ)] := r3.symm
        refine ⟨n + 1, x.den (σ ++ σ1 ++ τ), A1, hcall _ (by rw [hv]), ?_⟩
        refine ⟨σ1 ++ τ, H1, x, T2, ?_, ?_, ?_, ?_⟩
        · rw [← List.append_assoc]; exact r2 x (List.mem_singleton.2 rfl)
        · rw [← List.append_assoc]
        · rw [← List.append_assoc]; exact r4
        · rw [← List.append_assoc]; exact r5
      | [], r2, r3, r4 =>
        have hv : vs = [] := r3.symm
        obtain ⟨T3, h3, rfl⟩ := nOp_some r4
        obtain ⟨w, A2, hs, hw'⟩ := r5
        simp only [denL, List.map_nil, semR, Option.some.injEq, Prod.mk.injEq] at hs
        obtain ⟨rfl, rfl⟩ := hs
        refine ⟨n + 1, _, A1, hcall _ (by rw [hv]), ?_⟩
        have := XGood.one (vn_new (σ ++ σ1 ++ τ) _).1 (vn_new _ _).2 h3 hw'
        rw [List.append_assoc] at this
        exact XGood.more this
      | x :: y :: xs, r2, r3, r4 =>
        obtain ⟨T3, h3, rfl⟩ := nOp_some r4
        obtain ⟨w, A2, hs, hw'⟩ := r5
        simp only [semR, Option.some.injEq, Prod.mk.injEq] at hs
        obtain ⟨rfl, rfl⟩ := hs
        rw [r3] at hw'
        refine ⟨n + 1, .tuple vs.toArray, A1, hcall _ (by rw [← r3]; rfl), ?_⟩
        have := XGood.one (vn_new (σ ++ σ1 ++ τ) _).1 (vn_new _ _).2 h3 hw'
        rw [List.append_assoc] at this
        exact XGood.more this
    match o, c1, g2 with
    | 0, c1, g2 => exact fin (.inl rfl) c1 g2
    | 1, c1, g2 => exact fin (.inr rfl) c1 g2
    | _ + 2, c1, g2 => cases g2
  · cases h

theorem sx_ok (hE : SxEnv E) (cfg : Cfg) : ∀ n, RecOk E (sx E cfg n)
  | 0 => { code := fun _ h _ => (by cases h), call := fun _ h _ => (by cases h) }
  | n + 1 => { code := fun hf h hw => code_ok hE (sx_ok hE cfg n) hf h hw, call := fun hg h hw => sxcall_ok hE (sx_ok hE cfg n) hg h hw }

theorem varsUpto_mem {x : X} : ∀ {i n : Nat}, x ∈ varsUpto i n → ∃ k, k < i + n ∧ x = vn k
  | i, 0, h => by simp [varsUpto] at h
  | i, n + 1, h => by
    simp only [varsUpto, List.mem_cons] at h
    rcases h with rfl | h
    · exact ⟨i, by omega, rfl⟩
    · obtain ⟨k, h1, h2⟩ := varsUpto_mem h
      exact ⟨k, by omega, h2⟩
theorem varsUpto_den {σ : Sg} : ∀ {τ : Sg} {i : Nat}, (∀ j, j < τ.length → look σ (i + j) = look τ j) → denL σ (varsUpto i τ.length) = τ
  | [], i, h => rfl
  | v :: τ, i, h => by
    simp only [List.length_cons, varsUpto, denL, List.map_cons]
    have h0 := h 0 (by simp)
    have ih := varsUpto_den (σ := σ) (τ := τ) (i := i + 1) (fun j hj => by
      have := h (j + 1) (by simp; omega)
      rw [show i + 1 + j = i + (j + 1) by omega, this]
      rfl)
    simp only [denL] at ih
    rw [ih]
    show look σ i :: τ = _
    rw [show look σ i = v from h0]

/-- A function's tree says how it runs. -/
theorem fn_ok (hE : SxEnv E) {cfg : Cfg} {fuel f : Nat} {vs : List Value} {T : N} (h : sxFn E cfg fuel f vs.length = some T) {A : St} {Q : Value → St → Prop} (hw : wp E T vs [] A fun _ outs A' => ∀ v, outs = [v] → Q v A') :
    ∃ v A', Runs E f vs A v A' ∧ Q v A' := by
  obtain ⟨n, v, A', h1, ⟨σ', H', x, T', h2, h3, h4, h5⟩⟩ := (sx_ok hE cfg fuel).call (σ := vs) (H := []) (fun x hx => by
    obtain ⟨k, hk, rfl⟩ := varsUpto_mem hx
    exact vn_good (by simpa using hk)) h hw
  cases h4
  have hv := varsUpto_den (σ := vs) (τ := vs) (i := 0) (fun j _ => by rw [Nat.zero_add])
  rw [hv] at h1
  exact ⟨v, A', ⟨n, h1⟩, h5 v (by rw [← h3]; rfl)⟩
end
end Go.AM.SX

namespace Go.AM.SX
open Go

/-- From the look at a program to what the symbolic evaluator asks. -/
theorem SxEnv.of {E : Env} {P : Program} {nm : Nm} (ok : EnvOk E P nm) (hsl : E.sl = []) : SxEnv E where
  sl := hsl
  und := fun t d h => by rw [ok.prog]; exact ok.und h

theorem ex_some {x : Value} {A : St} {P : Value → St → Prop} : (∃ v A', some (x, A) = some (v, A') ∧ P v A') ↔ P x A := by
  constructor
  · rintro ⟨v, A', h, hp⟩; cases h; exact hp
  · intro h; exact ⟨x, A, rfl, h⟩
theorem ex_bool {b : Bool} {P Q : Prop} : (∃ t, Value.bool b = Value.bool t ∧ (t = true → P) ∧ (t = false → Q)) ↔ (b = true → P) ∧ (b = false → Q) := by
  constructor
  · rintro ⟨t, h, hp⟩; cases h; exact hp
  · intro h; exact ⟨b, rfl, h⟩

/-- What lies at an address can be read. -/
def Rd (A : St) (p : Addr) (l : List Value) : Prop := ∃ r, A.h.get p.block = some (.row r) ∧ p.off + l.length ≤ r.size ∧ ∀ i, i < l.length → r.cells.get (p.off + i) = l[i]?
theorem Rd.next {A : St} {p : Addr} {l : List Value} (h : Rd A p l) (n : Nat) : Rd { A with next := n } p l := h
theorem Rd.load {A : St} {p : Addr} {l : List Value} (h : Rd A p l) {i : Nat} {v : Value} (hi : l[i]? = some v) : A.loadN (addA p i) 1 = some [v] := by
  obtain ⟨r, h1, h2, h3⟩ := h
  have hlt := (List.getElem?_eq_some_iff.1 hi).1
  unfold St.loadN addA St.row?
  simp only [h1]
  rw [if_pos (by omega)]
  simp only [T.range]
  rw [h3 i hlt, hi]

theorem LoopN_succ {W : List Value → St → Post → Prop} {Q : Post} {n : Nat} {vs : List Value} {A : St} : LoopN W Q (n + 1) vs A = W vs A fun o outs A' => match o with
    | 0 => LoopN W Q n outs A'
    | o + 1 => Q (o + 1) outs A' := rfl
theorem wrapF_in {n : Int} (h0 : 0 ≤ n) (h1 : n ≤ 9223372036854775807) : wrapF .i64 n = n := by
  unfold wrapF
  rw [if_pos ⟨by simp only [lo]; omega, by simp only [hi]; omega⟩]
theorem veq_int (k : IntKind) (n : Int) : veq 40 (.int k n) (.int k n) = true := by simp [veq]
theorem veq_str (s : ByteArray) : veq 40 (.string s) (.string s) = true := by simp [veq]
theorem veq_bool (b : Bool) : veq 40 (.bool b) (.bool b) = true := by simp [veq]
theorem veq_ptr (a : Addr) : veq 40 (.pointer (some a)) (.pointer (some a)) = true := by simp [veq]
theorem veq_sl (a : Addr) (l c : Nat) : veq 40 (.slice (some a) l c) (.slice (some a) l c) = true := by simp [veq]

/-! ### Loops -/
theorem LoopN_mono {W : List Value → St → Post → Prop} (hW : ∀ vs A P R, (∀ o outs B, P o outs B → R o outs B) → W vs A P → W vs A R) {Q Q' : Post} (hQ : ∀ o outs B, Q o outs B → Q' o outs B) : ∀ (n : Nat) (vs : List Value) (A : St), LoopN W Q n vs A → LoopN W Q' n vs A
  | 0, _, _, h => h
  | n + 1, vs, A, h => hW vs A _ _ (fun o outs B hp => by
      cases o with
      | zero => exact LoopN_mono hW hQ n outs B hp
      | succ o => exact hQ _ _ _ hp) h
theorem wp_mono {E : Env} : ∀ (T : N) {σ : Sg} {H : List St} {A : St} {Q Q' : Post}, (∀ o outs B, Q o outs B → Q' o outs B) → wp E T σ H A Q → wp E T σ H A Q'
  | .bad, _, _, _, _, _, _, h => h
  | .fin o xs, _, _, _, _, _, hq, h => hq _ _ _ h
  | .op r xs k, _, _, _, _, _, hq, h => let ⟨v, A', h1, h2⟩ := h; ⟨v, A', h1, wp_mono k hq h2⟩
  | .opAt b off r xs k, _, _, _, _, _, hq, h => let ⟨v, A', h1, h2⟩ := h; ⟨v, A', h1, wp_mono k hq h2⟩
  | .br x a b, _, _, _, _, _, hq, h => let ⟨t, h1, h2, h3⟩ := h; ⟨t, h1, fun e => wp_mono a hq (h2 e), fun e => wp_mono b hq (h3 e)⟩
  | .call f xs k, _, _, _, _, _, hq, h => let ⟨v, A', h1, h2⟩ := h; ⟨v, A', h1, wp_mono k hq h2⟩
  | .callv f xs k, _, _, _, _, _, hq, h => let ⟨g, fs, cs, v, A', h1, h2, h3, h4⟩ := h; ⟨g, fs, cs, v, A', h1, h2, h3, wp_mono k hq h4⟩
  | .callm x name xs k, _, _, _, _, _, hq, h => let ⟨g, as, v, A', h1, h2, h3⟩ := h; ⟨g, as, v, A', h1, h2, wp_mono k hq h3⟩
  | .loop xs body k, σ, H, _, Q, Q', hq, h => by
    obtain ⟨n, h1⟩ := h
    exact ⟨n, LoopN_mono (W := fun vs A Q' => wp E body (σ ++ vs) H A Q') (Q := fun o outs A' => wp E k (σ ++ goInt o :: outs) H A' Q) (Q' := fun o outs A' => wp E k (σ ++ goInt o :: outs) H A' Q')
      (fun _ _ _ _ hp hw => wp_mono body hp hw) (fun _ _ _ hp => wp_mono k hq hp) n _ _ h1⟩
  | .sw x c a b, _, _, _, _, _, hq, h => ⟨fun e => wp_mono a hq (h.1 e), fun e => wp_mono b hq (h.2 e)⟩
  | .bump n k, _, _, _, _, _, hq, h => wp_mono k hq h
  | .save k, _, _, _, _, _, hq, h => wp_mono k hq h
  | .self x k, _, _, _, _, _, hq, h => ⟨h.1, wp_mono k hq h.2⟩
  | .chk i r xs x k, _, _, _, _, _, hq, h => ⟨h.1, wp_mono k hq h.2⟩
theorem LoopN_up {W : List Value → St → Post → Prop} (hW : ∀ vs A P R, (∀ o outs B, P o outs B → R o outs B) → W vs A P → W vs A R) {Q : Post} : ∀ (n m : Nat) (vs : List Value) (A : St), n ≤ m → LoopN W Q n vs A → LoopN W Q m vs A
  | 0, _, _, _, _, h => h.elim
  | n + 1, 0, _, _, hn, _ => by omega
  | n + 1, m + 1, vs, A, hn, h => hW vs A _ _ (fun o outs B hp => by
      cases o with
      | zero => exact LoopN_up hW n m outs B (Nat.le_of_succ_le_succ hn) hp
      | succ o => exact hp) h
/-- A loop, by what holds ahead of each round, and a number that falls. -/
theorem loop_rule {E : Env} {body : N} {σ : Sg} {H : List St} {Q : Post} (I : Nat → List Value → St → Prop)
    (step : ∀ κ vs A, I κ vs A → wp E body (σ ++ vs) H A fun o outs A' => match o with
      | 0 => ∃ j, j < κ ∧ I j outs A'
      | o + 1 => Q (o + 1) outs A') {κ : Nat} {vs : List Value} {A : St} (h : I κ vs A) :
    ∃ n, LoopN (fun vs A Q' => wp E body (σ ++ vs) H A Q') Q n vs A := by
  refine ⟨κ + 1, ?_⟩
  induction κ using Nat.strongRecOn generalizing vs A with
  | _ κ ih =>
    refine wp_mono body ?_ (step κ vs A h)
    intro o outs B hp
    cases o with
    | zero =>
      obtain ⟨j, hj, hI⟩ := hp
      exact LoopN_up (W := fun vs A Q' => wp E body (σ ++ vs) H A Q') (fun _ _ _ _ hp hw => wp_mono body hp hw) (j + 1) κ outs B hj (ih j hj hI)
    | succ o => exact hp

theorem idx1 {p : Addr} {n c i : Nat} {A : St} (h : i < n) : semR (.idxA 1) [.slice (some p) n c, goInt i] A = some (.pointer (some (addA p i)), A) := by
  show (if (0 : Int) ≤ i ∧ (i : Int) < n then some (Value.pointer (some (addA p ((i : Int).toNat * 1))), A) else none) = _
  rw [if_pos ⟨by omega, by omega⟩]
  simp
theorem load1 {p : Addr} {l : List Value} {i : Nat} {v : Value} {A : St} (h : Rd A p l) (hi : l[i]? = some v) : semR (.load none) [.pointer (some (addA p i))] A = some (v, A) := by
  show (match A.loadN (addA p i) 1 with
    | some [v] => some (v, A)
    | _ => none) = _
  rw [h.load hi]
theorem add_one {i : Nat} {A : St} (h : i < 1000000000) : semR (.bin .add) [goInt i, .int .i64 1] A = some (goInt (i + 1 : Nat), A) := by
  show (match (some (Value.int .i64 (wrapF .i64 ((i : Int) + 1))) : Option Value) with
    | some v => some (v, A)
    | none => none) = _
  rw [wrapF_in (by omega) (by omega)]
  rfl
theorem chk_of {H : List St} {i : Nat} {B A' : St} {r : R} {xs : List X} {σ : Sg} {x : X} {v : Value} (h1 : H[i]? = some B) (h2 : semR r (denL σ xs) B = some (v, A')) (h3 : x.den σ = v) (h4 : veq 40 v v = true) :
    ∃ B v A', H[i]? = some B ∧ semR r (denL σ xs) B = some (v, A') ∧ veq 40 v (x.den σ) = true := ⟨B, v, A', h1, h2, by rw [h3]; exact h4⟩
theorem self_of {σ : Sg} {x : X} {v : Value} (h3 : x.den σ = v) (h4 : veq 40 v v = true) : veq 40 (x.den σ) (x.den σ) = true := by rw [h3]; exact h4

/-! ### What stays, and what is one's own -/
/-- What was there is there. -/
def Keep (A B : St) : Prop := A.next ≤ B.next ∧ (∀ b, b < A.next → B.h.get b = A.h.get b) ∧ B.g = A.g
theorem Keep.refl (A : St) : Keep A A := ⟨Nat.le_refl _, fun _ _ => rfl, rfl⟩
theorem Keep.trans {A B C : St} (h : Keep A B) (k : Keep B C) : Keep A C :=
  ⟨Nat.le_trans h.1 k.1, fun b hb => (k.2.1 b (Nat.lt_of_lt_of_le hb h.1)).trans (h.2.1 b hb), k.2.2.trans h.2.2⟩
theorem Keep.of_h {A B : St} (h : B.h = A.h) (hn : A.next ≤ B.next) (hg : B.g = A.g) : Keep A B := ⟨hn, fun b _ => by rw [h], hg⟩
theorem keep_newRow (A : St) (t : TypeId) (z : List Value) : Keep A (A.newRow t z).2 :=
  ⟨Nat.le_succ _, fun b hb => T.get_set_other _ _ (by omega), rfl⟩
theorem Rd.keep {A B : St} {p : Addr} {l : List Value} (h : Rd A p l) (k : Keep A B) (hb : p.block < A.next) : Rd B p l := by
  obtain ⟨r, h1, h2⟩ := h
  exact ⟨r, (k.2.1 _ hb).trans h1, h2⟩

/-- A block of one's own, and what lies in it. -/
def Cell (A : St) (b : Nat) (l : List Value) : Prop := ∃ r, A.h.get b = some (.row r) ∧ r.own = true ∧ r.size = l.length ∧ r.frz = 0 ∧ (∀ i, i < l.length → r.cells.get i = l[i]?)
theorem cell_new (A : St) (t : TypeId) (z : List Value) : Cell (A.newRow t z).2 A.next z :=
  ⟨_, T.get_set_same _ _ _, rfl, rfl, rfl, fun _ _ => T.get_ofList _ _⟩
theorem Cell.keep {A B : St} {b : Nat} {l : List Value} (h : Cell A b l) (k : Keep A B) (hb : b < A.next) : Cell B b l := by
  obtain ⟨r, h1, h2⟩ := h
  exact ⟨r, (k.2.1 _ hb).trans h1, h2⟩
theorem range_of {α : Type} {t : T α} : ∀ {l : List α} {off : Nat}, (∀ i, i < l.length → t.get (off + i) = l[i]?) → t.range off l.length = some l
  | [], _, _ => rfl
  | x :: l, off, h => by
    have h0 := h 0 (by simp)
    simp only [Nat.add_zero, List.getElem?_cons_zero] at h0
    have ih := range_of (t := t) (l := l) (off := off + 1) (fun i hi => by
      have := h (i + 1) (by simp; omega)
      rw [show off + 1 + i = off + (i + 1) by omega, this]
      simp)
    simp only [List.length_cons, T.range, h0, ih]
theorem Cell.loadN {A : St} {b : Nat} {l : List Value} (h : Cell A b l) {n : Nat} (hn : l.length = n) : A.loadN ⟨b, 0, none⟩ n = some l := by
  subst hn
  obtain ⟨r, h1, _, h3, _, h5⟩ := h
  unfold St.loadN St.row?
  simp only [h1]
  rw [if_pos (by omega)]
  exact range_of (by simpa using h5)
theorem Cell.loadAt {A : St} {b : Nat} {l : List Value} (h : Cell A b l) {i : Nat} {v : Value} (hi : l[i]? = some v) : A.loadN ⟨b, 0 + i, none⟩ 1 = some [v] := by
  obtain ⟨r, h1, _, h3, _, h5⟩ := h
  have hlt := (List.getElem?_eq_some_iff.1 hi).1
  unfold St.loadN St.row?
  simp only [h1]
  rw [if_pos (by omega)]
  simp only [T.range, Nat.zero_add]
  rw [h5 i hlt, hi]
theorem Cell.storeN {A : St} {b : Nat} {l vs : List Value} (h : Cell A b l) (hg : A.g = T.nil) (hl : vs.length = l.length) (ho : vs.all one = true) :
    ∃ B, A.storeN ⟨b, 0, none⟩ vs = some B ∧ Cell B b vs ∧ B.next = A.next ∧ B.g = A.g ∧ ∀ c, c ≠ b → B.h.get c = A.h.get c := by
  obtain ⟨r, h1, h2, h3, h4, h5⟩ := h
  have hal : A.alone b r = A := by
    unfold St.alone
    rw [hg, nil_get]
  refine ⟨A.setObj b (.row { r with cells := r.cells.setL 0 vs }), ?_, ?_, rfl, rfl, fun c hc => T.get_set_other _ _ hc⟩
  · unfold St.storeN St.row?
    simp only [h1]
    rw [if_pos (by simp [h2, h3, h4, hl]; exact fun x hx => List.all_eq_true.1 ho x hx)]
    simp only [hal]
  · refine ⟨_, T.get_set_same _ _ _, h2, by rw [hl]; exact h3, h4, fun i hi => ?_⟩
    rw [T.get_setL, if_pos ⟨Nat.zero_le _, by omega⟩]
    simp
/-- A block of one's own that is written, with what was there ahead of it kept. -/
theorem store_cell {A : St} {b : Nat} {l : List Value} {v : Value} {n : Nat} (h : Cell A b l) (hg : A.g = T.nil) (hn : v.cells.size = n) (hl : l.length = n) (ho : v.cells.toList.all one = true) :
    ∃ B, semR (.store n) [.pointer (some ⟨b, 0, none⟩), v] A = some (undef, B) ∧ Cell B b v.cells.toList ∧ B.next = A.next ∧ B.g = A.g ∧ ∀ c, c ≠ b → B.h.get c = A.h.get c := by
  obtain ⟨B, h1, h2⟩ := h.storeN hg (vs := v.cells.toList) (by simp [hn, hl]) ho
  refine ⟨B, ?_, h2⟩
  show (if v.cells.size == n then match A.storeN ⟨b, 0, none⟩ v.cells.toList with
      | some A' => some (undef, A')
      | none => none
    else none) = _
  rw [if_pos (by simp [hn]), h1]
theorem load_agg {A : St} {b : Nat} {l : List Value} {n : Nat} (h : Cell A b l) (hn : l.length = n) : semR (.load (some n)) [.pointer (some ⟨b, 0, none⟩)] A = some (.agg l.toArray, A) := by
  show (match A.loadN ⟨b, 0, none⟩ n with
    | some vs => some (Value.agg vs.toArray, A)
    | none => none) = _
  rw [h.loadN hn]
theorem load_at {A : St} {b i : Nat} {l : List Value} {v : Value} (h : Cell A b l) (hi : l[i]? = some v) : semR (.load none) [.pointer (some (addA ⟨b, 0, none⟩ i))] A = some (v, A) := by
  show (match A.loadN ⟨b, 0 + i, none⟩ 1 with
    | some [v] => some (v, A)
    | _ => none) = _
  rw [h.loadAt hi]

/-! ### Known calls -/
theorem shiftV_plain {s : Nat} : ∀ (n m : Nat) (v : Value), noAddr n v = true → shiftV s m v = v := by
  intro n
  induction n with
  | zero =>
    intro m v h
    cases v <;> first
      | (cases m <;> rfl)
      | (rename_i p; cases p <;> first
          | (cases m <;> rfl)
          | (cases h; done))
      | (rename_i p _ _; cases p <;> first
          | (cases m <;> rfl)
          | (cases h; done))
      | (cases h; done)
  | succ n ih =>
    have arr : ∀ (m : Nat) (a : Array Value), a.toList.all (noAddr n) = true → a.map (shiftV s m) = a := by
      intro m a ha
      apply Array.ext'
      rw [Array.toList_map]
      conv => rhs; rw [← List.map_id a.toList]
      exact List.map_congr_left fun x hx => ih m x (List.all_eq_true.1 ha x hx)
    intro m v h
    cases m with
    | zero => cases v <;> first
      | rfl
      | (rename_i p; cases p <;> first
          | rfl
          | (cases h; done))
      | (rename_i p _ _; cases p <;> first
          | rfl
          | (cases h; done))
    | succ m =>
      cases v with
      | iface t v => show Value.iface t (shiftV s m v) = _; rw [ih m v h]
      | agg a => show Value.agg (a.map (shiftV s m)) = _; rw [arr m a h]
      | tuple a => show Value.tuple (a.map (shiftV s m)) = _; rw [arr m a h]
      | func f a c =>
        simp only [noAddr, Bool.and_eq_true] at h
        show Value.func (shiftF s f) (a.map (shiftV s m)) (c.map (shiftV s m)) = _
        rw [arr m a h.1.2, arr m c h.2]
        cases f <;> first
          | rfl
          | (simp at h)
      | pointer p => cases p <;> first
          | rfl
          | (cases h; done)
      | slice p _ _ => cases p <;> first
          | rfl
          | (cases h; done)
      | map p => cases p <;> first
          | rfl
          | (cases h; done)
      | _ => rfl
theorem keep_known (A : St) (k : Known) : Keep A { A with next := A.next + k.cnt, h := addRows A.next A.h k.objs } :=
  ⟨Nat.le_add_right _ _, fun _ hb => addRows_low hb, rfl⟩
theorem runs_plain {E : Env} {f : FuncId} {as : List Value} {A : St} {k : Known} (hk : knownAt f as E.known = some k) (hl : (k.looks.all fun r => Nat.blt r.g E.ng && lookOk A r) = true) (hp : plainV k.v = true) :
    ∃ B, Runs E f as A k.v B ∧ Keep A B := by
  refine ⟨_, ?_, keep_known A k⟩
  have := runs_known hk hl
  rw [shiftV_plain 40 8 k.v hp] at this
  exact this

/-! ### Step by step -/
section
variable {E : Env} {σ : Sg} {H : List St} {A : St} {Q : Post} {k a b : N} {xs : List X}
theorem wp_op {r : R} {v : Value} {A' : St} (h : semR r (denL σ xs) A = some (v, A')) (hk : wp E k (σ ++ [v]) H A' Q) : wp E (.op r xs k) σ H A Q := ⟨v, A', h, hk⟩
theorem wp_call {f : FuncId} {v : Value} {A' : St} (h : Runs E f (denL σ xs) A v A') (hk : wp E k (σ ++ [v]) H A' Q) : wp E (.call f xs k) σ H A Q := ⟨v, A', h, hk⟩
theorem wp_true {x : X} (h : x.den σ = .bool true) (hk : wp E a σ H A Q) : wp E (.br x a b) σ H A Q := ⟨true, h, fun _ => hk, fun e => (by cases e)⟩
theorem wp_false {x : X} (h : x.den σ = .bool false) (hk : wp E b σ H A Q) : wp E (.br x a b) σ H A Q := ⟨false, h, fun e => (by cases e), fun _ => hk⟩
theorem wp_br {x : X} {t : Bool} (h : x.den σ = .bool t) (ha : t = true → wp E a σ H A Q) (hb : t = false → wp E b σ H A Q) : wp E (.br x a b) σ H A Q := ⟨t, h, ha, hb⟩
theorem wp_fin {o : Nat} (h : Q o (denL σ xs) A) : wp E (.fin o xs) σ H A Q := h
end
theorem alloc_cell (A : St) (t : TypeId) (z : List Value) : ∃ B, semR (.alloc t z) [] A = some (.pointer (some ⟨A.next, 0, none⟩), B) ∧ Keep A B ∧ Cell B A.next z ∧ B.next = A.next + 1 :=
  ⟨_, rfl, keep_newRow A t z, cell_new A t z, rfl⟩
end Go.AM.SX
