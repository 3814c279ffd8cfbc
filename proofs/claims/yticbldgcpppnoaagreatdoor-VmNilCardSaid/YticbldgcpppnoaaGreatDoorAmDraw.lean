/- Regions in whatever order: what the evaluator's one run shows, the order that binds. -/
import Derived.Test.YticbldgcpppnoaaGreatDoorAmRun
namespace Go.AM
section
variable {E : Env} {P : Program} {nm : Nm} {ops : Array Oper}

/-- What binds, closed. -/
theorem foldl_push (g : Array Nat → Oper → Nat) : ∀ (l : List Oper) (acc : Array Nat),
    (l.foldl (fun acc o => acc.push (g acc o)) acc).size = acc.size + l.length ∧ (∀ k, k < acc.size → (l.foldl (fun acc o => acc.push (g acc o)) acc).getD k 0 = acc.getD k 0) ∧
    ∀ m o, l[m]? = some o → ∃ acc' : Array Nat, acc'.size = acc.size + m ∧ (∀ k, k < acc'.size → (l.foldl (fun acc o => acc.push (g acc o)) acc).getD k 0 = acc'.getD k 0) ∧
      (l.foldl (fun acc o => acc.push (g acc o)) acc).getD (acc.size + m) 0 = g acc' o
  | [], acc => ⟨rfl, fun _ _ => rfl, fun m o h => by simp at h⟩
  | x :: l, acc => by
    obtain ⟨h1, h2, h3⟩ := foldl_push g l (acc.push (g acc x))
    have hp : ∀ k, k < acc.size → (acc.push (g acc x)).getD k 0 = acc.getD k 0 := by
      intro k hk
      simp only [Array.getD_eq_getD_getElem?, Array.getElem?_push]
      rw [if_neg (by omega)]
    simp only [List.foldl_cons, List.length_cons]
    refine ⟨by rw [h1]; simp; omega, fun k hk => by rw [h2 k (by simp; omega), hp k hk], fun m o hm => ?_⟩
    cases m with
    | zero =>
      simp only [List.getElem?_cons_zero, Option.some.injEq] at hm
      subst hm
      refine ⟨acc, rfl, fun k hk => by rw [h2 k (by simp; omega), hp k hk], ?_⟩
      rw [Nat.add_zero, h2 acc.size (by simp)]
      simp [Array.getD_eq_getD_getElem?]
    | succ m =>
      obtain ⟨acc', g1, g2, g3⟩ := h3 m o (by simpa using hm)
      refine ⟨acc', by rw [g1]; simp; omega, g2, ?_⟩
      rw [Array.size_push] at g3
      rw [show acc.size + (m + 1) = acc.size + 1 + m from by omega]
      exact g3

theorem after_bits (acc : Array Nat) (j : Nat) : ∀ (l : List Edge) (s : Nat), (l.foldl (fun s e => if Region.binds .any e then s ||| 2 ^ e.on ||| acc.getD e.on 0 else s) s).testBit j = true →
    s.testBit j = true ∨ ∃ e, e ∈ l ∧ Region.binds .any e = true ∧ (e.on = j ∨ (acc.getD e.on 0).testBit j = true)
  | [], s, h => .inl h
  | e :: l, s, h => by
    rw [List.foldl_cons] at h
    rcases after_bits acc j l _ h with g | ⟨e', g1, g2, g3⟩
    · split at g
      · rename_i hb
        rw [Nat.testBit_or, Nat.testBit_or] at g
        simp only [Bool.or_eq_true] at g
        rcases g with (g | g) | g
        · exact .inl g
        · right
          refine ⟨e, by simp, hb, .inl ?_⟩
          rw [Nat.testBit_two_pow] at g
          simpa using g
        · exact .inr ⟨e, by simp, hb, .inr g⟩
      · exact .inl g
    · exact .inr ⟨e', by simp [g1], g2, g3⟩

def bef (ops : Array Oper) (i : Nat) : Nat := (Region.before ops).getD i 0

theorem before_size : (Region.before ops).size = ops.size := by
  unfold Region.before
  rw [← Array.foldl_toList]
  have := (foldl_push (fun acc o => o.after.foldl (fun s e => if Region.binds .any e then s ||| 2 ^ e.on ||| acc.getD e.on 0 else s) 0) ops.toList #[]).1
  simpa using this

theorem bef_spec (hed : edgesOk ops = true) {i j : Nat} {o : Oper} (ho : ops[i]? = some o) (hb : (bef ops i).testBit j = true) :
    ∃ e, e ∈ o.after ∧ Region.binds .any e = true ∧ e.on < i ∧ (e.on = j ∨ (bef ops e.on).testBit j = true) := by
  obtain ⟨acc', g1, g2, g3⟩ := (foldl_push (fun acc o => o.after.foldl (fun s e => if Region.binds .any e then s ||| 2 ^ e.on ||| acc.getD e.on 0 else s) 0) ops.toList #[]).2.2 i o (by simpa using ho)
  have hbe : ∀ k, bef ops k = (ops.toList.foldl (fun acc o => acc.push (o.after.foldl (fun s e => if Region.binds .any e then s ||| 2 ^ e.on ||| acc.getD e.on 0 else s) 0)) #[]).getD k 0 := by
    intro k
    unfold bef Region.before
    rw [← Array.foldl_toList]
  have hsz : acc'.size = i := by simpa using g1
  have h0 : bef ops i = o.after.foldl (fun s e => if Region.binds .any e then s ||| 2 ^ e.on ||| acc'.getD e.on 0 else s) 0 := by
    rw [hbe i]
    have : (#[] : Array Nat).size + i = i := by simp
    rw [this] at g3
    exact g3
  rw [h0, ← Array.foldl_toList] at hb
  rcases after_bits acc' j _ _ hb with g | ⟨e, k1, k2, k3⟩
  · simp at g
  · have hlt : e.on < i := by
      unfold edgesOk at hed
      rw [List.all_eq_true] at hed
      have := hed (o, i) (by
        rw [List.mem_zipIdx_iff_getElem?]
        simpa using ho)
      simp only [List.all_eq_true, Bool.or_eq_true, Bool.not_eq_true'] at this
      rcases this e k1 with q | q
      · rw [k2] at q; cases q
      · simpa using q
    refine ⟨e, by simpa using k1, k2, hlt, ?_⟩
    rcases k3 with k | k
    · exact .inl k
    · right
      rw [hbe e.on, g2 e.on (by omega)]
      exact k

theorem bef_closed (hed : edgesOk ops = true) (S : Nat → Prop) (hcl : ∀ i o, ops[i]? = some o → S i → ∀ e, e ∈ o.after → Region.binds .any e = true → S e.on) :
    ∀ (i j : Nat) (o : Oper), ops[i]? = some o → (∀ e, e ∈ o.after → Region.binds .any e = true → S e.on) → (bef ops i).testBit j = true → S j := by
  intro i
  induction i using Nat.strongRecOn with
  | _ i ih =>
    intro j o ho hS hb
    obtain ⟨e, h1, h2, h3, h4⟩ := bef_spec hed ho hb
    have hSe := hS e h1 h2
    rcases h4 with h4 | h4
    · rw [← h4]; exact hSe
    · have hlt : e.on < ops.size := by have := (Array.getElem?_eq_some_iff.1 ho).1; omega
      have hoe : ops[e.on]? = some ops[e.on] := Array.getElem?_eq_getElem hlt
      exact ih e.on h3 j _ hoe (fun e' => hcl e.on _ hoe hSe e') h4

theorem pairs_spec : ∀ (l : List Brief) (s : Nat), pairsOk s l = true → ∀ (i j : Nat) (a b : Brief), i < j → l[i]? = some a → l[j]? = some b → pairOk (s + i) a b = true
  | [], s, _, i, j, a, b, _, h, _ => by simp at h
  | x :: l, s, hp, i, j, a, b, hij, hi, hj => by
    simp only [pairsOk, Bool.and_eq_true, List.all_eq_true] at hp
    cases j with
    | zero => omega
    | succ j =>
      have hj' : l[j]? = some b := by simpa using hj
      cases i with
      | zero =>
        simp only [List.getElem?_cons_zero, Option.some.injEq] at hi
        subst hi
        exact hp.1 b (List.mem_of_getElem? hj')
      | succ i =>
        have := pairs_spec l (s + 1) hp.2 i j a b (by omega) (by simpa using hi) hj'
        rwa [show s + 1 + i = s + (i + 1) from by omega] at this

def brief (E : Env) (ops : Array Oper) (o : Oper) (i : Nat) : Brief := { dst := o.dst, see := looks ops o, eff := !isFloat E o && !isAlloc o, alc := isAlloc o, bef := bef ops i }

theorem briefs_get {i : Nat} {o : Oper} (ho : ops[i]? = some o) : (briefs E ops)[i]? = some (brief E ops o i) := by
  have hlt := (Array.getElem?_eq_some_iff.1 ho).1
  have h1 : ops.toList[i]? = some o := by simpa using ho
  have hlt2 : i < (Region.before ops).size := by rw [before_size]; exact hlt
  have h2 : (Region.before ops).toList[i]? = some (bef ops i) := by
    unfold bef
    simp [Array.getD_eq_getD_getElem?, hlt2]
  have h3 : (ops.toList.zip (Region.before ops).toList)[i]? = some (o, bef ops i) := List.getElem?_zip_eq_some.2 ⟨h1, h2⟩
  unfold briefs
  rw [List.getElem?_map, h3]
  rfl

theorem pair_at (hr : regOk E ops = true) {i j : Nat} {a b : Oper} (hij : i < j) (hi : ops[i]? = some a) (hj : ops[j]? = some b) : pairOk i (brief E ops a i) (brief E ops b j) = true := by
  unfold regOk at hr
  rw [Bool.and_eq_true] at hr
  have := pairs_spec _ 0 hr.2 i j _ _ hij (briefs_get hi) (briefs_get hj)
  rwa [Nat.zero_add] at this

/-- One operation of the evaluator's own run. -/
def StepT (E : Env) (rec_ : Rec) (nt : Nat) (ops : Array Oper) (rid0 : Nat) (F : Nat → Fr) (G : Nat → St) (V : Nat → Value) (κ : Nat → Nat) (i : Nat) (o : Oper) : Prop :=
  (κ i = 0 ∧ guardOk ops o (F i) = false ∧ Fr.put nt (F i) o.dst undef = some (F (i + 1)) ∧ G (i + 1) = G i ∧ V i = undef) ∨
  (κ i = 1 ∧ guardOk ops o (F i) = true ∧ isFloat E o = true ∧ (∃ A', opX E (G i) (evalO (F i)) o = some (.val (V i), A')) ∧ Fr.put nt (F i) o.dst (V i) = some (F (i + 1)) ∧ G (i + 1) = G i) ∨
  (κ i = 3 ∧ guardOk ops o (F i) = true ∧ isAlloc o = true ∧ (∃ A1, opX E { G i with next := rid0 + i } (evalO (F i)) o = some (.val (V i), A1) ∧ G (i + 1) = { A1 with next := (G i).next }) ∧ Fr.put nt (F i) o.dst (V i) = some (F (i + 1))) ∨
  (κ i = 2 ∧ guardOk ops o (F i) = true ∧ isFloat E o = false ∧ isAlloc o = false ∧ doOp E rec_ nt o (F i) (G i) = some (F (i + 1), G (i + 1)) ∧ V i = slotOf (F (i + 1)) o.dst)

theorem StepT.congr {rec_ : Rec} {nt rid0 i : Nat} {F F' : Nat → Fr} {G G' : Nat → St} {V V' : Nat → Value} {κ κ' : Nat → Nat} {o : Oper} (h : StepT E rec_ nt ops rid0 F G V κ i o)
    (hF : F' i = F i) (hF1 : F' (i + 1) = F (i + 1)) (hG : G' i = G i) (hG1 : G' (i + 1) = G (i + 1)) (hV : V' i = V i) (hκ : κ' i = κ i) : StepT E rec_ nt ops rid0 F' G' V' κ' i o := by
  unfold StepT at *
  rw [hF, hF1, hG, hG1, hV, hκ]
  exact h

theorem chkAll_spec {befs ks : List Nat} {Hs : List (Nat × St)} : ∀ (L : List Ent) (s : Nat), chkAll E befs ks Hs L s = true → ∀ m e, L[m]? = some e → chkEnt E befs ks Hs e (s + m) = true
  | [], s, _, m, e, h => by simp at h
  | x :: L, s, hc, m, e, h => by
    simp only [chkAll, Bool.and_eq_true] at hc
    cases m with
    | zero => simp only [List.getElem?_cons_zero, Option.some.injEq] at h; subst h; exact hc.1
    | succ m =>
      have := chkAll_spec L (s + 1) hc.2 m e (by simpa using h)
      rwa [show s + 1 + m = s + (m + 1) from by omega] at this

/-- What the evaluator's run of a region shows. -/
structure TraceR (E : Env) (rec_ : Rec) (nt : Nat) (ops : Array Oper) (rid0 : Nat) (befs : List Nat) (os : List (Oper × Nat)) (i : Nat) (fr : Fr) (A : St) (log : List Ent) (Hs : List (Nat × St)) (ks : List Nat) (fr1 : Fr) (A1 : St)
    (F : Nat → Fr) (G : Nat → St) (V : Nat → Value) (κ : Nat → Nat) (Ks : List Nat) (HS : List (Nat × St)) (L : List Ent) : Prop where
  f0 : F i = fr
  g0 : G i = A
  fn : F (i + os.length) = fr1
  gn : G (i + os.length) = A1
  step : ∀ m o b, os[m]? = some (o, b) → StepT E rec_ nt ops rid0 F G V κ (i + m) o
  chk : chkAll E befs Ks HS (log.reverse ++ L) 0 = true
  ks : ∀ k, k ∈ Ks ↔ k ∈ ks ∨ (i ≤ k ∧ k < i + os.length ∧ κ k = 2)
  hs : ∀ p, p ∈ Hs → p ∈ HS
  hs2 : ∀ k, i ≤ k → k < i + os.length → κ k = 2 → (k + 1, G (k + 1)) ∈ HS
  len : L.length = os.length
  ent : ∀ m o b, os[m]? = some (o, b) → L[m]? = some ({ o, fr := F (i + m), v := V (i + m), kind := κ (i + m), bef := b } : Ent)

theorem TraceR.cons {rec_ : Rec} {nt rid0 : Nat} {befs : List Nat} {os : List (Oper × Nat)} {i : Nat} {fr fr' fr1 : Fr} {A A' A1 : St} {log : List Ent} {Hs Hs' : List (Nat × St)} {ks ks' : List Nat} {o : Oper} {b k0 : Nat} {v : Value}
    {F : Nat → Fr} {G : Nat → St} {V : Nat → Value} {κ : Nat → Nat} {Ks : List Nat} {HS : List (Nat × St)} {L : List Ent}
    (t : TraceR E rec_ nt ops rid0 befs os (i + 1) fr' A' ({ o, fr, v, kind := k0, bef := b } :: log) Hs' ks' fr1 A1 F G V κ Ks HS L)
    (hstep : ∀ (F' : Nat → Fr) (G' : Nat → St) (V' : Nat → Value) (κ' : Nat → Nat), F' i = fr → F' (i + 1) = fr' → G' i = A → G' (i + 1) = A' → V' i = v → κ' i = k0 → StepT E rec_ nt ops rid0 F' G' V' κ' i o)
    (hks : (k0 = 2 ∧ ks' = i :: ks ∧ Hs' = (i + 1, A') :: Hs) ∨ (k0 ≠ 2 ∧ ks' = ks ∧ Hs' = Hs)) :
    ∃ F G V κ Ks HS L, TraceR E rec_ nt ops rid0 befs ((o, b) :: os) i fr A log Hs ks fr1 A1 F G V κ Ks HS L := by
  let F' : Nat → Fr := fun j => if j = i then fr else F j
  let G' : Nat → St := fun j => if j = i then A else G j
  let V' : Nat → Value := fun j => if j = i then v else V j
  let κ' : Nat → Nat := fun j => if j = i then k0 else κ j
  have hF : ∀ j, j ≠ i → F' j = F j := fun j h => if_neg h
  have hG : ∀ j, j ≠ i → G' j = G j := fun j h => if_neg h
  have hV : ∀ j, j ≠ i → V' j = V j := fun j h => if_neg h
  have hκ : ∀ j, j ≠ i → κ' j = κ j := fun j h => if_neg h
  have hF0 : F' i = fr := if_pos rfl
  have hG0 : G' i = A := if_pos rfl
  have hV0 : V' i = v := if_pos rfl
  have hκ0 : κ' i = k0 := if_pos rfl
  have e1 : i + (os.length + 1) = i + 1 + os.length := by omega
  refine ⟨F', G', V', κ', Ks, HS, { o, fr, v, kind := k0, bef := b } :: L, { f0 := hF0, g0 := hG0, fn := ?_, gn := ?_, step := ?_, chk := ?_, ks := ?_, hs := ?_, hs2 := ?_, len := ?_, ent := ?_ }⟩
  · rw [List.length_cons, e1, hF _ (by omega)]; exact t.fn
  · rw [List.length_cons, e1, hG _ (by omega)]; exact t.gn
  · intro m o' b' hm
    cases m with
    | zero =>
      simp only [List.getElem?_cons_zero, Option.some.injEq, Prod.mk.injEq] at hm
      obtain ⟨rfl, rfl⟩ := hm
      rw [Nat.add_zero]
      exact hstep F' G' V' κ' hF0 ((hF _ (by omega)).trans t.f0) hG0 ((hG _ (by omega)).trans t.g0) hV0 hκ0
    | succ m =>
      have := t.step m o' b' (by simpa using hm)
      rw [show i + 1 + m = i + (m + 1) from by omega] at this
      exact this.congr (hF _ (by omega)) (hF _ (by omega)) (hG _ (by omega)) (hG _ (by omega)) (hV _ (by omega)) (hκ _ (by omega))
  · have := t.chk
    simpa using this
  · intro k
    rw [t.ks k, List.length_cons]
    rcases hks with ⟨h1, h2, h3⟩ | ⟨h1, h2, h3⟩
    · subst h2
      constructor
      · rintro (h | ⟨g1, g2, g3⟩)
        · rcases List.mem_cons.1 h with e | e
          · subst e; exact .inr ⟨Nat.le_refl _, by omega, by rw [hκ0]; exact h1⟩
          · exact .inl e
        · exact .inr ⟨by omega, by omega, by rw [hκ _ (by omega)]; exact g3⟩
      · rintro (h | ⟨g1, g2, g3⟩)
        · exact .inl (by simp [h])
        · by_cases e : k = i
          · exact .inl (by simp [e])
          · exact .inr ⟨by omega, by omega, by rw [hκ _ e] at g3; exact g3⟩
    · subst h2
      constructor
      · rintro (h | ⟨g1, g2, g3⟩)
        · exact .inl h
        · exact .inr ⟨by omega, by omega, by rw [hκ _ (by omega)]; exact g3⟩
      · rintro (h | ⟨g1, g2, g3⟩)
        · exact .inl h
        · by_cases e : k = i
          · subst e; rw [hκ0] at g3; exact absurd g3 h1
          · exact .inr ⟨by omega, by omega, by rw [hκ _ e] at g3; exact g3⟩
  · intro p hp
    rcases hks with ⟨h1, h2, h3⟩ | ⟨h1, h2, h3⟩
    · exact t.hs p (by rw [h3]; simp [hp])
    · exact t.hs p (by rw [h3]; exact hp)
  · intro k g1 g2 g3
    rw [List.length_cons] at g2
    by_cases e : k = i
    · subst e
      rcases hks with ⟨h1, h2, h3⟩ | ⟨h1, h2, h3⟩
      · have := t.hs (k + 1, A') (by rw [h3]; simp)
        rw [hG _ (by omega), t.g0]; exact this
      · rw [hκ0] at g3; exact absurd g3 h1
    · rw [hκ _ e] at g3
      rw [hG _ (by omega)]
      exact t.hs2 k (by omega) (by omega) g3
  · simp [t.len]
  · intro m o' b' hm
    cases m with
    | zero =>
      simp only [List.getElem?_cons_zero, Option.some.injEq, Prod.mk.injEq] at hm
      obtain ⟨rfl, rfl⟩ := hm
      simp only [Nat.add_zero, List.getElem?_cons_zero, hF0, hV0, hκ0]
    | succ m =>
      have := t.ent m o' b' (by simpa using hm)
      rw [show i + 1 + m = i + (m + 1) from by omega] at this
      rw [List.getElem?_cons_succ, this, hF _ (by omega), hV _ (by omega), hκ _ (by omega)]

theorem trace_ok {rec_ : Rec} {nt rid0 : Nat} {befs : List Nat} : ∀ (os : List (Oper × Nat)) (i : Nat) (fr : Fr) (A : St) (log : List Ent) (Hs : List (Nat × St)) (ks : List Nat) (fr1 : Fr) (A1 : St),
    doDraw E rec_ nt ops befs os i (rid0 + i) fr A log Hs ks = some (fr1, A1) →
    ∃ F G V κ Ks HS L, TraceR E rec_ nt ops rid0 befs os i fr A log Hs ks fr1 A1 F G V κ Ks HS L := by
  intro os
  induction os with
  | nil =>
    intro i fr A log Hs ks fr1 A1 h
    unfold doDraw at h
    split at h
    · rename_i hc
      cases h
      exact ⟨fun _ => fr, fun _ => A, fun _ => undef, fun _ => 0, ks, Hs, [], { f0 := rfl, g0 := rfl, fn := rfl, gn := rfl, step := fun m o b hm => by simp at hm, chk := by simpa using hc, ks := fun k => (by simp; try omega), hs := fun p hp => hp, hs2 := fun k g1 g2 => by simp at g2; omega, len := rfl, ent := fun m o b hm => by simp at hm }⟩
    · cases h
  | cons ob os ih =>
    intro i fr A log Hs ks fr1 A1 h
    obtain ⟨o, b⟩ := ob
    unfold doDraw at h
    split at h
    · rename_i hg
      split at h
      · rename_i hfl
        split at h
        · rename_i v Ax hop
          split at h
          · rename_i fr2 hp
            obtain ⟨F, G, V, κ, Ks, HS, L, t⟩ := ih (i + 1) fr2 A _ Hs ks fr1 A1 h
            exact t.cons (A := A) (fun F' G' V' κ' a1 a2 a3 a4 a5 a6 => .inr (.inl ⟨a6, by rw [a1]; exact hg, hfl, ⟨Ax, by rw [a1, a3, a5]; exact hop⟩, by rw [a1, a2, a5]; exact hp, by rw [a3, a4]⟩)) (.inr ⟨by decide, rfl, rfl⟩)
          · cases h
        · cases h
      · rename_i hfl
        split at h
        · rename_i hal
          split at h
          · rename_i v Ax hop
            split at h
            · rename_i fr2 hp
              obtain ⟨F, G, V, κ, Ks, HS, L, t⟩ := ih (i + 1) fr2 _ _ Hs ks fr1 A1 h
              exact t.cons (A := A) (fun F' G' V' κ' a1 a2 a3 a4 a5 a6 => .inr (.inr (.inl ⟨a6, by rw [a1]; exact hg, hal, ⟨Ax, by rw [a1, a3, a5]; exact hop, by rw [a3, a4]⟩, by rw [a1, a2, a5]; exact hp⟩))) (.inr ⟨by decide, rfl, rfl⟩)
            · cases h
          · cases h
        · rename_i hal
          split at h
          · rename_i fr2 A2 hop
            obtain ⟨F, G, V, κ, Ks, HS, L, t⟩ := ih (i + 1) fr2 A2 _ _ _ fr1 A1 h
            exact t.cons (A := A) (fun F' G' V' κ' a1 a2 a3 a4 a5 a6 => .inr (.inr (.inr ⟨a6, by rw [a1]; exact hg, by simpa using hfl, by simpa using hal, by rw [a1, a2, a3, a4]; exact hop, by rw [a2, a5]⟩))) (.inl ⟨rfl, rfl, rfl⟩)
          · cases h
    · rename_i hg
      split at h
      · rename_i fr2 hp
        obtain ⟨F, G, V, κ, Ks, HS, L, t⟩ := ih (i + 1) fr2 A _ Hs ks fr1 A1 h
        exact t.cons (A := A) (fun F' G' V' κ' a1 a2 a3 a4 a5 a6 => .inl ⟨a6, by rw [a1]; simpa using hg, by rw [a1, a2]; exact hp, by rw [a3, a4], a5⟩) (.inr ⟨by decide, rfl, rfl⟩)
      · cases h
end
end Go.AM

namespace Go.AM
section
variable {E : Env} {P : Program} {nm : Nm}

theorem of_blt {a b : Nat} (h : Nat.blt a b = true) : a < b := by simpa using h
theorem permOps_size (ops : Array Oper) (π : List Nat) : (permOps ops π).size = ops.size := by simp [permOps]
theorem renOp_wp {ι : Nat → Nat} {o : Oper} {a : Act} {w : World} {K : Act → World → Prop} {Q : Exit → Act → World → Prop} : (renOp ι o).wp P a w K Q = o.wp P a w K Q := rfl
theorem renOp_asks {ι : Nat → Nat} {o : Oper} {a : Act} {w : World} : (renOp ι o).asks P a w = o.asks P a w := rfl

structure PermT (ops : Array Oper) (π : List Nat) : Prop where
  a : ∀ p, p < ops.size → π.getD p 0 < ops.size ∧ idxAt π (π.getD p 0) = p
  b : ∀ i, i < ops.size → idxAt π i < ops.size ∧ π.getD (idxAt π i) 0 = i
  g : ∀ (i : Nat) (o : Oper), ops[i]? = some o → ∀ (j : Nat) (w : Bool), o.guard = some (j, w) → j < ops.size
  e : ∀ (i : Nat) (o : Oper), ops[i]? = some o → ∀ e : Edge, e ∈ o.after → e.on < ops.size
theorem permOk_spec {ops : Array Oper} {π : List Nat} (h : permOk ops π = true) : PermT ops π := by
  unfold permOk at h
  simp only [Bool.and_eq_true, List.all_eq_true, List.mem_range] at h
  obtain ⟨⟨h1, h2⟩, h3⟩ := h
  have mem : ∀ (i : Nat) (o : Oper), ops[i]? = some o → o ∈ ops.toList := fun i o ho => by
    have : ops.toList[i]? = some o := by simpa using ho
    exact List.mem_of_getElem? this
  refine ⟨fun p hp => ?_, fun i hi => ?_, fun i o ho j w hg => ?_, fun i o ho e he => ?_⟩
  · obtain ⟨k1, k2⟩ := h1 p hp
    exact ⟨of_blt k1, Nat.eq_of_beq_eq_true k2⟩
  · obtain ⟨k1, k2⟩ := h2 i hi
    exact ⟨of_blt k1, Nat.eq_of_beq_eq_true k2⟩
  · have := (h3 o (mem i o ho)).1
    rw [hg] at this
    exact of_blt this
  · have := (h3 o (mem i o ho)).2 e (by simpa using he)
    exact of_blt this

theorem permOps_get {ops : Array Oper} {π : List Nat} (t : PermT ops π) {i : Nat} {o : Oper} (ho : ops[i]? = some o) : (permOps ops π)[idxAt π i]? = some (renOp (idxAt π) o) := by
  have hi := (Array.getElem?_eq_some_iff.1 ho).1
  obtain ⟨h1, h2⟩ := t.b i hi
  unfold permOps
  rw [List.getElem?_toArray, List.getElem?_map, List.getElem?_range h1]
  simp only [Option.map_some, h2]
  rw [Array.getD_eq_getD_getElem?, ho]
  rfl
theorem permOps_at {ops : Array Oper} {π : List Nat} (t : PermT ops π) {p : Nat} {o' : Oper} (ho : (permOps ops π)[p]? = some o') : ∃ i o, ops[i]? = some o ∧ p = idxAt π i ∧ o' = renOp (idxAt π) o := by
  have hp := (Array.getElem?_eq_some_iff.1 ho).1
  rw [permOps_size] at hp
  obtain ⟨h1, h2⟩ := t.a p hp
  have hget := Array.getElem?_eq_getElem h1
  have := permOps_get t hget
  rw [h2, ho] at this
  cases this
  exact ⟨_, _, hget, h2.symm, rfl⟩

theorem yielded_perm {ops : Array Oper} {π : List Nat} (t : PermT ops π) {tmps : Array Value} {j : Nat} (hj : j < ops.size) : yielded (permOps ops π) tmps (idxAt π j) = yielded ops tmps j := by
  unfold yielded
  rw [permOps_get t (Array.getElem?_eq_getElem hj), Array.getElem?_eq_getElem hj]
  rfl
theorem wanted_perm {ops : Array Oper} {π : List Nat} (t : PermT ops π) {tmps : Array Value} {i : Nat} {o : Oper} (ho : ops[i]? = some o) : Region.wanted (renOp (idxAt π) o) (yielded (permOps ops π) tmps) = Region.wanted o (yielded ops tmps) := by
  unfold Region.wanted renOp
  cases hg : o.guard with
  | none => rfl
  | some g =>
    obtain ⟨j, w⟩ := g
    simp only [Option.map_some]
    rw [yielded_perm t (t.g i o ho j w hg)]

theorem ready_perm {ops : Array Oper} {π : List Nat} (t : PermT ops π) {listed listed' : Array Bool} (hl : ∀ i, i < ops.size → ∀ d, listed'.getD (idxAt π i) d = listed.getD i d) {i : Nat} : i ∈ Region.ready .any ops listed → idxAt π i ∈ Region.ready .any (permOps ops π) listed' := by
  intro h
  obtain ⟨h1, o, h2, h3⟩ := mem_ready.1 h
  have hi := (Array.getElem?_eq_some_iff.1 h2).1
  refine mem_ready.2 ⟨by rw [hl i hi]; exact h1, _, permOps_get t h2, fun e he hb => ?_⟩
  unfold renOp at he
  simp only [Array.mem_map] at he
  obtain ⟨e0, he0, rfl⟩ := he
  simp only
  rw [hl _ (t.e i o h2 e0 he0)]
  exact h3 e0 he0 hb
theorem ready_perm' {ops : Array Oper} {π : List Nat} (t : PermT ops π) {listed listed' : Array Bool} (hl : ∀ i, i < ops.size → ∀ d, listed'.getD (idxAt π i) d = listed.getD i d) (h : Region.ready .any ops listed = []) : Region.ready .any (permOps ops π) listed' = [] := by
  cases hr : Region.ready .any (permOps ops π) listed' with
  | nil => rfl
  | cons p l =>
    exfalso
    have hp : p ∈ Region.ready .any (permOps ops π) listed' := by rw [hr]; simp
    obtain ⟨h1, o', h2, h3⟩ := mem_ready.1 hp
    obtain ⟨i, o, ho, rfl, rfl⟩ := permOps_at t h2
    have hi := (Array.getElem?_eq_some_iff.1 ho).1
    have : i ∈ Region.ready .any ops listed := mem_ready.2 ⟨by rw [← hl i hi]; exact h1, o, ho, fun e he hb => by
      rw [← hl _ (t.e i o ho e he)]
      exact h3 { e with on := idxAt π e.on } (by unfold renOp; simp only [Array.mem_map]; exact ⟨e, he, rfl⟩) hb⟩
    rw [h] at this
    cases this

theorem idx_inj {ops : Array Oper} {π : List Nat} (t : PermT ops π) {i j : Nat} (hi : i < ops.size) (hj : j < ops.size) (h : idxAt π i = idxAt π j) : i = j := by
  have h1 := (t.b i hi).2
  have h2 := (t.b j hj).2
  rw [h] at h1
  omega

theorem any_perm {ops : Array Oper} {π : List Nat} (t : PermT ops π) {Q : Exit → Act → World → Prop} : ∀ (fuel : Nat) (listed listed' : Array Bool) (a : Act) (w : World), listed.size = ops.size → listed'.size = ops.size →
    (∀ i, i < ops.size → ∀ d, listed'.getD (idxAt π i) d = listed.getD i d) → wpAny P .any (permOps ops π) Q fuel listed' a w → wpAny P .any ops Q fuel listed a w
  | 0, listed, listed', a, w, _, _, hl, h => by
    refine ⟨?_, h.2⟩
    cases hr : Region.ready .any ops listed with
    | nil => rfl
    | cons p l =>
      have := ready_perm t hl (i := p) (by rw [hr]; simp)
      rw [h.1] at this
      cases this
  | fuel + 1, listed, listed', a, w, hs, hs', hl, h => by
    refine ⟨fun hn => h.1 (ready_perm' t hl hn), fun i hi => ?_⟩
    have hi' := ready_perm t hl hi
    obtain ⟨_, o, ho, _⟩ := mem_ready.1 hi
    have hilt := (Array.getElem?_eq_some_iff.1 ho).1
    have key := h.2 _ hi'
    have next : ∀ a' w', wpAny P .any (permOps ops π) Q fuel (listed'.setIfInBounds (idxAt π i) true) a' w' → wpAny P .any ops Q fuel (listed.setIfInBounds i true) a' w' := by
      intro a' w' hn
      refine any_perm t fuel _ _ a' w' (by simpa using hs) (by simpa using hs') (fun k hk d => ?_) hn
      have hb := (t.b i hilt).1
      by_cases e : i = k
      · subst e
        simp [Array.getD_eq_getD_getElem?, hs, hs', hilt, hb]
      · have e' : idxAt π i ≠ idxAt π k := fun q => e (idx_inj t hilt hk q)
        simp only [Array.getD_eq_getD_getElem?, Array.getElem?_setIfInBounds_ne e, Array.getElem?_setIfInBounds_ne e']
        have := hl k hk d
        simpa [Array.getD_eq_getD_getElem?] using this
    unfold wpOp at key ⊢
    rw [permOps_get t ho] at key
    rw [ho]
    simp only [wanted_perm t ho] at key
    simp only
    split
    · rename_i hw
      rw [if_pos hw] at key
      rcases key with key | key
      · left
        rw [renOp_wp] at key
        exact Oper.wp_mono next key
      · right
        rw [renOp_asks] at key
        exact key
    · rename_i hw
      rw [if_neg hw] at key
      exact next _ _ key
theorem best_cases (E : Env) (ops : Array Oper) : best E ops = ops ∨ ∃ π, permOk ops π = true ∧ best E ops = permOps ops π := by
  unfold best
  by_cases h : regOk E ops = true
  · rw [if_pos h]; exact .inl rfl
  · rw [if_neg h]
    simp only
    by_cases k : permOk ops (schedOps ops ops.size (List.range ops.size) []) = true
    · rw [if_pos k]; exact .inr ⟨_, k, rfl⟩
    · rw [if_neg k]; exact .inl rfl
end
end Go.AM

namespace Go.AM
section
variable {E : Env} {P : Program} {nm : Nm} {K : Kp} {base : World} {φ ψ : Emb} {A A' : St} {w : World}

theorem WR.hide (h : WR nm K base φ A w) {b : Nat} (hb : φ b = none) (hbn : b < A.next) (p : Pl) (c : Obj) (hp : p.blk = w.heap.size) :
    WR nm (fun B => if B = p.blk then some c else K B) base (φ.upd b p) A (w.alloc c) := by
  have hle := Emb.upd_le p hb
  have hsz : (w.alloc c).heap.size = w.heap.size + 1 := by simp
  have hold : ∀ B, B < w.heap.size → (w.alloc c).heap[B]? = w.heap[B]? := fun B hB => getElem?_push_lt hB
  have ne : ∀ x q, φ x = some q → q.blk ≠ p.blk := fun x q hq e => by have := h.lt x q hq; omega
  have back : ∀ x q, x ≠ b → φ.upd b p x = some q → φ x = some q := fun x q hx hq => by rwa [Emb.upd_other φ p hx] at hq
  have live : ∀ x o, A.h.get x = some o → o.live = true → x ≠ b := by
    rintro x o hx hl rfl
    obtain ⟨q, e, _⟩ := h.obj x o hx hl
    rw [hb] at e; cases e
  refine ⟨?_, ?_, ?_, ?_, ?_, ?_, ?_, h.env, by rw [hsz]; exact Nat.le_succ_of_le h.size, ?_⟩
  · intro x hx
    rw [Emb.upd_other φ p (by omega)]; exact h.dom x hx
  · intro x q hx
    rw [hsz]
    by_cases e : x = b
    · subst e; rw [Emb.upd_same] at hx; cases hx; omega
    · have := h.lt x q (back x q e hx); omega
  · intro x o hx hl
    obtain ⟨q, h1, h2, h3⟩ := h.obj x o hx hl
    refine ⟨q, hle _ _ h1, h2.mono hle (hold _ (h.lt _ _ h1)), ?_⟩
    show (if q.blk = p.blk then some c else K q.blk).isNone = o.own
    rw [if_neg (ne x q h1)]; exact h3
  · intro B o hB
    have hB' : (if B = p.blk then some c else K B) = some o := hB
    split at hB'
    · rename_i e
      cases hB'
      rw [e, hp]
      show (w.heap.push c)[w.heap.size]? = some c
      simp
    · have hk := h.key B o hB'
      rw [hold B (by
        rcases Nat.lt_or_ge B w.heap.size with g | g
        · exact g
        · rw [Array.getElem?_eq_none g] at hk; cases hk)]
      exact hk
  · intro x y ox oy px py hxy hx hy lx ly wx wy ex ey hblk
    exact h.sep x y ox oy px py hxy hx hy lx ly wx wy (back _ _ (live _ _ hx lx) ex) (back _ _ (live _ _ hy ly) ey) hblk
  · intro g m ms hgm x hx r s px py h1 h2 e1 e2 hblk
    exact h.tip g m ms hgm x hx r s px py h1 h2 (back _ _ (live _ _ h1 rfl) e1) (back _ _ (live _ _ h2 rfl) e2) hblk
  · intro g ms hgm m hm
    obtain ⟨q, h1, h2⟩ := h.grp g ms hgm m hm
    exact ⟨q, hle _ _ h1, by show (if q.blk = p.blk then some c else K q.blk) = none; rw [if_neg (ne m q h1)]; exact h2⟩
  · intro x o q hx hl ho hq
    exact h.old x o q hx hl ho (back _ _ (live _ _ hx hl) hq)

theorem WR.adopt (h : WR nm K base φ A w) {b : Nat} {p : Pl} {c : Obj} {u : AObj} (hb : φ b = some p) (hk : K p.blk = some c) (hor : OR nm φ w.heap p u) (hown : u.own = true) (hsz : base.heap.size ≤ p.blk) :
    WR nm (fun B => if B = p.blk then none else K B) base φ { A with h := A.h.set b u } w := by
  have ne : ∀ x o q, A.h.get x = some o → o.live = true → φ x = some q → q.blk ≠ p.blk := by
    intro x o q hx hl hq e
    obtain ⟨q', h1, _, h3⟩ := h.obj x o hx hl
    rw [hq] at h1; cases h1
    rw [e, hk] at h3
    have := h.old x o q hx hl h3.symm hq
    omega
  refine ⟨h.dom, h.lt, ?_, ?_, ?_, ?_, ?_, h.env, h.size, ?_⟩
  · intro x o hx hl
    simp only [] at hx
    by_cases e : x = b
    · subst e
      rw [T.get_set_same] at hx; cases hx
      exact ⟨p, hb, hor, by show (if p.blk = p.blk then none else K p.blk).isNone = _; rw [if_pos rfl]; exact hown.symm⟩
    · rw [T.get_set_other _ _ e] at hx
      obtain ⟨q, h1, h2, h3⟩ := h.obj x o hx hl
      exact ⟨q, h1, h2, by show (if q.blk = p.blk then none else K q.blk).isNone = _; rw [if_neg (ne x o q hx hl h1)]; exact h3⟩
  · intro B o hB
    have hB' : (if B = p.blk then none else K B) = some o := hB
    split at hB'
    · cases hB'
    · exact h.key B o hB'
  · intro x y ox oy px py hxy hx hy lx ly wx wy ex ey hblk
    simp only [] at hx hy
    by_cases e1 : x = b
    · subst e1
      rw [hb] at ex; cases ex
      rw [T.get_set_other _ _ (Ne.symm hxy)] at hy
      exact absurd hblk.symm (ne y oy py hy ly ey)
    · rw [T.get_set_other _ _ e1] at hx
      by_cases e2 : y = b
      · subst e2
        rw [hb] at ey; cases ey
        exact absurd hblk (ne x ox px hx lx ex)
      · rw [T.get_set_other _ _ e2] at hy
        exact h.sep x y ox oy px py hxy hx hy lx ly wx wy ex ey hblk
  · intro g m ms hgm x hx r s px py h1 h2 e1 e2 hblk
    have nob : ∀ z, z ∈ m :: ms → z ≠ b := by
      rintro z hz rfl
      obtain ⟨q, k1, k2⟩ := h.grp g _ hgm z hz
      rw [hb] at k1; cases k1
      rw [hk] at k2; cases k2
    simp only [] at h1 h2
    rw [T.get_set_other _ _ (nob x (by simp [hx]))] at h1
    rw [T.get_set_other _ _ (nob m (by simp))] at h2
    exact h.tip g m ms hgm x hx r s px py h1 h2 e1 e2 hblk
  · intro g ms hgm m hm
    obtain ⟨q, h1, h2⟩ := h.grp g ms hgm m hm
    exact ⟨q, h1, by show (if q.blk = p.blk then none else K q.blk) = none; split; rfl; exact h2⟩
  · intro x o q hx hl ho hq
    simp only [] at hx
    by_cases e : x = b
    · subst e; rw [T.get_set_same] at hx; cases hx; rw [hown] at ho; cases ho
    · rw [T.get_set_other _ _ e] at hx; exact h.old x o q hx hl ho hq
end
end Go.AM

namespace Go.AM
section
variable {E : Env} {P : Program} {nm : Nm} {K : Kp} {base : World} {φ ψ : Emb} {A A' : St} {w : World}

/-- Which of a region's operations are done (S), and what the model's state is then. -/
structure Inv (E : Env) (nm : Nm) (K : Kp) (base : World) (φ0 : Emb) (nt : Nat) (ops : Array Oper) (rid0 : Nat) (F : Nat → Fr) (G : Nat → St) (V : Nat → Value) (κ : Nat → Nat) (fr0 : Fr)
    (S : Nat → Prop) (β : Nat) (K' : Kp) (φ : Emb) (pl : Nat → Pl) (a : Act) (w : World) : Prop where
  wr : WR nm K' base φ (G β) w
  ext : Emb.ext rid0 φ0 φ
  le : φ0.le φ
  nx : rid0 + ops.size ≤ (G β).next
  bnd : β ≤ ops.size
  beff : β = 0 ∨ ∃ e, β = e + 1 ∧ S e ∧ κ e = 2
  eff : ∀ j, S j → κ j = 2 → j < β
  closed : ∀ i o, ops[i]? = some o → S i → ∀ e, e ∈ o.after → Region.binds .any e = true → S e.on
  inr : ∀ j, S j → j < ops.size
  s1 : ∀ j o t, S j → ops[j]? = some o → o.dst = some t → VR nm φ (V j) (a.tmps.getD t undef)
  s2 : ∀ t, (∀ j o, S j → ops[j]? = some o → o.dst ≠ some t) → VR nm φ ((fr0.tm.get t).getD undef) (a.tmps.getD t undef)
  sz : a.tmps.size = nt
  mrk : MR nm φ fr0.marks a.defers
  nofresh : ∀ j, j < ops.size → κ j = 3 → ¬ S j → φ (rid0 + j) = none
  hid : ∀ j, S j → κ j = 3 → β ≤ j → ∃ u c, G (j + 1) = { G j with h := (G j).h.set (rid0 + j) u } ∧ u.own = true ∧ φ (rid0 + j) = some (pl j) ∧ K' (pl j).blk = some c ∧ OR nm φ w.heap (pl j) u ∧ K (pl j).blk = none ∧ base.heap.size ≤ (pl j).blk
  hinj : ∀ i j, S i → S j → κ i = 3 → κ j = 3 → β ≤ i → β ≤ j → i ≠ j → (pl i).blk ≠ (pl j).blk
  kh : ∀ b o, K b = some o → K' b = some o
  kd : ∀ b o, K' b = some o → K b = some o ∨ ∃ j, S j ∧ κ j = 3 ∧ β ≤ j ∧ (pl j).blk = b

section
variable {rec_ : Rec} {nt rid0 β : Nat} {ops : Array Oper} {φ0 : Emb} {F : Nat → Fr} {G : Nat → St} {V : Nat → Value} {κ : Nat → Nat} {fr0 : Fr} {S : Nat → Prop} {K' : Kp} {pl : Nat → Pl} {a : Act}

theorem StepT.same {i : Nat} {o : Oper} (h : StepT E rec_ nt ops rid0 F G V κ i o) (h2 : κ i ≠ 2) (h3 : κ i ≠ 3) : G (i + 1) = G i := by
  rcases h with ⟨_, _, _, h, _⟩ | ⟨_, _, _, _, _, h⟩ | ⟨h, _⟩ | ⟨h, _⟩
  · exact h
  · exact h
  · exact absurd h h3
  · exact absurd h h2

/-- What was kept aside is taken up, as far as a place. -/
theorem Inv.adopt (v : Inv E nm K base φ0 nt ops rid0 F G V κ fr0 S β K' φ pl a w) (hstep : ∀ i o, ops[i]? = some o → StepT E rec_ nt ops rid0 F G V κ i o) : ∀ m, β + m ≤ ops.size → (∀ j, β ≤ j → j < β + m → κ j ≠ 2 ∧ (κ j = 3 → S j)) →
    ∃ K'', WR nm K'' base φ (G (β + m)) w ∧ (∀ b o, K b = some o → K'' b = some o) ∧ (∀ b o, K'' b = some o → K b = some o ∨ ∃ j, S j ∧ κ j = 3 ∧ β + m ≤ j ∧ (pl j).blk = b) ∧
      (∀ j, S j → κ j = 3 → β + m ≤ j → K'' (pl j).blk = K' (pl j).blk) ∧ (G (β + m)).next = (G β).next := by
  intro m
  induction m with
  | zero => intro _ _; exact ⟨K', v.wr, v.kh, v.kd, fun _ _ _ _ => rfl, rfl⟩
  | succ m ih =>
    intro hm hj
    obtain ⟨K1, h1, h2, h3, h4, h5⟩ := ih (by omega) (fun j g1 g2 => hj j g1 (by omega))
    obtain ⟨c1, c2⟩ := hj (β + m) (by omega) (by omega)
    have hlt : β + m < ops.size := by omega
    have ho : ops[β + m]? = some ops[β + m] := Array.getElem?_eq_getElem hlt
    have hst := hstep _ _ ho
    rw [show β + (m + 1) = β + m + 1 from by omega]
    by_cases h3k : κ (β + m) = 3
    · obtain ⟨u, c, e1, e2, e3, e4, e5, e6, e7⟩ := v.hid (β + m) (c2 h3k) h3k (by omega)
      have hk1 : K1 (pl (β + m)).blk = some c := (h4 _ (c2 h3k) h3k (Nat.le_refl _)).trans e4
      refine ⟨fun B => if B = (pl (β + m)).blk then none else K1 B, ?_, ?_, ?_, ?_, ?_⟩
      · rw [e1]; exact h1.adopt e3 hk1 e5 e2 e7
      · intro b o hb
        show (if b = _ then none else K1 b) = some o
        rw [if_neg (by rintro rfl; rw [e6] at hb; cases hb)]
        exact h2 b o hb
      · intro b o hb
        have hb' : (if b = (pl (β + m)).blk then none else K1 b) = some o := hb
        split at hb'
        · cases hb'
        · rename_i hne
          rcases h3 b o hb' with g | ⟨j, g1, g2, g3, g4⟩
          · exact .inl g
          · refine .inr ⟨j, g1, g2, ?_, g4⟩
            rcases Nat.lt_or_ge (β + m) j with q | q
            · omega
            · have : j = β + m := by omega
              subst this; exact absurd g4.symm hne
      · intro j g1 g2 g3
        show (if (pl j).blk = _ then none else K1 _) = _
        rw [if_neg (v.hinj j (β + m) g1 (c2 h3k) g2 h3k (by omega) (by omega) (by omega))]
        exact h4 j g1 g2 (by omega)
      · rw [e1]; exact h5
    · rw [hst.same c1 h3k]
      refine ⟨K1, h1, h2, fun b o hb => ?_, fun j g1 g2 g3 => h4 j g1 g2 (by omega), h5⟩
      rcases h3 b o hb with g | ⟨j, g1, g2, g3, g4⟩
      · exact .inl g
      · refine .inr ⟨j, g1, g2, ?_, g4⟩
        rcases Nat.lt_or_ge (β + m) j with q | q
        · omega
        · have : j = β + m := by omega
          subst this; exact absurd g2 h3k

/-- The evaluator's slots. -/
structure Slots (ops : Array Oper) (F : Nat → Fr) (V : Nat → Value) (fr0 : Fr) (i : Nat) : Prop where
  s1 : ∀ j o t, j < i → ops[j]? = some o → o.dst = some t → ((F i).tm.get t).getD undef = V j
  s2 : ∀ t, (∀ j o, j < i → ops[j]? = some o → o.dst ≠ some t) → ((F i).tm.get t).getD undef = (fr0.tm.get t).getD undef
  mrk : (F i).marks = fr0.marks

theorem put_slot {fr fr' : Fr} {d : Option Tmp} {x : Value} (h : Fr.put nt fr d x = some fr') :
    (∀ t, d = some t → (fr'.tm.get t).getD undef = x ∧ t < nt) ∧ (∀ t, d ≠ some t → (fr'.tm.get t).getD undef = (fr.tm.get t).getD undef) ∧ fr'.marks = fr.marks := by
  unfold Fr.put at h
  cases d with
  | none => cases h; exact ⟨fun t e => (by cases e), fun _ _ => rfl, rfl⟩
  | some d =>
    simp only [] at h
    split at h
    · rename_i hd
      cases h
      refine ⟨fun t e => ?_, fun t e => ?_, rfl⟩
      · cases e
        refine ⟨?_, by simpa using hd⟩
        show ((fr.tm.set d x).get d).getD undef = x
        rw [T.get_set_same]; rfl
      · show ((fr.tm.set d x).get t).getD undef = _
        rw [T.get_set_other _ _ (by rintro rfl; exact e rfl)]
    · cases h

theorem doOp_put {o : Oper} {fr fr1 : Fr} {A1 : St} (h : doOp E rec_ nt o fr A = some (fr1, A1)) : ∃ x, Fr.put nt fr o.dst x = some fr1 := by
  unfold doOp at h
  split at h
  · cases h
  unfold doNx at h
  split at h
  · exact ⟨_, (doVal_put h).1⟩
  · exact ⟨_, (doVal_put h).1⟩
  · unfold doEnter at h
    split at h
    · exact ⟨_, (doVal_put h).1⟩
    · cases h
  · cases h

theorem StepT.putV {i : Nat} {o : Oper} (h : StepT E rec_ nt ops rid0 F G V κ i o) : ∃ x, Fr.put nt (F i) o.dst x = some (F (i + 1)) ∧ (∀ t, o.dst = some t → x = V i) := by
  rcases h with ⟨_, _, h, _, hv⟩ | ⟨_, _, _, _, h, _⟩ | ⟨_, _, _, _, h⟩ | ⟨_, _, _, _, h, hv⟩
  · exact ⟨_, h, fun _ _ => hv.symm⟩
  · exact ⟨_, h, fun _ _ => rfl⟩
  · exact ⟨_, h, fun _ _ => rfl⟩
  · obtain ⟨x, hx⟩ := doOp_put h
    refine ⟨x, hx, fun t ht => ?_⟩
    rw [hv, ht]
    exact (((put_slot hx).1 t ht).1).symm

theorem dst_ne (hr : regOk E ops = true) {i j : Nat} {x y : Oper} (hij : i ≠ j) (hi : ops[i]? = some x) (hj : ops[j]? = some y) {t : Tmp} (hx : x.dst = some t) : y.dst ≠ some t := by
  intro hy
  rcases Nat.lt_or_gt_of_ne hij with h | h
  · have := pair_at hr h hi hj
    simp [pairOk, brief, hx, hy, sameDst] at this
  · have := pair_at hr h hj hi
    simp [pairOk, brief, hx, hy, sameDst] at this

theorem slots_ok (hr : regOk E ops = true) (hstep : ∀ i o, ops[i]? = some o → StepT E rec_ nt ops rid0 F G V κ i o) (hF : F 0 = fr0) : ∀ i, i ≤ ops.size → Slots ops F V fr0 i
  | 0, _ => ⟨fun j o t h => by omega, fun t _ => by rw [hF], by rw [hF]⟩
  | i + 1, hi => by
    have hlt : i < ops.size := by omega
    have ho : ops[i]? = some ops[i] := Array.getElem?_eq_getElem hlt
    obtain ⟨x, hx, hxV⟩ := (hstep i _ ho).putV
    obtain ⟨p1, p2, p3⟩ := put_slot hx
    have ih := slots_ok hr hstep hF i (by omega)
    refine ⟨fun j o t hj hoj ht => ?_, fun t ht => ?_, p3.trans ih.mrk⟩
    · by_cases e : j = i
      · subst e
        rw [ho] at hoj; cases hoj
        rw [(p1 t ht).1, hxV t ht]
      · rw [p2 t (dst_ne hr e hoj ho ht)]
        exact ih.s1 j o t (by omega) hoj ht
    · rw [p2 t (fun e => ht i _ (Nat.lt_succ_self _) ho e)]
      exact ih.s2 t fun j o hj => ht j o (by omega)

/-- A slot that an operation looks at, when it may run. -/
theorem Inv.slot (v : Inv E nm K base φ0 nt ops rid0 F G V κ fr0 S β K' φ pl a w) (hr : regOk E ops = true) {i : Nat} {o : Oper} (sl : Slots ops F V fr0 i) (ho : ops[i]? = some o) (hS : ¬ S i)
    (hready : ∀ e, e ∈ o.after → Region.binds .any e = true → S e.on) {t : Tmp} (ht : t ∈ looks ops o) : VR nm φ (((F i).tm.get t).getD undef) (a.tmps.getD t undef) := by
  have hed : edgesOk ops = true := by unfold regOk at hr; rw [Bool.and_eq_true] at hr; exact hr.1
  have hit : ∀ (d : Option Tmp) (l : List Tmp), d = some t → t ∈ l → hits d l = true := by
    rintro d l rfl hl
    unfold hits
    rw [List.any_eq_true]
    exact ⟨t, hl, Nat.beq_refl t⟩
  by_cases hex : ∃ (j : Nat) (o' : Oper), ops[j]? = some o' ∧ o'.dst = some t
  · obtain ⟨j, o', hj, hd⟩ := hex
    rcases Nat.lt_or_ge j i with g | g
    · rw [sl.s1 j o' t g hj hd]
      refine v.s1 j o' t ?_ hj hd
      have hp := pair_at hr g hj ho
      unfold pairOk at hp
      simp only [brief, Bool.and_eq_true, Bool.or_eq_true] at hp
      rcases hp.2 with q | q
      · exact bef_closed hed S v.closed i j o ho hready q
      · have := hit o'.dst (looks ops o) hd ht
        rw [this] at q
        simp at q
    · rw [sl.s2 t (fun j' o'' hj' hoj' => dst_ne hr (by omega) hj hoj' hd)]
      refine v.s2 t fun j' o'' hj' hoj' e => ?_
      have hjj : j' = j := Classical.byContradiction fun hne => dst_ne hr (Ne.symm hne) hj hoj' hd e
      subst hjj
      rcases Nat.lt_or_ge i j' with q | q
      · have hp := pair_at hr q ho hj
        unfold pairOk at hp
        simp only [brief, Bool.and_eq_true, Bool.or_eq_true] at hp
        rcases hp.2 with k | k
        · exact hS (bef_closed hed S v.closed j' i o' hj (v.closed j' o' hj hj') k)
        · have := hit o'.dst (looks ops o) hd ht
          rw [this] at k
          simp at k
      · have : j' = i := by omega
        subst this; exact hS hj'
  · rw [sl.s2 t (fun j o' _ hj e => hex ⟨j, o', hj, e⟩)]
    exact v.s2 t fun j o' _ hj e => hex ⟨j, o', hj, e⟩

theorem guard_slot {fr : Fr} {o : Oper} (hs : ∀ t, t ∈ looks ops o → VR nm φ ((fr.tm.get t).getD undef) (a.tmps.getD t undef)) : Region.wanted o (yielded ops a.tmps) = guardOk ops o fr := by
  unfold Region.wanted guardOk
  cases hgd : o.guard with
  | none => rfl
  | some g =>
    obtain ⟨j, want⟩ := g
    simp only []
    unfold yielded
    cases hd : (ops[j]?).bind (·.dst) with
    | none => rfl
    | some t =>
      simp only [Option.bind_some]
      have ht := hs t (by unfold looks; rw [hgd]; simp [hd])
      cases h1 : fr.tm.get t with
      | none =>
        rw [h1] at ht
        simp only [Option.getD_none] at ht
        cases h2 : a.tmps[t]? with
        | none => rfl
        | some c =>
          have : a.tmps.getD t undef = c := by rw [Array.getD_eq_getD_getElem?, h2]; rfl
          rw [this] at ht
          cases ht
          rfl
      | some v =>
        rw [h1] at ht
        simp only [Option.getD_some] at ht
        cases h2 : a.tmps[t]? with
        | none =>
          have : a.tmps.getD t undef = undef := by rw [Array.getD_eq_getD_getElem?, h2]; rfl
          rw [this] at ht
          cases ht
          rfl
        | some c =>
          have : a.tmps.getD t undef = c := by rw [Array.getD_eq_getD_getElem?, h2]; rfl
          rw [this] at ht
          cases ht <;> first | rfl | (simp only []; cases want <;> rename_i b <;> cases b <;> rfl)

theorem ops_slot {fr : Fr} {o : Oper} (hg : Gl E φ) (hs : ∀ t, t ∈ looks ops o → VR nm φ ((fr.tm.get t).getD undef) (a.tmps.getD t undef)) (x : Operand) (hx : x ∈ o.op.operands.toList) (hl : litOk E x = true) :
    VR nm φ (evalO fr x) (a.eval x) := by
  cases x with
  | tmp t =>
    refine hs t ?_
    unfold looks
    refine List.mem_append_left _ (List.mem_filterMap.2 ⟨.tmp t, hx, rfl⟩)
  | const v => exact .of_plainV hl
  | global g =>
    obtain ⟨p, h1, h2, h3⟩ := hg g (by simpa [litOk] using hl)
    have := VR.ptr (nm := nm) (φ := φ) ⟨g, 0, none⟩ p h1 rfl
    simpa [evalO, Act.eval, h2, h3] using this
  | func f => exact .func' (.func f) .nil .nil

/-- An effect stands behind what is ahead of it and makes or changes something. -/
theorem ahead_eff (hr : regOk E ops = true) {i j : Nat} {x y : Oper} (hij : i < j) (hi : ops[i]? = some x) (hj : ops[j]? = some y) (hx : (isFloat E x = false ∧ isAlloc x = false) ∨ isAlloc x = true) (hy : isFloat E y = false ∧ isAlloc y = false) :
    (bef ops j).testBit i = true := by
  have hp := pair_at hr hij hi hj
  unfold pairOk at hp
  simp only [brief, Bool.and_eq_true, Bool.or_eq_true] at hp
  rcases hp.2 with q | q
  · exact q
  · rcases hx with ⟨h1, h2⟩ | h1 <;> simp [hy.1, hy.2, *] at q

theorem put_tmps {d : Option Tmp} {v' : Value} (hsz : a.tmps.size = nt) : (∀ t, d = some t → t < nt → (a.put d v').tmps.getD t undef = v') ∧ (∀ t, d ≠ some t → (a.put d v').tmps.getD t undef = a.tmps.getD t undef) ∧ (a.put d v').tmps.size = nt ∧ (a.put d v').defers = a.defers := by
  cases d with
  | none => exact ⟨fun t e => (by cases e), fun _ _ => rfl, hsz, rfl⟩
  | some d =>
    refine ⟨fun t e hlt => ?_, fun t e => ?_, by simp [Act.put, hsz], rfl⟩
    · cases e
      show (a.tmps.setIfInBounds d v').getD d undef = v'
      simp [Array.getD_eq_getD_getElem?, hsz, hlt]
    · show (a.tmps.setIfInBounds d v').getD t undef = _
      have : d ≠ t := by rintro rfl; exact e rfl
      simp [Array.getD_eq_getD_getElem?, this]

/-- One operation more is done. -/
theorem Inv.slots1 (v : Inv E nm K base φ0 nt ops rid0 F G V κ fr0 S β K' φ pl a w) (hr : regOk E ops = true) {i : Nat} {o : Oper} (ho : ops[i]? = some o) (hle : φ.le ψ) {v' : Value} {x : Value} {frx : Fr} (hp : Fr.put nt (F i) o.dst x = some frx) (hv : ∀ t, o.dst = some t → VR nm ψ (V i) v') :
    (∀ j o' t, (S j ∨ j = i) → ops[j]? = some o' → o'.dst = some t → VR nm ψ (V j) ((a.put o.dst v').tmps.getD t undef)) ∧
    (∀ t, (∀ j o', (S j ∨ j = i) → ops[j]? = some o' → o'.dst ≠ some t) → VR nm ψ ((fr0.tm.get t).getD undef) ((a.put o.dst v').tmps.getD t undef)) := by
  obtain ⟨q1, q2, _⟩ := put_slot hp
  obtain ⟨p1, p2, _⟩ := put_tmps (d := o.dst) (v' := v') v.sz
  refine ⟨fun j o' t hj hoj ht => ?_, fun t hall => ?_⟩
  · by_cases e : j = i
    · subst e
      rw [ho] at hoj; cases hoj
      rw [p1 t ht (q1 t ht).2]
      exact hv t ht
    · rw [p2 t (dst_ne hr e hoj ho ht)]
      exact (v.s1 j o' t (hj.resolve_right e) hoj ht).mono hle
  · rw [p2 t (hall i o (.inr rfl) ho)]
    exact (v.s2 t fun j o' hj => hall j o' (.inl hj)).mono hle

theorem Inv.step (ok : EnvOk E P nm) (hc : CallOK E P nm rec_.call) (hg0 : Gl E φ0) (v : Inv E nm K base φ0 nt ops rid0 F G V κ fr0 S β K' φ pl a w) (hr : regOk E ops = true)
    (hstep : ∀ i o, ops[i]? = some o → StepT E rec_ nt ops rid0 F G V κ i o) (hsl : ∀ i, i ≤ ops.size → Slots ops F V fr0 i)
    (hchk : ∀ i o, ops[i]? = some o → κ i = 1 → ∀ β', (β' = 0 ∨ ∃ e, β' = e + 1 ∧ e < ops.size ∧ κ e = 2) →
      (∀ k, k < ops.size → κ k = 2 → if k < β' then (bef ops k).testBit i = false else (bef ops i).testBit k = false) → ∃ A', opX E (G β') (evalO (F i)) o = some (.val (V i), A'))
    {i : Nat} {o : Oper} (ho : ops[i]? = some o) (hS : ¬ S i) (hready : ∀ e, e ∈ o.after → Region.binds .any e = true → S e.on) {Q : Exit → Act → World → Prop} :
    wpOp P ops Q i (fun a' w' => ∃ β' K'' φ' pl', Inv E nm K base φ0 nt ops rid0 F G V κ fr0 (fun j => S j ∨ j = i) β' K'' φ' pl' a' w') a w := by
  have hed : edgesOk ops = true := by unfold regOk at hr; rw [Bool.and_eq_true] at hr; exact hr.1
  have hlt : i < ops.size := (Array.getElem?_eq_some_iff.1 ho).1
  have sl := hsl i (by omega)
  have hlook : ∀ t, t ∈ looks ops o → VR nm φ (((F i).tm.get t).getD undef) (a.tmps.getD t undef) := fun t ht => v.slot hr sl ho hS hready ht
  have hg : Gl E φ := hg0.mono v.le
  have hρ := fun x hx hl => ops_slot (o := o) (fr := F i) hg hlook x hx hl
  have hw := guard_slot (ops := ops) (o := o) hlook
  have hcl' : ∀ j o', ops[j]? = some o' → (S j ∨ j = i) → ∀ e, e ∈ o'.after → Region.binds .any e = true → (S e.on ∨ e.on = i) := by
    intro j o' hj hSj e he hb
    rcases hSj with g | g
    · exact .inl (v.closed j o' hj g e he hb)
    · subst g; rw [ho] at hj; cases hj; exact .inl (hready e he hb)
  have hin' : ∀ j, (S j ∨ j = i) → j < ops.size := by
    rintro j (g | g)
    · exact v.inr j g
    · omega
  have hst := hstep i o ho
  obtain ⟨x0, hx0, hxV⟩ := hst.putV
  obtain ⟨_, _, p3, p4⟩ := put_tmps (d := o.dst) (v' := undef) v.sz
  unfold wpOp
  simp only [ho]
  rw [hw]
  rcases hst with ⟨hκ, hgo, hp, hG, hV⟩ | ⟨hκ, hgo, hfl, _, hp, hG⟩ | ⟨hκ, hgo, hal, ⟨A1, hop, hG⟩, hp⟩ | ⟨hκ, hgo, hfl, hal, hop, hV⟩
  · -- not wanted
    rw [hgo]
    simp only [Bool.false_eq_true, if_false]
    obtain ⟨t1, t2⟩ := v.slots1 hr ho (Emb.le_refl φ) (v' := undef) hp (fun t _ => by rw [hV]; exact .undef)
    refine ⟨β, K', φ, pl, { wr := v.wr, ext := v.ext, le := v.le, nx := v.nx, bnd := v.bnd, beff := ?_, eff := ?_, closed := hcl', inr := hin', s1 := t1, s2 := t2, sz := p3, mrk := by rw [p4]; exact v.mrk, nofresh := ?_, hid := ?_, hinj := ?_, kh := v.kh, kd := ?_ }⟩
    · rcases v.beff with g | ⟨e, g1, g2, g3⟩
      · exact .inl g
      · exact .inr ⟨e, g1, .inl g2, g3⟩
    · rintro j (g | g) hj
      · exact v.eff j g hj
      · subst g; rw [hκ] at hj; cases hj
    · intro j h1 h2 h3; exact v.nofresh j h1 h2 (fun g => h3 (.inl g))
    · rintro j (g | g) h1 h2
      · exact v.hid j g h1 h2
      · subst g; rw [hκ] at h1; cases h1
    · rintro j k (g | g) (g' | g') h1 h2
      · exact v.hinj j k g g' h1 h2
      · subst g'; rw [hκ] at h2; cases h2
      · subst g; rw [hκ] at h1; cases h1
      · subst g; rw [hκ] at h1; cases h1
    · intro b c hb
      rcases v.kd b c hb with g | ⟨j, g1, g2⟩
      · exact .inl g
      · exact .inr ⟨j, .inl g1, g2⟩
  · -- a value alone
    rw [hgo]
    simp only [if_true]
    left
    obtain ⟨A', hopβ⟩ := hchk i o ho hκ β (v.beff.imp id fun ⟨e, g1, g2, g3⟩ => ⟨e, g1, v.inr e g2, g3⟩) (fun k hk hk2 => by
      have hok : ops[k]? = some ops[k] := Array.getElem?_eq_getElem hk
      split
      · rename_i hkβ
        -- an effect that is done
        have hSk : S k := by
          rcases v.beff with g | ⟨e, g1, g2, g3⟩
          · omega
          · by_cases e1 : k = e
            · subst e1; exact g2
            · have hlt' : k < e := by omega
              have hes := v.inr e g2
              have hoe : ops[e]? = some ops[e] := Array.getElem?_eq_getElem hes
              have kk : ∀ z (hz : z < ops.size), κ z = 2 → isFloat E ops[z] = false ∧ isAlloc ops[z] = false := by
                intro z hz hz2
                rcases hstep z _ (Array.getElem?_eq_getElem hz) with ⟨q, _⟩ | ⟨q, _⟩ | ⟨q, _⟩ | ⟨_, _, q1, q2, _⟩
                · rw [hz2] at q; cases q
                · rw [hz2] at q; cases q
                · rw [hz2] at q; cases q
                · exact ⟨q1, q2⟩
              exact bef_closed hed S v.closed e k _ hoe (v.closed e _ hoe g2) (ahead_eff hr hlt' hok hoe (.inl (kk k hk hk2)) (kk e (v.inr e g2) g3))
        cases hb : (bef ops k).testBit i with
        | false => rfl
        | true => exact absurd (bef_closed hed S v.closed k i _ hok (v.closed k _ hok hSk) hb) hS
      · rename_i hkβ
        cases hb : (bef ops i).testBit k with
        | false => rfl
        | true => exact absurd (v.eff k (bef_closed hed S v.closed i k o ho hready hb) hk2) hkβ)
    have hA := float_same hfl hopβ
    subst hA
    obtain ⟨φ', w', g1, g2, g3, v', g4, g5⟩ := opX_rel ok v.wr hρ hopβ
    have hle := v.wr.le g1
    have hkeep : ∀ j, S j → κ j = 3 → β ≤ j → w'.heap[(pl j).blk]? = w.heap[(pl j).blk]? := by
      intro j h1 h2 h3
      obtain ⟨u, c, _, _, _, e4, _⟩ := v.hid j h1 h2 h3
      rw [v.wr.key _ _ e4, g3.key _ _ e4]
    unfold Oper.wp
    rw [g5]
    obtain ⟨_, _, p3, p4⟩ := put_tmps (d := o.dst) (v' := v') v.sz
    obtain ⟨t1, t2⟩ := v.slots1 hr ho hle (v' := v') hp (fun t _ => g4)
    refine ⟨β, K', φ', pl, { wr := g3, ext := ?_, le := Emb.le_trans v.le hle, nx := v.nx, bnd := v.bnd, beff := ?_, eff := ?_, closed := hcl', inr := hin', s1 := t1, s2 := t2, sz := p3, mrk := by rw [p4]; exact v.mrk.mono hle, nofresh := ?_, hid := ?_, hinj := ?_, kh := v.kh, kd := ?_ }⟩
    · exact Emb.ext_trans v.ext g1 (by have := v.nx; omega)
    · rcases v.beff with g | ⟨e, g1, g2, g3⟩
      · exact .inl g
      · exact .inr ⟨e, g1, .inl g2, g3⟩
    · rintro j (g | g) hj
      · exact v.eff j g hj
      · subst g; rw [hκ] at hj; cases hj
    · intro j h1 h2 h3
      rw [g1 _ (by have := v.nx; omega)]
      exact v.nofresh j h1 h2 (fun g => h3 (.inl g))
    · rintro j (g | g) h1 h2
      · obtain ⟨u, c, e1, e2, e3, e4, e5, e6⟩ := v.hid j g h1 h2
        exact ⟨u, c, e1, e2, hle _ _ e3, e4, e5.mono hle (hkeep j g h1 h2), e6⟩
      · subst g; rw [hκ] at h1; cases h1
    · rintro j k (g | g) (g' | g') h1 h2
      · exact v.hinj j k g g' h1 h2
      · subst g'; rw [hκ] at h2; cases h2
      · subst g; rw [hκ] at h1; cases h1
      · subst g; rw [hκ] at h1; cases h1
    · intro b c hb
      rcases v.kd b c hb with g | ⟨j, g1, g2⟩
      · exact .inl g
      · exact .inr ⟨j, .inl g1, g2⟩
  · -- a new block
    rw [hgo]
    simp only [if_true]
    left
    have hβi : β ≤ i := by
      rcases v.beff with g | ⟨e, g1, g2, g3⟩
      · omega
      · rcases Nat.lt_or_ge e i with q | q
        · omega
        · exfalso
          have hes := v.inr e g2
          have hne : e ≠ i := by rintro rfl; exact hS g2
          have hoe : ops[e]? = some ops[e] := Array.getElem?_eq_getElem hes
          have hke : isFloat E ops[e] = false ∧ isAlloc ops[e] = false := by
            rcases hstep e _ hoe with ⟨q, _⟩ | ⟨q, _⟩ | ⟨q, _⟩ | ⟨_, _, q1, q2, _⟩
            · rw [g3] at q; cases q
            · rw [g3] at q; cases q
            · rw [g3] at q; cases q
            · exact ⟨q1, q2⟩
          exact hS (bef_closed hed S v.closed e i _ hoe (v.closed e _ hoe g2) (ahead_eff hr (by omega) ho hoe (.inr hal) hke))
    have hopD : opD E { G i with next := rid0 + i } (evalO (F i)) o = some (.val (V i), A1) ∧ ∀ x, x ∈ o.op.operands.toList → litOk E x = true := by
      unfold opX at hop
      split at hop
      · rename_i hl
        exact ⟨hop, fun x hx => List.all_eq_true.1 hl x hx⟩
      · cases hop
    obtain ⟨fv, fu, e1, e2, c, v', p, f1, f2, f3⟩ := alloc_fresh (P := P) (nm := nm) (φ := φ) (w := w) (ρ' := a.eval) ok o hal (fun x hx => hρ x hx (hopD.2 x hx)) hopD.1
    simp only [Nx.val.injEq] at e1
    have hb := v.nofresh i hlt hκ hS
    obtain ⟨k1, k2, k3⟩ := f3 (rid0 + i) hb
    have hle := Emb.upd_le p hb
    have hbn : rid0 + i < (G β).next := by have := v.nx; omega
    have hW := v.wr.hide hb hbn p c f2
    have hfar : ∀ j, S j → κ j = 3 → β ≤ j → (pl j).blk ≠ p.blk ∧ (pl j).blk < w.heap.size := by
      intro j h1 h2 h3
      obtain ⟨u, c', _, _, e3, _⟩ := v.hid j h1 h2 h3
      have := v.wr.lt _ _ e3
      exact ⟨by omega, this⟩
    obtain ⟨pl', hpl, hpl0⟩ : ∃ pl' : Nat → Pl, (∀ j, j ≠ i → pl' j = pl j) ∧ pl' i = p := ⟨fun j => if j = i then p else pl j, fun j h => if_neg h, if_pos rfl⟩
    have hne : ∀ j, S j → j ≠ i := by rintro j h rfl; exact hS h
    have hKp : K p.blk = none := by
      cases hk : K p.blk with
      | none => rfl
      | some x =>
        have := v.wr.key _ _ (v.kh _ _ hk)
        rw [f2, Array.getElem?_eq_none (Nat.le_refl _)] at this
        cases this
    unfold Oper.wp
    rw [f1]
    obtain ⟨_, _, p3, p4⟩ := put_tmps (d := o.dst) (v' := v') v.sz
    obtain ⟨t1, t2⟩ := v.slots1 hr ho hle (v' := v') hp (fun t _ => by rw [e1]; exact k3)
    refine ⟨β, _, φ.upd (rid0 + i) p, pl', { wr := hW, ext := ?_, le := Emb.le_trans v.le hle, nx := v.nx, bnd := v.bnd, beff := ?_, eff := ?_, closed := hcl', inr := hin', s1 := t1, s2 := t2, sz := p3, mrk := by rw [p4]; exact v.mrk.mono hle, nofresh := ?_, hid := ?_, hinj := ?_, kh := ?_, kd := ?_ }⟩
    · intro b hbb
      rw [Emb.upd_other φ p (by omega)]
      exact v.ext b hbb
    · rcases v.beff with g | ⟨e, g1, g2, g3⟩
      · exact .inl g
      · exact .inr ⟨e, g1, .inl g2, g3⟩
    · rintro j (g | g) hj
      · exact v.eff j g hj
      · subst g; rw [hκ] at hj; cases hj
    · intro j h1 h2 h3
      rw [Emb.upd_other φ p (by intro e; exact h3 (.inr (by omega)))]
      exact v.nofresh j h1 h2 (fun g => h3 (.inl g))
    · rintro j (g | g) h1 h2
      · obtain ⟨u, c', e1, e2, e3, e4, e5, e6, e7⟩ := v.hid j g h1 h2
        obtain ⟨q1, q2⟩ := hfar j g h1 h2
        rw [hpl j (hne j g)]
        refine ⟨u, c', e1, e2, hle _ _ e3, ?_, e5.mono hle (getElem?_push_lt q2), e6, e7⟩
        show (if (pl j).blk = p.blk then some c else K' (pl j).blk) = some c'
        rw [if_neg q1]; exact e4
      · subst g
        rw [hpl0]
        refine ⟨fu (rid0 + j), c, ?_, k2, Emb.upd_same _ _ _, ?_, k1, hKp, by rw [f2]; exact v.wr.size⟩
        · rw [hG, e2]
        · show (if p.blk = p.blk then some c else K' p.blk) = some c
          rw [if_pos rfl]
    · rintro j k hj hk h1 h2 h3 h4 h5
      by_cases ej : j = i
      · subst ej
        have hSk := hk.resolve_right (Ne.symm h5)
        rw [hpl0, hpl k (Ne.symm h5)]
        exact Ne.symm (hfar k hSk h2 h4).1
      · have hSj := hj.resolve_right ej
        by_cases ek : k = i
        · subst ek
          rw [hpl0, hpl j ej]
          exact (hfar j hSj h1 h3).1
        · rw [hpl j ej, hpl k ek]
          exact v.hinj j k hSj (hk.resolve_right ek) h1 h2 h3 h4 h5
    · intro b x hb
      show (if b = p.blk then some c else K' b) = some x
      rw [if_neg (by rintro rfl; rw [hKp] at hb; cases hb)]
      exact v.kh b x hb
    · intro b x hb
      have hb' : (if b = p.blk then some c else K' b) = some x := hb
      split at hb'
      · rename_i e
        exact .inr ⟨i, .inr rfl, hκ, hβi, by rw [hpl0]; exact e.symm⟩
      · rcases v.kd b x hb' with g | ⟨j, g1, g2, g3, g4⟩
        · exact .inl g
        · exact .inr ⟨j, .inl g1, g2, g3, by rw [hpl j (hne j g1)]; exact g4⟩
  · -- an effect
    rw [hgo]
    simp only [if_true]
    left
    have kk : ∀ z (hz : z < ops.size), κ z = 2 → isFloat E ops[z] = false ∧ isAlloc ops[z] = false := by
      intro z hz hz2
      rcases hstep z _ (Array.getElem?_eq_getElem hz) with ⟨q, _⟩ | ⟨q, _⟩ | ⟨q, _⟩ | ⟨_, _, q1, q2, _⟩
      · rw [hz2] at q; cases q
      · rw [hz2] at q; cases q
      · rw [hz2] at q; cases q
      · exact ⟨q1, q2⟩
    have ka : ∀ z (hz : z < ops.size), κ z = 3 → isAlloc ops[z] = true := by
      intro z hz hz2
      rcases hstep z _ (Array.getElem?_eq_getElem hz) with ⟨q, _⟩ | ⟨q, _⟩ | ⟨_, _, q, _⟩ | ⟨q, _⟩
      · rw [hz2] at q; cases q
      · rw [hz2] at q; cases q
      · exact q
      · rw [hz2] at q; cases q
    have hβi : β ≤ i := by
      rcases v.beff with g | ⟨e, g1, g2, g3⟩
      · omega
      · rcases Nat.lt_or_ge e i with q | q
        · omega
        · exfalso
          have hes := v.inr e g2
          have hne : e ≠ i := by rintro rfl; exact hS g2
          have hoe : ops[e]? = some ops[e] := Array.getElem?_eq_getElem hes
          exact hS (bef_closed hed S v.closed e i _ hoe (v.closed e _ hoe g2) (ahead_eff hr (by omega) ho hoe (.inl ⟨hfl, hal⟩) (kk e hes g3)))
    obtain ⟨K'', h1, h2, h3, h4, h5⟩ := v.adopt hstep (i - β) (by omega) (fun j g1 g2 => by
      have hj : j < ops.size := by omega
      have hoj : ops[j]? = some ops[j] := Array.getElem?_eq_getElem hj
      refine ⟨fun q => ?_, fun q => ?_⟩
      · have := v.eff j (bef_closed hed S v.closed i j o ho hready (ahead_eff hr (by omega) hoj ho (.inl (kk j hj q)) ⟨hfl, hal⟩)) q
        omega
      · exact bef_closed hed S v.closed i j o ho hready (ahead_eff hr (by omega) hoj ho (.inr (ka j hj q)) ⟨hfl, hal⟩))
    rw [show β + (i - β) = i from by omega] at h1 h3 h4 h5
    refine doOp_val ok hc h1 hg hρ hop ?_
    intro x v' φ' w' g1 g2 g3 g4 g5
    have hle := h1.le g1
    have hne : ∀ j, S j → j ≠ i := by rintro j h rfl; exact hS h
    have hkeep : ∀ j c, S j → κ j = 3 → i ≤ j → K'' (pl j).blk = some c → w'.heap[(pl j).blk]? = w.heap[(pl j).blk]? := by
      intro j c _ _ _ hk
      rw [h1.key _ _ hk, g3.key _ _ hk]
    obtain ⟨_, _, p3, p4⟩ := put_tmps (d := o.dst) (v' := v') v.sz
    obtain ⟨t1, t2⟩ := v.slots1 hr ho hle (v' := v') g5 (fun t ht => by
      rw [hV, ht]
      show VR nm φ' (((F (i + 1)).tm.get t).getD undef) v'
      rw [((put_slot g5).1 t ht).1]
      exact g4)
    refine ⟨i + 1, K'', φ', pl, { wr := g3, ext := ?_, le := Emb.le_trans v.le hle, nx := ?_, bnd := hlt, beff := .inr ⟨i, rfl, .inr rfl, hκ⟩, eff := ?_, closed := hcl', inr := hin', s1 := t1, s2 := t2, sz := p3, mrk := by rw [p4]; exact v.mrk.mono hle, nofresh := ?_, hid := ?_, hinj := ?_, kh := h2, kd := ?_ }⟩
    · exact Emb.ext_trans v.ext g1 (by have := v.nx; omega)
    · have := v.nx; omega
    · rintro j (g | g) hj
      · have := v.eff j g hj; omega
      · omega
    · intro j q1 q2 q3
      rw [g1 _ (by have := v.nx; omega)]
      exact v.nofresh j q1 q2 (fun g => q3 (.inl g))
    · rintro j (g | g) q1 q2
      · obtain ⟨u, c, e1, e2, e3, e4, e5, e6, e7⟩ := v.hid j g q1 (by omega)
        have hk : K'' (pl j).blk = some c := (h4 j g q1 (by omega)).trans e4
        exact ⟨u, c, e1, e2, hle _ _ e3, hk, e5.mono hle (hkeep j c g q1 (by omega) hk), e6, e7⟩
      · subst g; rw [hκ] at q1; cases q1
    · rintro j k (g | g) (g' | g') q1 q2 q3 q4
      · exact v.hinj j k g g' q1 q2 (by omega) (by omega)
      · subst g'; rw [hκ] at q2; cases q2
      · subst g; rw [hκ] at q1; cases q1
      · subst g; rw [hκ] at q1; cases q1
    · intro b c hb
      rcases h3 b c hb with g | ⟨j, q1, q2, q3, q4⟩
      · exact .inl g
      · exact .inr ⟨j, .inl q1, q2, by have := hne j q1; omega, q4⟩

/-- All is done. -/
theorem Inv.done (v : Inv E nm K base φ0 nt ops rid0 F G V κ fr0 S β K' φ pl a w) (hstep : ∀ i o, ops[i]? = some o → StepT E rec_ nt ops rid0 F G V κ i o) (hsl : Slots ops F V fr0 ops.size) (hall : ∀ i, i < ops.size → S i)
    (hA : A.next = rid0) : Aft nm K base φ0 A nt (F ops.size) (G ops.size) a w := by
  obtain ⟨K'', h1, h2, h3, h4, h5⟩ := v.adopt hstep (ops.size - β) (by have := v.bnd; omega) (fun j g1 g2 => by
    have hj : j < ops.size := by omega
    refine ⟨fun q => ?_, fun _ => hall j hj⟩
    have := v.eff j (hall j hj) q
    omega)
  have hb := v.bnd
  rw [show β + (ops.size - β) = ops.size from by omega] at h1 h3 h5
  have hK : K'' = K := by
    funext b
    cases hk : K'' b with
    | some c =>
      rcases h3 b c hk with g | ⟨j, g1, g2, g3, g4⟩
      · exact g.symm
      · have := v.inr j g1; omega
    | none =>
      cases hk2 : K b with
      | none => rfl
      | some c => rw [h2 b c hk2] at hk; cases hk
  subst hK
  refine ⟨φ, by rw [hA]; exact v.ext, by rw [hA, h5]; have := v.nx; omega, h1, ⟨v.sz, fun t => ?_, by rw [hsl.mrk]; exact v.mrk⟩⟩
  by_cases hex : ∃ (j : Nat) (o' : Oper), ops[j]? = some o' ∧ o'.dst = some t
  · obtain ⟨j, o', hj, hd⟩ := hex
    have hlt := (Array.getElem?_eq_some_iff.1 hj).1
    rw [hsl.s1 j o' t hlt hj hd]
    exact v.s1 j o' t (hall j hlt) hj hd
  · rw [hsl.s2 t (fun j o' _ hj e => hex ⟨j, o', hj, e⟩)]
    exact v.s2 t fun j o' _ hj e => hex ⟨j, o', hj, e⟩
end
end
end Go.AM

namespace Go.AM
section
variable {E : Env} {P : Program} {nm : Nm} {K : Kp} {base : World} {φ ψ : Emb} {A A' : St} {w : World}

theorem getD_flip {l : Array Bool} {i : Nat} (h : i < l.size) (d d' : Bool) : l.getD i d = l.getD i d' := by simp [Array.getD_eq_getD_getElem?, h]

def unl (n : Nat) (l : Array Bool) : Nat := (List.range n).countP fun i => !l.getD i true

theorem countP_less {p q : Nat → Bool} : ∀ (l : List Nat), (∀ x, x ∈ l → q x = true → p x = true) → (∃ x, x ∈ l ∧ p x = true ∧ q x = false) → l.countP q < l.countP p
  | [], _, h => by obtain ⟨x, hx, _⟩ := h; cases hx
  | y :: l, hle, hex => by
    have hmono : l.countP q ≤ l.countP p := List.countP_mono_left fun x hx => hle x (by simp [hx])
    rw [List.countP_cons, List.countP_cons]
    obtain ⟨x, hx, h1, h2⟩ := hex
    rcases List.mem_cons.1 hx with e | e
    · subst e
      rw [h1, h2]; simp; omega
    · have := countP_less l (fun x hx => hle x (by simp [hx])) ⟨x, e, h1, h2⟩
      have hy := hle y (by simp)
      cases hq : q y with
      | false => simp; omega
      | true => rw [hy hq]; simp; omega

theorem unl_set {n i : Nat} {l : Array Bool} (hs : l.size = n) (hi : i < n) (hf : l.getD i true = false) : unl n (l.setIfInBounds i true) < unl n l := by
  refine countP_less _ (fun x hx h => ?_) ⟨i, by simpa using hi, by rw [hf]; rfl, ?_⟩
  · by_cases e : i = x
    · subst e; rw [hf]; rfl
    · rwa [getD_set_ne true e] at h
  · simp [Array.getD_eq_getD_getElem?, hs, hi]

variable {rec_ : Rec} {nt rid0 : Nat} {ops : Array Oper} {φ0 : Emb} {F : Nat → Fr} {G : Nat → St} {V : Nat → Value} {κ : Nat → Nat} {fr0 : Fr}

theorem any_ok (ok : EnvOk E P nm) (hc : CallOK E P nm rec_.call) (hg0 : Gl E φ0) (hr : regOk E ops = true)
    (hstep : ∀ i o, ops[i]? = some o → StepT E rec_ nt ops rid0 F G V κ i o) (hsl : ∀ i, i ≤ ops.size → Slots ops F V fr0 i)
    (hchk : ∀ i o, ops[i]? = some o → κ i = 1 → ∀ β', (β' = 0 ∨ ∃ e, β' = e + 1 ∧ e < ops.size ∧ κ e = 2) →
      (∀ k, k < ops.size → κ k = 2 → if k < β' then (bef ops k).testBit i = false else (bef ops i).testBit k = false) → ∃ A', opX E (G β') (evalO (F i)) o = some (.val (V i), A'))
    {Q : Exit → Act → World → Prop} (hA : A.next = rid0) (hQ : ∀ a1 w1, Aft nm K base φ0 A nt (F ops.size) (G ops.size) a1 w1 → Q .normal a1 w1) :
    ∀ (fuel : Nat) (listed : Array Bool) (a : Act) (w : World) (β : Nat) (K' : Kp) (φ : Emb) (pl : Nat → Pl), Inv E nm K base φ0 nt ops rid0 F G V κ fr0 (fun j => listed.getD j false = true) β K' φ pl a w →
      listed.size = ops.size → unl ops.size listed ≤ fuel → wpAny P .any ops Q fuel listed a w := by
  have hed : edgesOk ops = true := by unfold regOk at hr; rw [Bool.and_eq_true] at hr; exact hr.1
  have edge : ∀ (i : Nat) (o : Oper), ops[i]? = some o → ∀ e, e ∈ o.after → Region.binds .any e = true → e.on < i := by
    intro i o ho e he hb
    unfold edgesOk at hed
    rw [List.all_eq_true] at hed
    have := hed (o, i) (by
      rw [List.mem_zipIdx_iff_getElem?]
      simpa using ho)
    simp only [List.all_eq_true, Bool.or_eq_true, Bool.not_eq_true'] at this
    rcases this e (by simpa using he) with q | q
    · rw [hb] at q; cases q
    · simpa using q
  have fin : ∀ (listed : Array Bool) (a : Act) (w : World) (β : Nat) (K' : Kp) (φ : Emb) (pl : Nat → Pl), Inv E nm K base φ0 nt ops rid0 F G V κ fr0 (fun j => listed.getD j false = true) β K' φ pl a w →
      (∀ i, i < ops.size → listed.getD i false = true) → Q .normal a w := fun listed a w β K' φ pl v hall => hQ a w (v.done hstep (hsl _ (Nat.le_refl _)) hall hA)
  have allof : ∀ (listed : Array Bool), listed.size = ops.size → Region.ready .any ops listed = [] → ∀ i, i < ops.size → listed.getD i false = true := by
    intro listed hs hnil i
    induction i using Nat.strongRecOn with
    | _ i ih =>
      intro hi
      cases hv : listed.getD i false with
      | true => rfl
      | false =>
        exfalso
        have ho : ops[i]? = some ops[i] := Array.getElem?_eq_getElem hi
        have : i ∈ Region.ready .any ops listed := mem_ready.2 ⟨by rw [getD_flip (by omega) true false]; exact hv, _, ho, fun e he hb => ih e.on (edge i _ ho e he hb) (by have := edge i _ ho e he hb; omega)⟩
        rw [hnil] at this; cases this
  intro fuel
  induction fuel with
  | zero =>
    intro listed a w β K' φ pl v hs hu
    have hall : ∀ i, i < ops.size → listed.getD i false = true := by
      intro i hi
      have h0 : unl ops.size listed = 0 := by omega
      unfold unl at h0
      rw [List.countP_eq_zero] at h0
      have := h0 i (by simpa using hi)
      rw [getD_flip (by omega) false true]
      simpa using this
    refine ⟨?_, fin listed a w β K' φ pl v hall⟩
    cases hq : Region.ready .any ops listed with
    | nil => rfl
    | cons j l =>
      exfalso
      have hj : j ∈ Region.ready .any ops listed := by rw [hq]; simp
      obtain ⟨h1, o, h2, _⟩ := mem_ready.1 hj
      have hlt := (Array.getElem?_eq_some_iff.1 h2).1
      rw [getD_flip (by omega) true false, hall j hlt] at h1
      cases h1
  | succ fuel ih =>
    intro listed a w β K' φ pl v hs hu
    refine ⟨fun hnil => fin listed a w β K' φ pl v (allof listed hs hnil), fun i hi => ?_⟩
    obtain ⟨h1, o, h2, h3⟩ := mem_ready.1 hi
    have hlt := (Array.getElem?_eq_some_iff.1 h2).1
    have hS : ¬ listed.getD i false = true := by rw [getD_flip (by omega) false true, h1]; simp
    refine wpOp_mono ?_ (v.step (P := P) ok hc hg0 hr hstep hsl hchk h2 hS h3)
    rintro a' w' ⟨β', K'', φ', pl', v'⟩
    refine ih (listed.setIfInBounds i true) a' w' β' K'' φ' pl' ?_ (by simp [hs]) ?_
    · have : (fun j => (listed.setIfInBounds i true).getD j false = true) = (fun j => listed.getD j false = true ∨ j = i) := by
        funext j
        apply propext
        by_cases e : i = j
        · subst e
          simp [Array.getD_eq_getD_getElem?, hs, hlt]
        · rw [getD_set_ne false e]
          constructor
          · exact .inl
          · rintro (g | g)
            · exact g
            · exact absurd g.symm e
      rw [this]; exact v'
    · have := unl_set hs hlt h1
      omega

theorem drawRegion0_ok (ok : EnvOk E P nm) (hc : CallOK E P nm rec_.call) {Q : Exit → Act → World → Prop} {fr fr1 : Fr} {A1 : St} {a : Act}
    (h : WR nm K base φ A w) (hg : Gl E φ) (hf : FrR nm φ nt fr a) (hx : drawRegion0 E rec_ nt ops fr A = some (fr1, A1))
    (hQ : ∀ a1 w1, Aft nm K base φ A nt fr1 A1 a1 w1 → Q .normal a1 w1) : wpAny P .any ops Q ops.size (Array.replicate ops.size false) a { w with drawn := w.drawn + 1 } := by
  unfold drawRegion0 at hx
  split at hx
  case isFalse => cases hx
  rename_i hr
  obtain ⟨F, G, V, κ, Ks, HS, L, t⟩ := trace_ok (rid0 := A.next) _ 0 fr { A with next := A.next + ops.size } [] [(0, { A with next := A.next + ops.size })] [] fr1 A1 hx
  have hlen : (ops.toList.zip (Region.before ops).toList).length = ops.size := by simp [before_size]
  have hat : ∀ i o, ops[i]? = some o → (ops.toList.zip (Region.before ops).toList)[i]? = some (o, bef ops i) := by
    intro i o ho
    have hlt := (Array.getElem?_eq_some_iff.1 ho).1
    have hlt2 : i < (Region.before ops).size := by rw [before_size]; exact hlt
    have h2 : (Region.before ops).toList[i]? = some (bef ops i) := by
      unfold bef
      simp [Array.getD_eq_getD_getElem?, hlt2]
    exact List.getElem?_zip_eq_some.2 ⟨by simpa using ho, h2⟩
  have hstep : ∀ i o, ops[i]? = some o → StepT E rec_ nt ops A.next F G V κ i o := fun i o ho => by
    have := t.step i o _ (hat i o ho)
    rwa [Nat.zero_add] at this
  have hF : F 0 = fr := t.f0
  have hG : G 0 = { A with next := A.next + ops.size } := t.g0
  have hFn : F ops.size = fr1 := by have := t.fn; rwa [hlen, Nat.zero_add] at this
  have hGn : G ops.size = A1 := by have := t.gn; rwa [hlen, Nat.zero_add] at this
  have hsl := fun i hi => slots_ok (fr0 := fr) hr hstep hF i hi
  have hchk : ∀ i o, ops[i]? = some o → κ i = 1 → ∀ β', (β' = 0 ∨ ∃ e, β' = e + 1 ∧ e < ops.size ∧ κ e = 2) →
      (∀ k, k < ops.size → κ k = 2 → if k < β' then (bef ops k).testBit i = false else (bef ops i).testBit k = false) → ∃ A', opX E (G β') (evalO (F i)) o = some (.val (V i), A') := by
    intro i o ho hκ β' hβ' hall
    have hL := t.ent i o _ (hat i o ho)
    have hc := chkAll_spec _ 0 (by simpa using t.chk) i _ hL
    rw [Nat.zero_add] at hc
    unfold chkEnt at hc
    simp only [hκ, List.all_eq_true, Bool.or_eq_true, Bool.not_eq_true'] at hc
    have hmem : (β', G β') ∈ HS := by
      rcases hβ' with e | ⟨e, g1, g2, g3⟩
      · subst e; rw [hG]; exact t.hs _ (by simp)
      · subst g1; exact t.hs2 e (Nat.zero_le _) (by rw [hlen]; omega) g3
    have hal : allowed i (bef ops i) (Region.before ops).toList Ks β' = true := by
      unfold allowed
      rw [List.all_eq_true]
      intro k hk
      rcases (t.ks k).1 hk with g | ⟨_, g2, g3⟩
      · cases g
      · rw [hlen, Nat.zero_add] at g2
        have hb : (Region.before ops).toList.getD k 0 = bef ops k := by unfold bef; simp [Array.getD_eq_getD_getElem?, List.getD_eq_getElem?_getD]
        have := hall k g2 g3
        by_cases q : k < β'
        · rw [if_pos q] at this
          rw [if_pos (by simpa using q), hb, this]; rfl
        · rw [if_neg q] at this
          rw [if_neg (by simpa using q), this]; rfl
    rcases hc _ hmem with g | g
    · rw [hal] at g; cases g
    · unfold sameAt at g
      split at g
      · rename_i v A' hop
        exact ⟨A', by rw [hop, veq_eq _ _ _ g]⟩
      · cases g
  refine any_ok (φ0 := φ) (fr0 := fr) ok hc hg hr hstep hsl hchk rfl (fun a1 w1 hA => hQ a1 w1 (by rw [← hFn, ← hGn]; exact hA)) ops.size (Array.replicate ops.size false) a { w with drawn := w.drawn + 1 } 0 K φ (fun _ => plNew w 0) ?_ (by simp) ?_
  · have hno : ∀ j, ¬ (Array.replicate ops.size false).getD j false = true := by
      intro j
      rw [Array.getD_eq_getD_getElem?, Array.getElem?_replicate]
      split <;> simp
    refine { wr := ?_, ext := Emb.ext_refl _ _, le := Emb.le_refl _, nx := ?_, bnd := Nat.zero_le _, beff := .inl rfl, eff := fun j hj => absurd hj (hno j), closed := fun i o _ hi => absurd hi (hno i), inr := fun j hj => absurd hj (hno j), s1 := fun j o t hj => absurd hj (hno j), s2 := fun t _ => hf.tm t, sz := hf.size, mrk := hf.marks, nofresh := fun j _ _ _ => h.dom _ (Nat.le_add_right _ _), hid := fun j hj => absurd hj (hno j), hinj := fun i j hi => absurd hi (hno i), kh := fun b o hb => hb, kd := fun b o hb => .inl hb }
    · rw [hG]
      have hd := h.drew (w.drawn + 1)
      exact { dom := fun b hb => h.dom b (by have hb' : A.next + ops.size ≤ b := hb; omega), lt := hd.lt, obj := hd.obj, key := hd.key, sep := hd.sep, tip := hd.tip, grp := hd.grp, env := hd.env, size := hd.size, old := hd.old }
    · rw [hG]; exact Nat.le_refl _
  · unfold unl
    refine Nat.le_trans List.countP_le_length ?_
    simp
theorem drawRegion_ok (ok : EnvOk E P nm) (hc : CallOK E P nm rec_.call) {Q : Exit → Act → World → Prop} {fr fr1 : Fr} {A1 : St} {a : Act} {id : Nat}
    (h : WR nm K base φ A w) (hg : Gl E φ) (hf : FrR nm φ nt fr a) (hx : drawRegion E rec_ nt ops fr A = some (fr1, A1))
    (hQ : ∀ a1 w1, Aft nm K base φ A nt fr1 A1 a1 w1 → Q .normal a1 w1) : (Code.region id ops true).wp P Q a w := by
  unfold drawRegion at hx
  have key := drawRegion0_ok (Q := Q) ok hc h hg hf hx hQ
  refine wp_region_any ok.mix ?_
  rcases best_cases E ops with e | ⟨π, hp, e⟩
  · rw [e] at key; exact key
  · rw [e] at key
    have t := permOk_spec hp
    rw [permOps_size] at key
    refine any_perm t _ _ _ _ _ (by simp) (by simp) (fun i hi d => ?_) key
    have hb := (t.b i hi).1
    simp [Array.getD_eq_getD_getElem?, hi, hb]
end
end Go.AM
