/- Regions in whatever order: what the evaluator's one run shows, the order that binds. -/
import Derived.Test.YtkhgbpokoaklpaaGreatDoorAmVeq
namespace Go.AM
section
variable {E : Env} {P : Program} {nm : Nm} {ops : Array Oper}

/-- What binds, closed. -/
theorem foldl_push (g : Array Nat → Oper → Nat) : ∀ (l : List Oper) (acc : Array Nat),
    (l.foldl (fun acc o => acc.push (g acc o)) acc).size = acc.size + l.length ∧ (∀ k, k < acc.size → (l.foldl (fun acc o => acc.push (g acc o)) acc).getD k 0 = acc.getD k 0) ∧
    ∀ m o, l[m]? = some o → ∃ acc' : Array Nat, acc'.size = acc.size + m ∧ (∀ k, k < acc'.size → (l.foldl (fun acc o => acc.push (g acc o)) acc).getD k 0 = acc'.getD k 0) ∧
      (l.foldl (fun acc o => acc.push (g acc o)) acc).getD (acc.size + m) 0 = g acc' o
  | [], acc => ⟨rfl, fun _ _ => rfl, fun m o h => by simp at h⟩
  | x :: l, acc => by
    obtain ⟨h1, h2, h3⟩ := foldl_push g l (acc.push (g acc x))
    have hp : ∀ k, k < acc.size → (acc.push (g acc x)).getD k 0 = acc.getD k 0 := by
      intro k hk
      simp only [Array.getD_eq_getD_getElem?, Array.getElem?_push]
      rw [if_neg (by omega)]
    simp only [List.foldl_cons, List.length_cons]
    refine ⟨by rw [h1]; simp; omega, fun k hk => by rw [h2 k (by simp; omega), hp k hk], fun m o hm => ?_⟩
    cases m with
    | zero =>
      simp only [List.getElem?_cons_zero, Option.some.injEq] at hm
      subst hm
      refine ⟨acc, rfl, fun k hk => by rw [h2 k (by simp; omega), hp k hk], ?_⟩
      rw [Nat.add_zero, h2 acc.size (by simp)]
      simp [Array.getD_eq_getD_getElem?]
    | succ m =>
      obtain ⟨acc', g1, g2, g3⟩ := h3 m o (by simpa using hm)
      refine ⟨acc', by rw [g1]; simp; omega, g2, ?_⟩
      rw [Array.size_push] at g3
      rw [show acc.size + (m + 1) = acc.size + 1 + m from by omega]
      exact g3

theorem after_bits (acc : Array Nat) (j : Nat) : ∀ (l : List Edge) (s : Nat), (l.foldl (fun s e => if Region.binds .any e then s ||| 2 ^ e.on ||| acc.getD e.on 0 else s) s).testBit j = true →
    s.testBit j = true ∨ ∃ e, e ∈ l ∧ Region.binds .any e = true ∧ (e.on = j ∨ (acc.getD e.on 0).testBit j = true)
  | [], s, h => .inl h
  | e :: l, s, h => by
    rw [List.foldl_cons] at h
    rcases after_bits acc j l _ h with g | ⟨e', g1, g2, g3⟩
    · split at g
      · rename_i hb
        rw [Nat.testBit_or, Nat.testBit_or] at g
        simp only [Bool.or_eq_true] at g
        rcases g with (g | g) | g
        · exact .inl g
        · right
          refine ⟨e, by simp, hb, .inl ?_⟩
          rw [Nat.testBit_two_pow] at g
          simpa using g
        · exact .inr ⟨e, by simp, hb, .inr g⟩
      · exact .inl g
    · exact .inr ⟨e', by simp [g1], g2, g3⟩

def bef (ops : Array Oper) (i : Nat) : Nat := (Region.before ops).getD i 0

theorem before_size : (Region.before ops).size = ops.size := by
  unfold Region.before
  rw [← Array.foldl_toList]
  have := (foldl_push (fun acc o => o.after.foldl (fun s e => if Region.binds .any e then s ||| 2 ^ e.on ||| acc.getD e.on 0 else s) 0) ops.toList #[]).1
  simpa using this

theorem bef_spec (hed : edgesOk ops = true) {i j : Nat} {o : Oper} (ho : ops[i]? = some o) (hb : (bef ops i).testBit j = true) :
    ∃ e, e ∈ o.after ∧ Region.binds .any e = true ∧ e.on < i ∧ (e.on = j ∨ (bef ops e.on).testBit j = true) := by
  obtain ⟨acc', g1, g2, g3⟩ := (foldl_push (fun acc o => o.after.foldl (fun s e => if Region.binds .any e then s ||| 2 ^ e.on ||| acc.getD e.on 0 else s) 0) ops.toList #[]).2.2 i o (by simpa using ho)
  have hbe : ∀ k, bef ops k = (ops.toList.foldl (fun acc o => acc.push (o.after.foldl (fun s e => if Region.binds .any e then s ||| 2 ^ e.on ||| acc.getD e.on 0 else s) 0)) #[]).getD k 0 := by
    intro k
    unfold bef Region.before
    rw [← Array.foldl_toList]
  have hsz : acc'.size = i := by simpa using g1
  have h0 : bef ops i = o.after.foldl (fun s e => if Region.binds .any e then s ||| 2 ^ e.on ||| acc'.getD e.on 0 else s) 0 := by
    rw [hbe i]
    have : (#[] : Array Nat).size + i = i := by simp
    rw [this] at g3
    exact g3
  rw [h0, ← Array.foldl_toList] at hb
  rcases after_bits acc' j _ _ hb with g | ⟨e, k1, k2, k3⟩
  · simp at g
  · have hlt : e.on < i := by
      unfold edgesOk at hed
      rw [List.all_eq_true] at hed
      have := hed (o, i) (by
        rw [List.mem_zipIdx_iff_getElem?]
        simpa using ho)
      simp only [List.all_eq_true, Bool.or_eq_true, Bool.not_eq_true'] at this
      rcases this e k1 with q | q
      · rw [k2] at q; cases q
      · simpa using q
    refine ⟨e, by simpa using k1, k2, hlt, ?_⟩
    rcases k3 with k | k
    · exact .inl k
    · right
      rw [hbe e.on, g2 e.on (by omega)]
      exact k

theorem bef_closed (hed : edgesOk ops = true) (S : Nat → Prop) (hcl : ∀ i o, ops[i]? = some o → S i → ∀ e, e ∈ o.after → Region.binds .any e = true → S e.on) :
    ∀ (i j : Nat) (o : Oper), ops[i]? = some o → (∀ e, e ∈ o.after → Region.binds .any e = true → S e.on) → (bef ops i).testBit j = true → S j := by
  intro i
  induction i using Nat.strongRecOn with
  | _ i ih =>
    intro j o ho hS hb
    obtain ⟨e, h1, h2, h3, h4⟩ := bef_spec hed ho hb
    have hSe := hS e h1 h2
    rcases h4 with h4 | h4
    · rw [← h4]; exact hSe
    · have hlt : e.on < ops.size := by have := (Array.getElem?_eq_some_iff.1 ho).1; omega
      have hoe : ops[e.on]? = some ops[e.on] := Array.getElem?_eq_getElem hlt
      exact ih e.on h3 j _ hoe (fun e' => hcl e.on _ hoe hSe e') h4

theorem pairs_spec : ∀ (l : List Brief) (s : Nat), pairsOk s l = true → ∀ (i j : Nat) (a b : Brief), i < j → l[i]? = some a → l[j]? = some b → pairOk (s + i) a b = true
  | [], s, _, i, j, a, b, _, h, _ => by simp at h
  | x :: l, s, hp, i, j, a, b, hij, hi, hj => by
    simp only [pairsOk, Bool.and_eq_true, List.all_eq_true] at hp
    cases j with
    | zero => omega
    | succ j =>
      have hj' : l[j]? = some b := by simpa using hj
      cases i with
      | zero =>
        simp only [List.getElem?_cons_zero, Option.some.injEq] at hi
        subst hi
        exact hp.1 b (List.mem_of_getElem? hj')
      | succ i =>
        have := pairs_spec l (s + 1) hp.2 i j a b (by omega) (by simpa using hi) hj'
        rwa [show s + 1 + i = s + (i + 1) from by omega] at this

def brief (E : Env) (ops : Array Oper) (o : Oper) (i : Nat) : Brief := { dst := o.dst, see := looks ops o, eff := !isFloat E o && !isAlloc o, alc := isAlloc o, bef := bef ops i }

theorem briefs_get {i : Nat} {o : Oper} (ho : ops[i]? = some o) : (briefs E ops)[i]? = some (brief E ops o i) := by
  have hlt := (Array.getElem?_eq_some_iff.1 ho).1
  have h1 : ops.toList[i]? = some o := by simpa using ho
  have hlt2 : i < (Region.before ops).size := by rw [before_size]; exact hlt
  have h2 : (Region.before ops).toList[i]? = some (bef ops i) := by
    unfold bef
    simp [Array.getD_eq_getD_getElem?, hlt2]
  have h3 : (ops.toList.zip (Region.before ops).toList)[i]? = some (o, bef ops i) := List.getElem?_zip_eq_some.2 ⟨h1, h2⟩
  unfold briefs
  rw [List.getElem?_map, h3]
  rfl

theorem pair_at (hr : regOk E ops = true) {i j : Nat} {a b : Oper} (hij : i < j) (hi : ops[i]? = some a) (hj : ops[j]? = some b) : pairOk i (brief E ops a i) (brief E ops b j) = true := by
  unfold regOk at hr
  rw [Bool.and_eq_true] at hr
  have := pairs_spec _ 0 hr.2 i j _ _ hij (briefs_get hi) (briefs_get hj)
  rwa [Nat.zero_add] at this

/-- One operation of the evaluator's own run. -/
def StepT (E : Env) (rec_ : Rec) (nt : Nat) (ops : Array Oper) (rid0 : Nat) (F : Nat → Fr) (G : Nat → St) (V : Nat → Value) (κ : Nat → Nat) (i : Nat) (o : Oper) : Prop :=
  (κ i = 0 ∧ guardOk ops o (F i) = false ∧ Fr.put nt (F i) o.dst undef = some (F (i + 1)) ∧ G (i + 1) = G i ∧ V i = undef) ∨
  (κ i = 1 ∧ guardOk ops o (F i) = true ∧ isFloat E o = true ∧ (∃ A', opX E (G i) (evalO (F i)) o = some (.val (V i), A')) ∧ Fr.put nt (F i) o.dst (V i) = some (F (i + 1)) ∧ G (i + 1) = G i) ∨
  (κ i = 3 ∧ guardOk ops o (F i) = true ∧ isAlloc o = true ∧ (∃ A1, opX E { G i with next := rid0 + i } (evalO (F i)) o = some (.val (V i), A1) ∧ G (i + 1) = { A1 with next := (G i).next }) ∧ Fr.put nt (F i) o.dst (V i) = some (F (i + 1))) ∨
  (κ i = 2 ∧ guardOk ops o (F i) = true ∧ isFloat E o = false ∧ isAlloc o = false ∧ doOp E rec_ nt o (F i) (G i) = some (F (i + 1), G (i + 1)) ∧ V i = slotOf (F (i + 1)) o.dst)

theorem StepT.congr {rec_ : Rec} {nt rid0 i : Nat} {F F' : Nat → Fr} {G G' : Nat → St} {V V' : Nat → Value} {κ κ' : Nat → Nat} {o : Oper} (h : StepT E rec_ nt ops rid0 F G V κ i o)
    (hF : F' i = F i) (hF1 : F' (i + 1) = F (i + 1)) (hG : G' i = G i) (hG1 : G' (i + 1) = G (i + 1)) (hV : V' i = V i) (hκ : κ' i = κ i) : StepT E rec_ nt ops rid0 F' G' V' κ' i o := by
  unfold StepT at *
  rw [hF, hF1, hG, hG1, hV, hκ]
  exact h

theorem chkAll_spec {befs ks : List Nat} {Hs : List (Nat × St)} : ∀ (L : List Ent) (s : Nat), chkAll E befs ks Hs L s = true → ∀ m e, L[m]? = some e → chkEnt E befs ks Hs e (s + m) = true
  | [], s, _, m, e, h => by simp at h
  | x :: L, s, hc, m, e, h => by
    simp only [chkAll, Bool.and_eq_true] at hc
    cases m with
    | zero => simp only [List.getElem?_cons_zero, Option.some.injEq] at h; subst h; exact hc.1
    | succ m =>
      have := chkAll_spec L (s + 1) hc.2 m e (by simpa using h)
      rwa [show s + 1 + m = s + (m + 1) from by omega] at this

/-- What the evaluator's run of a region shows. -/
structure TraceR (E : Env) (rec_ : Rec) (nt : Nat) (ops : Array Oper) (rid0 : Nat) (befs : List Nat) (os : List (Oper × Nat)) (i : Nat) (fr : Fr) (A : St) (log : List Ent) (Hs : List (Nat × St)) (ks : List Nat) (fr1 : Fr) (A1 : St)
    (F : Nat → Fr) (G : Nat → St) (V : Nat → Value) (κ : Nat → Nat) (Ks : List Nat) (HS : List (Nat × St)) (L : List Ent) : Prop where
  f0 : F i = fr
  g0 : G i = A
  fn : F (i + os.length) = fr1
  gn : G (i + os.length) = A1
  step : ∀ m o b, os[m]? = some (o, b) → StepT E rec_ nt ops rid0 F G V κ (i + m) o
  chk : chkAll E befs Ks HS (log.reverse ++ L) 0 = true
  ks : ∀ k, k ∈ Ks ↔ k ∈ ks ∨ (i ≤ k ∧ k < i + os.length ∧ κ k = 2)
  hs : ∀ p, p ∈ Hs → p ∈ HS
  hs2 : ∀ k, i ≤ k → k < i + os.length → κ k = 2 → (k + 1, G (k + 1)) ∈ HS
  len : L.length = os.length
  ent : ∀ m o b, os[m]? = some (o, b) → L[m]? = some ({ o, fr := F (i + m), v := V (i + m), kind := κ (i + m), bef := b } : Ent)

theorem TraceR.cons {rec_ : Rec} {nt rid0 : Nat} {befs : List Nat} {os : List (Oper × Nat)} {i : Nat} {fr fr' fr1 : Fr} {A A' A1 : St} {log : List Ent} {Hs Hs' : List (Nat × St)} {ks ks' : List Nat} {o : Oper} {b k0 : Nat} {v : Value}
    {F : Nat → Fr} {G : Nat → St} {V : Nat → Value} {κ : Nat → Nat} {Ks : List Nat} {HS : List (Nat × St)} {L : List Ent}
    (t : TraceR E rec_ nt ops rid0 befs os (i + 1) fr' A' ({ o, fr, v, kind := k0, bef := b } :: log) Hs' ks' fr1 A1 F G V κ Ks HS L)
    (hstep : ∀ (F' : Nat → Fr) (G' : Nat → St) (V' : Nat → Value) (κ' : Nat → Nat), F' i = fr → F' (i + 1) = fr' → G' i = A → G' (i + 1) = A' → V' i = v → κ' i = k0 → StepT E rec_ nt ops rid0 F' G' V' κ' i o)
    (hks : (k0 = 2 ∧ ks' = i :: ks ∧ Hs' = (i + 1, A') :: Hs) ∨ (k0 ≠ 2 ∧ ks' = ks ∧ Hs' = Hs)) :
    ∃ F G V κ Ks HS L, TraceR E rec_ nt ops rid0 befs ((o, b) :: os) i fr A log Hs ks fr1 A1 F G V κ Ks HS L := by
  let F' : Nat → Fr := fun j => if j = i then fr else F j
  let G' : Nat → St := fun j => if j = i then A else G j
  let V' : Nat → Value := fun j => if j = i then v else V j
  let κ' : Nat → Nat := fun j => if j = i then k0 else κ j
  have hF : ∀ j, j ≠ i → F' j = F j := fun j h => if_neg h
  have hG : ∀ j, j ≠ i → G' j = G j := fun j h => if_neg h
  have hV : ∀ j, j ≠ i → V' j = V j := fun j h => if_neg h
  have hκ : ∀ j, j ≠ i → κ' j = κ j := fun j h => if_neg h
  have hF0 : F' i = fr := if_pos rfl
  have hG0 : G' i = A := if_pos rfl
  have hV0 : V' i = v := if_pos rfl
  have hκ0 : κ' i = k0 := if_pos rfl
  have e1 : i + (os.length + 1) = i + 1 + os.length := by omega
  refine ⟨F', G', V', κ', Ks, HS, { o, fr, v, kind := k0, bef := b } :: L, { f0 := hF0, g0 := hG0, fn := ?_, gn := ?_, step := ?_, chk := ?_, ks := ?_, hs := ?_, hs2 := ?_, len := ?_, ent := ?_ }⟩
  · rw [List.length_cons, e1, hF _ (by omega)]; exact t.fn
  · rw [List.length_cons, e1, hG _ (by omega)]; exact t.gn
  · intro m o' b' hm
    cases m with
    | zero =>
      simp only [List.getElem?_cons_zero, Option.some.injEq, Prod.mk.injEq] at hm
      obtain ⟨rfl, rfl⟩ := hm
      rw [Nat.add_zero]
      exact hstep F' G' V' κ' hF0 ((hF _ (by omega)).trans t.f0) hG0 ((hG _ (by omega)).trans t.g0) hV0 hκ0
    | succ m =>
      have := t.step m o' b' (by simpa using hm)
      rw [show i + 1 + m = i + (m + 1) from by omega] at this
      exact this.congr (hF _ (by omega)) (hF _ (by omega)) (hG _ (by omega)) (hG _ (by omega)) (hV _ (by omega)) (hκ _ (by omega))
  · have := t.chk
    simpa using this
  · intro k
    rw [t.ks k, List.length_cons]
    rcases hks with ⟨h1, h2, h3⟩ | ⟨h1, h2, h3⟩
    · subst h2
      constructor
      · rintro (h | ⟨g1, g2, g3⟩)
        · rcases List.mem_cons.1 h with e | e
          · subst e; exact .inr ⟨Nat.le_refl _, by omega, by rw [hκ0]; exact h1⟩
          · exact .inl e
        · exact .inr ⟨by omega, by omega, by rw [hκ _ (by omega)]; exact g3⟩
      · rintro (h | ⟨g1, g2, g3⟩)
        · exact .inl (by simp [h])
        · by_cases e : k = i
          · exact .inl (by simp [e])
          · exact .inr ⟨by omega, by omega, by rw [hκ _ e] at g3; exact g3⟩
    · subst h2
      constructor
      · rintro (h | ⟨g1, g2, g3⟩)
        · exact .inl h
        · exact .inr ⟨by omega, by omega, by rw [hκ _ (by omega)]; exact g3⟩
      · rintro (h | ⟨g1, g2, g3⟩)
        · exact .inl h
        · by_cases e : k = i
          · subst e; rw [hκ0] at g3; exact absurd g3 h1
          · exact .inr ⟨by omega, by omega, by rw [hκ _ e] at g3; exact g3⟩
  · intro p hp
    rcases hks with ⟨h1, h2, h3⟩ | ⟨h1, h2, h3⟩
    · exact t.hs p (by rw [h3]; simp [hp])
    · exact t.hs p (by rw [h3]; exact hp)
  · intro k g1 g2 g3
    rw [List.length_cons] at g2
    by_cases e : k = i
    · subst e
      rcases hks with ⟨h1, h2, h3⟩ | ⟨h1, h2, h3⟩
      · have := t.hs (k + 1, A') (by rw [h3]; simp)
        rw [hG _ (by omega), t.g0]; exact this
      · rw [hκ0] at g3; exact absurd g3 h1
    · rw [hκ _ e] at g3
      rw [hG _ (by omega)]
      exact t.hs2 k (by omega) (by omega) g3
  · simp [t.len]
  · intro m o' b' hm
    cases m with
    | zero =>
      simp only [List.getElem?_cons_zero, Option.some.injEq, Prod.mk.injEq] at hm
      obtain ⟨rfl, rfl⟩ := hm
      simp only [Nat.add_zero, List.getElem?_cons_zero, hF0, hV0, hκ0]
    | succ m =>
      have := t.ent m o' b' (by simpa using hm)
      rw [show i + 1 + m = i + (m + 1) from by omega] at this
      rw [List.getElem?_cons_succ, this, hF _ (by omega), hV _ (by omega), hκ _ (by omega)]

theorem trace_ok {rec_ : Rec} {nt rid0 : Nat} {befs : List Nat} : ∀ (os : List (Oper × Nat)) (i : Nat) (fr : Fr) (A : St) (log : List Ent) (Hs : List (Nat × St)) (ks : List Nat) (fr1 : Fr) (A1 : St),
    doDraw E rec_ nt ops befs os i (rid0 + i) fr A log Hs ks = some (fr1, A1) →
    ∃ F G V κ Ks HS L, TraceR E rec_ nt ops rid0 befs os i fr A log Hs ks fr1 A1 F G V κ Ks HS L := by
  intro os
  induction os with
  | nil =>
    intro i fr A log Hs ks fr1 A1 h
    unfold doDraw at h
    split at h
    · rename_i hc
      cases h
      exact ⟨fun _ => fr, fun _ => A, fun _ => undef, fun _ => 0, ks, Hs, [], { f0 := rfl, g0 := rfl, fn := rfl, gn := rfl, step := fun m o b hm => by simp at hm, chk := by simpa using hc, ks := fun k => (by simp; try omega), hs := fun p hp => hp, hs2 := fun k g1 g2 => by simp at g2; omega, len := rfl, ent := fun m o b hm => by simp at hm }⟩
    · cases h
  | cons ob os ih =>
    intro i fr A log Hs ks fr1 A1 h
    obtain ⟨o, b⟩ := ob
    unfold doDraw at h
    split at h
    · rename_i hg
      split at h
      · rename_i hfl
        split at h
        · rename_i v Ax hop
          split at h
          · rename_i fr2 hp
            obtain ⟨F, G, V, κ, Ks, HS, L, t⟩ := ih (i + 1) fr2 A _ Hs ks fr1 A1 h
            exact t.cons (A := A) (fun F' G' V' κ' a1 a2 a3 a4 a5 a6 => .inr (.inl ⟨a6, by rw [a1]; exact hg, hfl, ⟨Ax, by rw [a1, a3, a5]; exact hop⟩, by rw [a1, a2, a5]; exact hp, by rw [a3, a4]⟩)) (.inr ⟨by decide, rfl, rfl⟩)
          · cases h
        · cases h
      · rename_i hfl
        split at h
        · rename_i hal
          split at h
          · rename_i v Ax hop
            split at h
            · rename_i fr2 hp
              obtain ⟨F, G, V, κ, Ks, HS, L, t⟩ := ih (i + 1) fr2 _ _ Hs ks fr1 A1 h
              exact t.cons (A := A) (fun F' G' V' κ' a1 a2 a3 a4 a5 a6 => .inr (.inr (.inl ⟨a6, by rw [a1]; exact hg, hal, ⟨Ax, by rw [a1, a3, a5]; exact hop, by rw [a3, a4]⟩, by rw [a1, a2, a5]; exact hp⟩))) (.inr ⟨by decide, rfl, rfl⟩)
            · cases h
          · cases h
        · rename_i hal
          split at h
          · rename_i fr2 A2 hop
            obtain ⟨F, G, V, κ, Ks, HS, L, t⟩ := ih (i + 1) fr2 A2 _ _ _ fr1 A1 h
            exact t.cons (A := A) (fun F' G' V' κ' a1 a2 a3 a4 a5 a6 => .inr (.inr (.inr ⟨a6, by rw [a1]; exact hg, by simpa using hfl, by simpa using hal, by rw [a1, a2, a3, a4]; exact hop, by rw [a2, a5]⟩))) (.inl ⟨rfl, rfl, rfl⟩)
          · cases h
    · rename_i hg
      split at h
      · rename_i fr2 hp
        obtain ⟨F, G, V, κ, Ks, HS, L, t⟩ := ih (i + 1) fr2 A _ Hs ks fr1 A1 h
        exact t.cons (A := A) (fun F' G' V' κ' a1 a2 a3 a4 a5 a6 => .inl ⟨a6, by rw [a1]; simpa using hg, by rw [a1, a2]; exact hp, by rw [a3, a4], a5⟩) (.inr ⟨by decide, rfl, rfl⟩)
      · cases h
end
end Go.AM
