/- A region that runs in whatever order comes to what the evaluator says. -/
import Derived.Test.YtkhgbpokoaklpaaGreatDoorAmDraw
namespace Go.AM
section
variable {E : Env} {P : Program} {nm : Nm} {K : Kp} {base : World} {φ ψ : Emb} {A A' : St} {w : World}

theorem getD_flip {l : Array Bool} {i : Nat} (h : i < l.size) (d d' : Bool) : l.getD i d = l.getD i d' := by simp [Array.getD_eq_getD_getElem?, h]

def unl (n : Nat) (l : Array Bool) : Nat := (List.range n).countP fun i => !l.getD i true

theorem countP_less {p q : Nat → Bool} : ∀ (l : List Nat), (∀ x, x ∈ l → q x = true → p x = true) → (∃ x, x ∈ l ∧ p x = true ∧ q x = false) → l.countP q < l.countP p
  | [], _, h => by obtain ⟨x, hx, _⟩ := h; cases hx
  | y :: l, hle, hex => by
    have hmono : l.countP q ≤ l.countP p := List.countP_mono_left fun x hx => hle x (by simp [hx])
    rw [List.countP_cons, List.countP_cons]
    obtain ⟨x, hx, h1, h2⟩ := hex
    rcases List.mem_cons.1 hx with e | e
    · subst e
      rw [h1, h2]; simp; omega
    · have := countP_less l (fun x hx => hle x (by simp [hx])) ⟨x, e, h1, h2⟩
      have hy := hle y (by simp)
      cases hq : q y with
      | false => simp; omega
      | true => rw [hy hq]; simp; omega

theorem unl_set {n i : Nat} {l : Array Bool} (hs : l.size = n) (hi : i < n) (hf : l.getD i true = false) : unl n (l.setIfInBounds i true) < unl n l := by
  refine countP_less _ (fun x hx h => ?_) ⟨i, by simpa using hi, by rw [hf]; rfl, ?_⟩
  · by_cases e : i = x
    · subst e; rw [hf]; rfl
    · rwa [getD_set_ne true e] at h
  · simp [Array.getD_eq_getD_getElem?, hs, hi]

variable {rec_ : Rec} {nt rid0 : Nat} {ops : Array Oper} {φ0 : Emb} {F : Nat → Fr} {G : Nat → St} {V : Nat → Value} {κ : Nat → Nat} {fr0 : Fr}

theorem any_ok (ok : EnvOk E P nm) (hc : CallOK E P nm rec_.call) (hg0 : Gl E φ0) (hr : regOk E ops = true)
    (hstep : ∀ i o, ops[i]? = some o → StepT E rec_ nt ops rid0 F G V κ i o) (hsl : ∀ i, i ≤ ops.size → Slots ops F V fr0 i)
    (hchk : ∀ i o, ops[i]? = some o → κ i = 1 → ∀ β', (β' = 0 ∨ ∃ e, β' = e + 1 ∧ e < ops.size ∧ κ e = 2) →
      (∀ k, k < ops.size → κ k = 2 → if k < β' then (bef ops k).testBit i = false else (bef ops i).testBit k = false) → ∃ A', opX E (G β') (evalO (F i)) o = some (.val (V i), A'))
    {Q : Exit → Act → World → Prop} (hA : A.next = rid0) (hQ : ∀ a1 w1, Aft nm K base φ0 A nt (F ops.size) (G ops.size) a1 w1 → Q .normal a1 w1) :
    ∀ (fuel : Nat) (listed : Array Bool) (a : Act) (w : World) (β : Nat) (K' : Kp) (φ : Emb) (pl : Nat → Pl), Inv E nm K base φ0 nt ops rid0 F G V κ fr0 (fun j => listed.getD j false = true) β K' φ pl a w →
      listed.size = ops.size → unl ops.size listed ≤ fuel → wpAny P .any ops Q fuel listed a w := by
  have hed : edgesOk ops = true := by unfold regOk at hr; rw [Bool.and_eq_true] at hr; exact hr.1
  have edge : ∀ (i : Nat) (o : Oper), ops[i]? = some o → ∀ e, e ∈ o.after → Region.binds .any e = true → e.on < i := by
    intro i o ho e he hb
    unfold edgesOk at hed
    rw [List.all_eq_true] at hed
    have := hed (o, i) (by
      rw [List.mem_zipIdx_iff_getElem?]
      simpa using ho)
    simp only [List.all_eq_true, Bool.or_eq_true, Bool.not_eq_true'] at this
    rcases this e (by simpa using he) with q | q
    · rw [hb] at q; cases q
    · simpa using q
  have fin : ∀ (listed : Array Bool) (a : Act) (w : World) (β : Nat) (K' : Kp) (φ : Emb) (pl : Nat → Pl), Inv E nm K base φ0 nt ops rid0 F G V κ fr0 (fun j => listed.getD j false = true) β K' φ pl a w →
      (∀ i, i < ops.size → listed.getD i false = true) → Q .normal a w := fun listed a w β K' φ pl v hall => hQ a w (v.done hstep (hsl _ (Nat.le_refl _)) hall hA)
  have allof : ∀ (listed : Array Bool), listed.size = ops.size → Region.ready .any ops listed = [] → ∀ i, i < ops.size → listed.getD i false = true := by
    intro listed hs hnil i
    induction i using Nat.strongRecOn with
    | _ i ih =>
      intro hi
      cases hv : listed.getD i false with
      | true => rfl
      | false =>
        exfalso
        have ho : ops[i]? = some ops[i] := Array.getElem?_eq_getElem hi
        have : i ∈ Region.ready .any ops listed := mem_ready.2 ⟨by rw [getD_flip (by omega) true false]; exact hv, _, ho, fun e he hb => ih e.on (edge i _ ho e he hb) (by have := edge i _ ho e he hb; omega)⟩
        rw [hnil] at this; cases this
  intro fuel
  induction fuel with
  | zero =>
    intro listed a w β K' φ pl v hs hu
    have hall : ∀ i, i < ops.size → listed.getD i false = true := by
      intro i hi
      have h0 : unl ops.size listed = 0 := by omega
      unfold unl at h0
      rw [List.countP_eq_zero] at h0
      have := h0 i (by simpa using hi)
      rw [getD_flip (by omega) false true]
      simpa using this
    refine ⟨?_, fin listed a w β K' φ pl v hall⟩
    cases hq : Region.ready .any ops listed with
    | nil => rfl
    | cons j l =>
      exfalso
      have hj : j ∈ Region.ready .any ops listed := by rw [hq]; simp
      obtain ⟨h1, o, h2, _⟩ := mem_ready.1 hj
      have hlt := (Array.getElem?_eq_some_iff.1 h2).1
      rw [getD_flip (by omega) true false, hall j hlt] at h1
      cases h1
  | succ fuel ih =>
    intro listed a w β K' φ pl v hs hu
    refine ⟨fun hnil => fin listed a w β K' φ pl v (allof listed hs hnil), fun i hi => ?_⟩
    obtain ⟨h1, o, h2, h3⟩ := mem_ready.1 hi
    have hlt := (Array.getElem?_eq_some_iff.1 h2).1
    have hS : ¬ listed.getD i false = true := by rw [getD_flip (by omega) false true, h1]; simp
    refine wpOp_mono ?_ (v.step (P := P) ok hc hg0 hr hstep hsl hchk h2 hS h3)
    rintro a' w' ⟨β', K'', φ', pl', v'⟩
    refine ih (listed.setIfInBounds i true) a' w' β' K'' φ' pl' ?_ (by simp [hs]) ?_
    · have : (fun j => (listed.setIfInBounds i true).getD j false = true) = (fun j => listed.getD j false = true ∨ j = i) := by
        funext j
        apply propext
        by_cases e : i = j
        · subst e
          simp [Array.getD_eq_getD_getElem?, hs, hlt]
        · rw [getD_set_ne false e]
          constructor
          · exact .inl
          · rintro (g | g)
            · exact g
            · exact absurd g.symm e
      rw [this]; exact v'
    · have := unl_set hs hlt h1
      omega

theorem drawRegion_ok (ok : EnvOk E P nm) (hc : CallOK E P nm rec_.call) {Q : Exit → Act → World → Prop} {fr fr1 : Fr} {A1 : St} {a : Act} {id : Nat}
    (h : WR nm K base φ A w) (hg : Gl E φ) (hf : FrR nm φ nt fr a) (hx : drawRegion E rec_ nt ops fr A = some (fr1, A1))
    (hQ : ∀ a1 w1, Aft nm K base φ A nt fr1 A1 a1 w1 → Q .normal a1 w1) : (Code.region id ops true).wp P Q a w := by
  unfold drawRegion at hx
  split at hx
  case isFalse => cases hx
  rename_i hr
  obtain ⟨F, G, V, κ, Ks, HS, L, t⟩ := trace_ok (rid0 := A.next) _ 0 fr { A with next := A.next + ops.size } [] [(0, { A with next := A.next + ops.size })] [] fr1 A1 hx
  have hlen : (ops.toList.zip (Region.before ops).toList).length = ops.size := by simp [before_size]
  have hat : ∀ i o, ops[i]? = some o → (ops.toList.zip (Region.before ops).toList)[i]? = some (o, bef ops i) := by
    intro i o ho
    have hlt := (Array.getElem?_eq_some_iff.1 ho).1
    have hlt2 : i < (Region.before ops).size := by rw [before_size]; exact hlt
    have h2 : (Region.before ops).toList[i]? = some (bef ops i) := by
      unfold bef
      simp [Array.getD_eq_getD_getElem?, hlt2]
    exact List.getElem?_zip_eq_some.2 ⟨by simpa using ho, h2⟩
  have hstep : ∀ i o, ops[i]? = some o → StepT E rec_ nt ops A.next F G V κ i o := fun i o ho => by
    have := t.step i o _ (hat i o ho)
    rwa [Nat.zero_add] at this
  have hF : F 0 = fr := t.f0
  have hG : G 0 = { A with next := A.next + ops.size } := t.g0
  have hFn : F ops.size = fr1 := by have := t.fn; rwa [hlen, Nat.zero_add] at this
  have hGn : G ops.size = A1 := by have := t.gn; rwa [hlen, Nat.zero_add] at this
  have hsl := fun i hi => slots_ok (fr0 := fr) hr hstep hF i hi
  have hchk : ∀ i o, ops[i]? = some o → κ i = 1 → ∀ β', (β' = 0 ∨ ∃ e, β' = e + 1 ∧ e < ops.size ∧ κ e = 2) →
      (∀ k, k < ops.size → κ k = 2 → if k < β' then (bef ops k).testBit i = false else (bef ops i).testBit k = false) → ∃ A', opX E (G β') (evalO (F i)) o = some (.val (V i), A') := by
    intro i o ho hκ β' hβ' hall
    have hL := t.ent i o _ (hat i o ho)
    have hc := chkAll_spec _ 0 (by simpa using t.chk) i _ hL
    rw [Nat.zero_add] at hc
    unfold chkEnt at hc
    simp only [hκ, List.all_eq_true, Bool.or_eq_true, Bool.not_eq_true'] at hc
    have hmem : (β', G β') ∈ HS := by
      rcases hβ' with e | ⟨e, g1, g2, g3⟩
      · subst e; rw [hG]; exact t.hs _ (by simp)
      · subst g1; exact t.hs2 e (Nat.zero_le _) (by rw [hlen]; omega) g3
    have hal : allowed i (bef ops i) (Region.before ops).toList Ks β' = true := by
      unfold allowed
      rw [List.all_eq_true]
      intro k hk
      rcases (t.ks k).1 hk with g | ⟨_, g2, g3⟩
      · cases g
      · rw [hlen, Nat.zero_add] at g2
        have hb : (Region.before ops).toList.getD k 0 = bef ops k := by unfold bef; simp [Array.getD_eq_getD_getElem?, List.getD_eq_getElem?_getD]
        have := hall k g2 g3
        by_cases q : k < β'
        · rw [if_pos q] at this
          rw [if_pos (by simpa using q), hb, this]; rfl
        · rw [if_neg q] at this
          rw [if_neg (by simpa using q), this]; rfl
    rcases hc _ hmem with g | g
    · rw [hal] at g; cases g
    · unfold sameAt at g
      split at g
      · rename_i v A' hop
        exact ⟨A', by rw [hop, veq_eq _ _ _ g]⟩
      · cases g
  refine wp_region_any ok.mix ?_
  refine any_ok (φ0 := φ) (fr0 := fr) ok hc hg hr hstep hsl hchk rfl (fun a1 w1 hA => hQ a1 w1 (by rw [← hFn, ← hGn]; exact hA)) ops.size (Array.replicate ops.size false) a { w with drawn := w.drawn + 1 } 0 K φ (fun _ => plNew w 0) ?_ (by simp) ?_
  · have hno : ∀ j, ¬ (Array.replicate ops.size false).getD j false = true := by
      intro j
      rw [Array.getD_eq_getD_getElem?, Array.getElem?_replicate]
      split <;> simp
    refine { wr := ?_, ext := Emb.ext_refl _ _, le := Emb.le_refl _, nx := ?_, bnd := Nat.zero_le _, beff := .inl rfl, eff := fun j hj => absurd hj (hno j), closed := fun i o _ hi => absurd hi (hno i), inr := fun j hj => absurd hj (hno j), s1 := fun j o t hj => absurd hj (hno j), s2 := fun t _ => hf.tm t, sz := hf.size, mrk := hf.marks, nofresh := fun j _ _ _ => h.dom _ (Nat.le_add_right _ _), hid := fun j hj => absurd hj (hno j), hinj := fun i j hi => absurd hi (hno i), kh := fun b o hb => hb, kd := fun b o hb => .inl hb }
    · rw [hG]
      have hd := h.drew (w.drawn + 1)
      exact { dom := fun b hb => h.dom b (by have hb' : A.next + ops.size ≤ b := hb; omega), lt := hd.lt, obj := hd.obj, key := hd.key, sep := hd.sep, tip := hd.tip, grp := hd.grp, env := hd.env, size := hd.size, old := hd.old }
    · rw [hG]; exact Nat.le_refl _
  · unfold unl
    refine Nat.le_trans List.countP_le_length ?_
    simp
end
end Go.AM
