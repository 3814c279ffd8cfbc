/- append: the whole. -/
import Derived.Test.YtkhgbpokoaklpaaGreatDoorAmApp
namespace Go.AM
section
variable {E : Env} {P : Program} {nm : Nm} {K : Kp} {base : World} {φ : Emb} {A A' : St} {w : World} {ρ ρ' : Operand → Value} {nx : Nx}

/-- What append comes to. -/
def AppGoal (P : Program) (nm : Nm) (K : Kp) (base : World) (φ : Emb) (A : St) (w : World) (s : Sem Value) (v : Value) (A' : St) : Prop :=
  ∃ φ' w' v', Emb.ext A.next φ φ' ∧ A.next ≤ A'.next ∧ WR nm K base φ' A' w' ∧ VR nm φ' v v' ∧ s.run P w = .ok v' w'

/-- The new array. -/
def plGrow (w : World) (csz sz : Nat) : Pl := { blk := w.heap.size, off := 0, csz, esz := sz, opn := true }

theorem openRow_rel {vs cvs : List Value} {pad : Array Value} {e : TypeId} {sz g : Nat} {cells : T Value} {size frz : Nat} {sb : Bool} {hp : Array Obj} (hv : LR nm φ vs cvs) (hc : ∀ i, i < vs.length → cells.get i = vs[i]?)
    (hsz : size = vs.length) (hsize : hp.size = w.heap.size) :
    RowR nm φ (hp.push (.cells (cvs.toArray ++ pad) e)) (plGrow w (cvs.length + pad.size) sz) (openRow cells size e sz g frz sb) (cvs.toArray ++ pad) (0, 0) := by
  have hlen := hv.length
  refine { blk := ?_, csz := by simp [plGrow], opn := rfl, esz := fun _ => rfl, fit := ?_, cell := ?_, frz := fun _ j h1 h2 => by simp at h2, sb := fun _ _ => .inl rfl, exact := fun h => by simp [openRow] at h }
  · simp [plGrow, openRow, ← hsize]
  · simp [plGrow, openRow, hsz, hlen]
  · intro i hi
    simp only [openRow, hsz] at hi
    refine ⟨_, (hc i hi).trans (List.getElem?_eq_getElem hi), ?_⟩
    obtain ⟨v', e1, e2⟩ := hv.get? (List.getElem?_eq_getElem hi)
    have : (cvs.toArray ++ pad).getD ((plGrow w (cvs.length + pad.size) sz).off + i) undef = v' := by
      simp only [plGrow, Nat.zero_add]
      rw [Array.getD_eq_getD_getElem?, Array.getElem?_append_left (by simp; omega)]
      simp [e1]
    rw [this]; exact e2

theorem appNew_ok (h : WR nm K base φ A w) {e : TypeId} {sz n : Nat} {cells cvs : List Value} {pad : Array Value} {cap : Nat} (hv : LR nm φ cells cvs) (_hlen : cells.length = n * sz)
    (hcap : n ≤ cap) (hpad : cvs.length + pad.size = cap * sz) :
    ∃ φ', Emb.ext A.next φ φ' ∧ WR nm K base φ' (appNew A e sz n cells).2 (w.drew.alloc (.cells (cvs.toArray ++ pad) e)) ∧ VR nm φ' (appNew A e sz n cells).1 (.slice (some ⟨w.heap.size, 0, none⟩) n cap) := by
  have hn := h.dom A.next (Nat.le_refl _)
  let p := plGrow w (cvs.length + pad.size) sz
  refine ⟨φ.upd A.next p, Emb.upd_ext _ _ _, ?_, ?_⟩
  · refine (h.drew (w.drawn + 1)).new A.next p _ _ (A.next + 1) hn (Nat.le_succ _) (Nat.lt_succ_self _) rfl ?_ rfl
    exact ⟨_, _, openRow_rel (w := w) (hv.mono (Emb.upd_le p hn)) (fun i _ => T.get_ofList _ _) rfl rfl⟩
  · refine .slc ⟨A.next, 0, none⟩ ⟨w.heap.size, 0, none⟩ n n cap p (Emb.upd_same _ _ _) rfl rfl rfl (.inr rfl) (fun g => by cases g) (fun _ => ⟨hcap, ?_⟩) (Nat.le_refl _)
    show 0 + cap * sz ≤ cvs.length + pad.size
    omega

/-- What is left of the rows in one block, when it is appended behind one. -/
structure ModeOk (K : Kp) (φ : Emb) (A : St) (b : Nat) (r : Row) (p : Pl) (reach : Bool) (h1 : T AObj) (rest : List Nat) : Prop where
  kill : ∀ c, h1.get c = A.h.get c ∨ h1.get c = some .dead
  near : ∀ c o q, h1.get c = some o → o.live = true → φ c = some q → q.blk = p.blk → reach = true ∧ ∃ s, o = .row s ∧ s.grp = r.grp ∧ c ∈ rest ∧ q.off + s.size ≤ p.off + r.size
  has : ∀ c, c ∈ rest → ∃ q, φ c = some q ∧ K q.blk = none
  old : ∀ ms, A.g.get r.grp = some ms → ∀ c d, c ≠ d → c ∈ ms → d ∈ ms → (∃ o, h1.get c = some o ∧ o.live = true) → (∃ o, h1.get d = some o ∧ o.live = true) → c ∈ rest ∧ d ∈ rest

theorem appMode_ok (h : WR nm K base φ A w) {b : Nat} {r : Row} {p : Pl} (hb : A.h.get b = some (.row r)) (hown : r.own = true) (hp : φ b = some p) (reach : Bool) :
    ModeOk K φ A b r p reach (appMode A b r reach).1 (appMode A b r reach).2 := by
  have hKb : K p.blk = none := by
    obtain ⟨q, e1, _, e3⟩ := h.obj b _ hb rfl
    rw [hp] at e1; cases e1
    have : (K p.blk).isNone = true := e3.trans hown
    simpa using this
  have hbn : b < A.next := by
    rcases Nat.lt_or_ge b A.next with g | g
    · exact g
    · rw [h.dom b g] at hp; cases hp
  have near : ∀ c o q, c ≠ b → A.h.get c = some o → o.live = true → φ c = some q → q.blk = p.blk →
      ∃ s ms, o = .row s ∧ s.grp = r.grp ∧ A.g.get r.grp = some ms ∧ b ∈ ms ∧ c ∈ ms := by
    intro c o q hcb hc lo hq hblk
    obtain ⟨r1, s, ms, e1, e2, e3, e4, e5, e6⟩ := h.near (Ne.symm hcb) hb hc rfl lo hown hp hq hblk.symm
    cases e1
    exact ⟨s, ms, e2, e3.symm, e4, e5, e6⟩
  have dead : ∀ {o : AObj}, (some AObj.dead : Option AObj) = some o → o.live = true → False := by
    intro o e hl; cases e; simp [AObj.live] at hl
  unfold appMode
  cases hg : A.g.get r.grp with
  | none =>
    cases reach with
    | true =>
      refine ⟨fun c => .inl rfl, ?_, ?_, fun ms hms => (by rw [hg] at hms; cases hms)⟩
      · intro c o q hc lo hq hblk
        by_cases e : c = b
        · subst e
          rw [if_pos rfl] at hc
          rw [hb] at hc; cases hc
          rw [hp] at hq; cases hq
          exact ⟨rfl, r, rfl, rfl, by simp, Nat.le_refl _⟩
        · obtain ⟨s, ms, _, _, g, _⟩ := near c o q e hc lo hq hblk
          rw [hg] at g; cases g
      · intro c hc; simp at hc; subst hc; exact ⟨p, hp, hKb⟩
    | false =>
      simp only [Bool.false_eq_true, if_false]
      refine ⟨fun c => ?_, ?_, fun c hc => by simp at hc, fun ms hms => (by rw [hg] at hms; cases hms)⟩
      · by_cases e : c = b
        · subst e; right; exact T.get_set_same _ _ _
        · left; exact T.get_set_other _ _ e
      · intro c o q hc lo hq hblk
        by_cases e : c = b
        · subst e; rw [T.get_set_same] at hc; exact (dead hc lo).elim
        · rw [T.get_set_other _ _ e] at hc
          obtain ⟨s, ms, _, _, g, _⟩ := near c o q e hc lo hq hblk
          rw [hg] at g; cases g
  | some ms =>
    cases reach with
    | true =>
      simp only [if_true]
      cases ms with
      | nil =>
        refine ⟨fun c => .inl rfl, ?_, ?_, fun ms hms => ?_⟩
        · intro c o q hc lo hq hblk
          by_cases e : c = b
          · subst e
            rw [hb] at hc; cases hc
            rw [hp] at hq; cases hq
            exact ⟨rfl, r, rfl, rfl, by simp, Nat.le_refl _⟩
          · obtain ⟨s, ms, _, _, g, k, _⟩ := near c o q e hc lo hq hblk
            rw [hg] at g; cases g; cases k
        · intro c hc; simp at hc; subst hc; exact ⟨p, hp, hKb⟩
        · rw [hg] at hms; cases hms; intro c d _ hc; cases hc
      | cons m ms =>
        simp only []
        by_cases em : m = b
        · subst em
          rw [if_pos (Nat.beq_refl m)]
          refine ⟨fun c => .inl rfl, ?_, ?_, fun ms' hms => ?_⟩
          · intro c o q hc lo hq hblk
            by_cases e : c = m
            · subst e
              rw [hb] at hc; cases hc
              rw [hp] at hq; cases hq
              exact ⟨rfl, r, rfl, rfl, by simp, Nat.le_refl _⟩
            · obtain ⟨s, ms', rfl, e2, g, k1, k2⟩ := near c o q e hc lo hq hblk
              rw [hg] at g; cases g
              refine ⟨rfl, s, rfl, e2, k2, ?_⟩
              have hcm : c ∈ ms := by simpa [e] using k2
              exact h.tip r.grp m ms hg c hcm s r q p hc hb hq hp hblk
          · intro c hc; exact h.grp r.grp _ hg c hc
          · rw [hg] at hms; cases hms
            intro c d _ hc hd _ _; exact ⟨hc, hd⟩
        · rw [if_neg (by simpa using em)]
          simp only []
          refine ⟨fun c => ?_, ?_, ?_, fun ms' hms => ?_⟩
          · rw [get_kill]
            split
            · exact .inr rfl
            · exact .inl rfl
          · intro c o q hc lo hq hblk
            rw [get_kill] at hc
            split at hc
            · exact (dead hc lo).elim
            · rename_i hk
              by_cases e : c = b
              · subst e
                rw [hb] at hc; cases hc
                rw [hp] at hq; cases hq
                exact ⟨rfl, r, rfl, rfl, by simp, Nat.le_refl _⟩
              · obtain ⟨s, ms', _, _, g, _, k2⟩ := near c o q e hc lo hq hblk
                rw [hg] at g; cases g
                exact absurd ⟨k2, e⟩ hk
          · intro c hc; simp at hc; subst hc; exact ⟨p, hp, hKb⟩
          · rw [hg] at hms; cases hms
            intro c d hcd hc hd ⟨o, ho, lo⟩ ⟨u, hu, lu⟩
            rw [get_kill] at ho hu
            split at ho
            · exact (dead ho lo).elim
            · rename_i k1
              split at hu
              · exact (dead hu lu).elim
              · rename_i k2
                have e1 : c = b := Classical.byContradiction fun e => k1 ⟨hc, e⟩
                have e2 : d = b := Classical.byContradiction fun e => k2 ⟨hd, e⟩
                exact absurd (e1.trans e2.symm) hcd
    | false =>
      simp only [Bool.false_eq_true, if_false]
      refine ⟨fun c => ?_, ?_, fun c hc => by simp at hc, fun ms' hms => ?_⟩
      · rw [get_kill]
        split
        · exact .inr rfl
        · exact .inl rfl
      · intro c o q hc lo hq hblk
        rw [get_kill] at hc
        split at hc
        · exact (dead hc lo).elim
        · rename_i hk
          have hcn : c ≠ A.next := by
            rintro rfl
            rw [h.dom _ (Nat.le_refl _)] at hq; cases hq
          by_cases e : c = b
          · subst e; exact absurd ⟨by simp, hcn⟩ hk
          · obtain ⟨s, ms', _, _, g, _, k2⟩ := near c o q e hc lo hq hblk
            rw [hg] at g; cases g
            exact absurd ⟨by simp [k2], hcn⟩ hk
      · rw [hg] at hms; cases hms
        intro c d hcd hc hd ⟨o, ho, lo⟩ _
        rw [get_kill] at ho
        split at ho
        · exact (dead ho lo).elim
        · rename_i hk
          have hcn : c ≠ A.next := by
            rintro rfl
            have := h.has hg hc
            rw [h.dom _ (Nat.le_refl _)] at this; cases this
          exact absurd ⟨by simp [hc], hcn⟩ hk
end
end Go.AM
