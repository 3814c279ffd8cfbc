/- The program's look whether a value is sound. -/
import Derived.Test.YtilbjefgojocaaaGreatDoorPvZ1
namespace Go.AM.PV
open Go Go.AM Go.AM.SX

section
variable {E : Env} {gl : List GRow}

abbrev IZ (E : Env) (gl : List GRow) (T : N) : Prop := ∀ {m : Nat} {rv : Rv} {d : Bool} {hs : List Nat} {C : En} {σ : Sg} {ps : List P} {gs : List Nat} {μ : Mu} {gm : List Nat} {L : List Ls} {H : List St} {A : St} {β : List Nat} {S : Nat → Prop} {Q : PPost},
 RS gl A β S (Free σ rv) σ ps gs μ gm → rvOk rv σ → LzR β S A σ d hs ps μ L C H → okT T σ.length L C = true → m ≤ μ.length → pz E gl T m rv d hs ps μ Q → wp E T σ H A (Res gl m A β S (Free σ rv) gs gm Q)
theorem set_fz {μ : Mu} {i off : Nat} {l : List P} {p : P} (h : μ[i]? = some (.cells l)) (hp : l[off]? = some p) : ∀ (j : Nat), ((μ.set i (.cells (l.set off (fz p))))[j]?).map Ob.fz = (μ[j]?).map Ob.fz := by
 intro j
 rw [List.getElem?_set]
 by_cases e : i = j
 ·subst e
  rw [if_pos rfl, if_pos (List.getElem?_eq_some_iff.1 h).1, h]
  simp only [Option.map_some, Ob.fz, Option.some.injEq, Ob.cells.injEq]
  refine List.ext_getElem? fun k => ?_
  rw [List.getElem?_map, List.getElem?_map, List.getElem?_set]
  by_cases e2 : off = k
  ·subst e2
   rw [if_pos rfl, if_pos (List.getElem?_eq_some_iff.1 hp).1, hp]
   simp only [Option.map_some, fz_fz]
  ·rw [if_neg e2]
 ·rw [if_neg e]
theorem en_lp {β : List Nat} {S : Nat → Prop} {A : St} {σ : Sg} {d : Bool} {hs : List Nat} {ps : List P} {gs : List Nat} {μ : Mu} {L : List Ls} {C : En} {H : List St} (hr : RepO β S A σ ps gs) (h : LzR β S A σ d hs ps μ L C H) {n : Option Nat} {xs : List X} {i off : Nat} (h1 : denF ps xs = some [.lp i off]) (w : Value) (q : P) :
  ∀ r' xs' j', (r', xs', j') ∈ noteC (.load n) xs σ.length C → EnOk A (σ ++ [w]) (ps ++ [q]) r' xs' j' := by
 have hl : ps.length = σ.length := hr.length.symm
 intro r' xs' j' he
 unfold noteC at he
 split at he
 ·rename_i ha
  rcases List.mem_cons.1 he with e | e
  ·cases e
   simp only [Bool.and_eq_true] at ha
   have hok : ∀ x, x ∈ xs → x.ok σ.length = true := fun x hx => List.all_eq_true.1 ha.2 x hx
   refine ⟨by simp, fun x hx => X.ok_mono (by simp) (hok x hx), ha.1, fun hm => (by cases hm), fun _ => ?_⟩
   rw [denF_app ha.1 hok (by omega)]
   exact ⟨_, h1, fun e => by cases e⟩
  ·exact (h.en r' xs' j' e).var hl [w] [q]
 ·exact (h.en r' xs' j' he).var hl [w] [q]
theorem len1 {α : Type} (l : List α) (x : α) : (l ++ [x]).length = l.length + 1 := by simp
theorem grow_get {μ μ' : Mu} {x : List Ob} (h : μ' = μ ++ x) : ∀ (i : Nat) (ob : Ob), μ[i]? = some ob → μ'[i]? = some ob := by
 intro i ob hi
 subst h
 rw [List.getElem?_append_left (List.getElem?_eq_some_iff.1 hi).1]
 exact hi
theorem newP_grow {r : SX.R} {as : List P} {μ μ' : Mu} {p : P} (h : newP? r as μ = some (p, μ')) : ∃ x, μ' = μ ++ x := by
 unfold newP? at h
 split at h
 ·split at h
  ·cases h; exact ⟨_, rfl⟩
  ·cases h
 ·split at h
  ·cases h; exact ⟨_, rfl⟩
  ·cases h
 ·split at h
  ·split at h
   ·cases h; exact ⟨[], by simp⟩
   ·cases h
  ·cases h
 ·split at h
  ·cases h; exact ⟨_, rfl⟩
  ·cases h
 ·cases h
theorem pz_mono {E : Env} {gl : List GRow} : ∀ (T : N) {m : Nat} {rv : Rv} {d : Bool} {hs : List Nat} {ps : List P} {μ : Mu} {Q Q' : PPost}, (∀ o outs ν, Q o outs ν → Q' o outs ν) → pz E gl T m rv d hs ps μ Q → pz E gl T m rv d hs ps μ Q'
 | .bad, _, _, _, _, _, _, _, _, _, h => h
 | .fin o xs, _, _, _, _, _, _, _, _, hq, h => by
  obtain ⟨as, ps', outs, h1, h2, h3⟩ := h
  refine ⟨as, ps', outs, h1, h2, ?_⟩
  rcases h3 with h3 | ⟨k, a, b, c, d⟩
  ·exact .inl (hq _ _ _ h3)
  ·exact .inr ⟨k, a, b, c, hq _ _ _ d⟩
 | .op r xs k, _, _, _, _, _, _, _, _, hq, h => by
  cases r <;> first
   | (obtain ⟨as, p, h1, h2, h3⟩ := h; exact ⟨as, p, h1, h2, pz_mono k hq h3⟩)
   | (obtain ⟨as, p, μ', h1, h2, h3⟩ := h; exact ⟨as, p, μ', h1, h2, pz_mono k hq h3⟩)
   | (obtain ⟨s, h1, h2⟩ := h; exact ⟨s, h1, pz_mono k hq h2⟩)
   | (obtain ⟨s, h0, h1, h2⟩ := h; exact ⟨s, h0, h1, pz_mono k hq h2⟩)
   | (obtain ⟨i, off, p, ps', l, h1, h2, h3, h4, h5, h6⟩ := h; exact ⟨i, off, p, ps', l, h1, h2, h3, h4, h5, pz_mono k hq h6⟩)
   | (obtain ⟨p, q, ps', a, h1, h2, h3⟩ := h; exact ⟨p, q, ps', a, h1, h2, pz_mono k hq h3⟩)
   | (obtain ⟨i, s, pos, h0, h1, h2, h3, h4⟩ := h; exact ⟨i, s, pos, h0, h1, h2, fun e => pz_mono k hq (h3 e), fun e => pz_mono k hq (h4 e)⟩)
   | (rcases h with ⟨as, p, h1, h2, h3⟩ | ⟨i, off, p, h1, h2, hd, h3⟩ | ⟨i, off, l, p, h0, h1, h2, h3, hd, h4⟩
      ·exact .inl ⟨as, p, h1, h2, pz_mono k hq h3⟩
      ·exact .inr (.inl ⟨i, off, p, h1, h2, hd, pz_mono k hq h3⟩)
      ·exact .inr (.inr ⟨i, off, l, p, h0, h1, h2, h3, hd, pz_mono k hq h4⟩))
 | .opAt b off r xs k, _, _, _, _, _, _, _, _, hq, h => by
  obtain ⟨n, us, as, p, μ', h0, h1, h2, h3, h4, h5⟩ := h
  exact ⟨n, us, as, p, μ', h0, h1, h2, h3, h4, pz_mono k hq h5⟩
 | .br x a b, _, _, _, _, _, _, _, _, hq, h => let ⟨t, h1, h2, h3⟩ := h; ⟨t, h1, fun e => pz_mono a hq (h2 e), fun e => pz_mono b hq (h3 e)⟩
 | .call f xs k, _, _, _, _, _, _, _, _, hq, h => by
  rcases h with ⟨as, r, μ', h1, h2, h3, h4⟩ | ⟨as, ps', r, μ', h1, h2, h3, h4⟩
  ·exact .inl ⟨as, r, μ', h1, h2, h3, pz_mono k hq h4⟩
  ·exact .inr ⟨as, ps', r, μ', h1, h2, h3, pz_mono k hq h4⟩
 | .callv f xs k, _, _, _, _, _, _, _, _, hq, h => let ⟨g, cs, as, r, μ', h0, h1, h2, h3, h4, h5⟩ := h; ⟨g, cs, as, r, μ', h0, h1, h2, h3, h4, pz_mono k hq h5⟩
 | .callm x name xs k, _, _, _, _, _, _, _, _, hq, h => let ⟨t, p, g, as, r, μ', h0, h1, h2, h3, h4, h5⟩ := h; ⟨t, p, g, as, r, μ', h0, h1, h2, h3, h4, pz_mono k hq h5⟩
 | .loop xs body k, _, _, _, _, _, _, _, _, hq, h => by
  obtain ⟨as, ps', n, vs, h1, h2, h3⟩ := h
  refine ⟨as, ps', n, vs, h1, h2, ?_⟩
  refine LoopP_mono ?_ ?_ n _ _ h3
  ·exact fun _ _ _ _ hp hw => pz_mono body hp hw
  ·exact fun _ _ _ hp => pz_mono k hq hp
 | .sw x c a b, _, _, _, _, _, _, _, _, hq, h => let ⟨n, h1, h2, h3⟩ := h; ⟨n, h1, fun e => pz_mono a hq (h2 e), fun e => pz_mono b hq (h3 e)⟩
 | .bump n k, _, _, _, _, _, _, _, _, hq, h => pz_mono k hq h
 | .save k, _, _, _, _, _, _, _, _, hq, h => pz_mono k hq h
 | .self x k, _, _, _, _, _, _, _, _, hq, h => ⟨h.1, pz_mono k hq h.2⟩
 | .chk i r xs x k, _, _, _, _, _, _, _, _, hq, h => ⟨h.1, pz_mono k hq h.2⟩
theorem pz_len {n : Nat} : ∀ (T : N) {m : Nat} {rv : Rv} {d : Bool} {hs : List Nat} {ps : List P} {μ : Mu} {Q : PPost}, finLen n T = true → pz E gl T m rv d hs ps μ Q → pz E gl T m rv d hs ps μ (fun o outs μ' => outs.length = n ∧ Q o outs μ')
 | .bad, _, _, _, _, _, _, _, _, h => h
 | .fin o xs, _, _, _, _, _, _, _, hn, h => by
  obtain ⟨as, ps', outs, h1, h2, h3⟩ := h
  have hl : outs.length = n := by
   have e1 : ∀ {xs : List X} {ps as ps' : List P}, takeL ps xs = some (as, ps') → as.length = xs.length := by
    intro xs
    induction xs with
    | nil => intro ps as ps' h; cases h; rfl
    | cons x xs ih =>
     intro ps as ps' h
     simp only [takeL] at h
     split at h
     ·split at h
      ·rename_i hq; cases h; simp [ih hq]
      ·cases h
     ·cases h
   have e2 : ∀ {as outs : List P}, LeL as outs → outs.length = as.length := by
    intro as outs h
    induction h with
    | nil => rfl
    | cons p q ps qs _ _ ih => simp [ih]
   rw [e2 h2, e1 h1]
   exact Nat.eq_of_beq_eq_true hn
  refine ⟨as, ps', outs, h1, h2, ?_⟩
  rcases h3 with h3 | ⟨k, a, b, c, d⟩
  ·exact .inl ⟨hl, h3⟩
  ·exact .inr ⟨k, a, b, c, hl, d⟩
 | .op r xs k, _, _, _, _, _, _, _, hn, h => by
  have ih := @pz_len n k
  cases r <;> first
   | (obtain ⟨as, p, h1, h2, h3⟩ := h; exact ⟨as, p, h1, h2, ih hn h3⟩)
   | (obtain ⟨as, p, μ', h1, h2, h3⟩ := h; exact ⟨as, p, μ', h1, h2, ih hn h3⟩)
   | (obtain ⟨s, h1, h2⟩ := h; exact ⟨s, h1, ih hn h2⟩)
   | (obtain ⟨s, h0, h1, h2⟩ := h; exact ⟨s, h0, h1, ih hn h2⟩)
   | (obtain ⟨i, off, p, ps', l, h1, h2, h3, h4, h5, h6⟩ := h; exact ⟨i, off, p, ps', l, h1, h2, h3, h4, h5, ih hn h6⟩)
   | (obtain ⟨p, q, ps', a, h1, h2, h3⟩ := h; exact ⟨p, q, ps', a, h1, h2, ih hn h3⟩)
   | (obtain ⟨i, s, pos, h0, h1, h2, h3, h4⟩ := h; exact ⟨i, s, pos, h0, h1, h2, fun e => ih hn (h3 e), fun e => ih hn (h4 e)⟩)
   | (rcases h with ⟨as, p, h1, h2, h3⟩ | ⟨i, off, p, h1, h2, hd, h3⟩ | ⟨i, off, l, p, h0, h1, h2, h3, hd, h4⟩
      ·exact .inl ⟨as, p, h1, h2, ih hn h3⟩
      ·exact .inr (.inl ⟨i, off, p, h1, h2, hd, ih hn h3⟩)
      ·exact .inr (.inr ⟨i, off, l, p, h0, h1, h2, h3, hd, ih hn h4⟩))
 | .opAt b off r xs k, _, _, _, _, _, _, _, hn, h => by
  obtain ⟨n, us, as, p, μ', h0, h1, h2, h3, h4, h5⟩ := h
  exact ⟨n, us, as, p, μ', h0, h1, h2, h3, h4, pz_len k hn h5⟩
 | .br x a b, _, _, _, _, _, _, _, hn, h => by
  simp only [finLen, Bool.and_eq_true] at hn
  obtain ⟨t, h1, h2, h3⟩ := h
  exact ⟨t, h1, fun e => pz_len a hn.1 (h2 e), fun e => pz_len b hn.2 (h3 e)⟩
 | .call f xs k, _, _, _, _, _, _, _, hn, h => by
  rcases h with ⟨as, r, μ', h1, h2, h3, h4⟩ | ⟨as, ps', r, μ', h1, h2, h3, h4⟩
  ·exact .inl ⟨as, r, μ', h1, h2, h3, pz_len k hn h4⟩
  ·exact .inr ⟨as, ps', r, μ', h1, h2, h3, pz_len k hn h4⟩
 | .callv f xs k, _, _, _, _, _, _, _, hn, h => by
  obtain ⟨g, cs, as, r, μ', h0, h1, h2, h3, h4, h5⟩ := h
  exact ⟨g, cs, as, r, μ', h0, h1, h2, h3, h4, pz_len k hn h5⟩
 | .callm x name xs k, _, _, _, _, _, _, _, hn, h => by
  obtain ⟨t, p, g, as, r, μ', h0, h1, h2, h3, h4, h5⟩ := h
  exact ⟨t, p, g, as, r, μ', h0, h1, h2, h3, h4, pz_len k hn h5⟩
 | .loop xs body k, _, _, _, _, _, _, _, hn, h => by
  obtain ⟨as, ps', j, vs, h1, h2, h3⟩ := h
  refine ⟨as, ps', j, vs, h1, h2, ?_⟩
  refine LoopP_mono ?_ ?_ j vs _ h3
  ·exact fun _ _ _ _ hp hw => pz_mono body hp hw
  ·exact fun _ _ _ hp => pz_len k hn hp
 | .sw x c a b, _, _, _, _, _, _, _, hn, h => by
  simp only [finLen, Bool.and_eq_true] at hn
  obtain ⟨j, h1, h2, h3⟩ := h
  exact ⟨j, h1, fun e => pz_len a hn.1 (h2 e), fun e => pz_len b hn.2 (h3 e)⟩
 | .bump _ k, _, _, _, _, _, _, _, hn, h => pz_len k hn h
 | .save k, _, _, _, _, _, _, _, hn, h => pz_len k hn h
 | .self x k, _, _, _, _, _, _, _, hn, h => ⟨h.1, pz_len k hn h.2⟩
 | .chk i r xs x k, _, _, _, _, _, _, _, hn, h => ⟨h.1, pz_len k hn h.2⟩

theorem zpure {k : N} (ih : IZ E gl k) {m : Nat} {rv : Rv} {d : Bool} {hs : List Nat} {C : En} {σ : Sg} {ps : List P} {gs : List Nat} {μ : Mu} {gm : List Nat} {L : List Ls} {H : List St} {A : St} {β : List Nat} {S : Nat → Prop} {Q : PPost} {r : SX.R} {xs : List X} {as : List P} {p : P}
  (R : RS gl A β S (Free σ rv) σ ps gs μ gm) (hrv : rvOk rv σ) (hL : LzR β S A σ d hs ps μ L C H) (hT : okT k (σ.length + 1) (noteS xs σ.length L) (noteC r xs σ.length C) = true) (hm : m ≤ μ.length) (hd : denF ps xs = some as) (hsm : semP r as = some p) (hk : pz E gl k m rv d hs (ps ++ [p]) μ Q) :
  wp E (.op r xs k) σ H A (Res gl m A β S (Free σ rv) gs gm Q) := by
 obtain ⟨v, h1, h2⟩ := semP_ok (denF_ok R.vars hd) hsm
 have hv := h1 A fun _ _ => rfl
 refine ⟨v, A, hv, ?_⟩
 have R1 := R.pure h2
 have hL1 := hL.note R.vars (μ' := μ) (q := p) hv (.inl ⟨as, p, hd, hsm, rfl⟩) fun _ => rfl
 rw [← Free_append hrv [v]] at R1 ⊢
 rw [← len1 σ v] at hT
 exact ih R1 (hrv.append _) hL1 hT hm hk

theorem znew {k : N} (ih : IZ E gl k) {m : Nat} {rv : Rv} {d : Bool} {hs : List Nat} {C : En} {σ : Sg} {ps : List P} {gs : List Nat} {μ μ' : Mu} {gm : List Nat} {L : List Ls} {H : List St} {A : St} {β : List Nat} {S : Nat → Prop} {Q : PPost} {r : SX.R} {xs : List X} {as : List P} {p : P}
  (R : RS gl A β S (Free σ rv) σ ps gs μ gm) (hrv : rvOk rv σ) (hL : LzR β S A σ d hs ps μ L C H) (hT : okT k (σ.length + 1) L C = true) (hm : m ≤ μ.length) (hd : denF ps xs = some as) (hsm : newP? r as μ = some (p, μ')) (hk : pz E gl k m rv d hs (ps ++ [p]) μ' Q) :
  wp E (.op r xs k) σ H A (Res gl m A β S (Free σ rv) gs gm Q) := by
 obtain ⟨v, A1, o, h1, h2, h3, h4, h5, h6⟩ := newP_ok R (m := m) (b := A.next) (.inl (Nat.le_refl _)) (denF_ok R.vars hd) hsm hm
 obtain ⟨β', S', gm', R1, E1, hβ⟩ := h6 A1 (Free σ rv) rfl rfl (by omega) (by omega) fun c hc => ⟨hc, fun e => absurd (R.F_lt c hc) (by omega)⟩
 refine ⟨v, A1, h1, ?_⟩
 have hh : ∀ c, c < A.next → A1.h.get c = A.h.get c := fun c hc => by rw [h4]; exact T.get_set_other _ _ (by omega)
 obtain ⟨x, hx⟩ := newP_grow hsm
 have hL1 := (hL.step R.vars (grow_get hx) (B := A1) (S' := S') (β' := β') (fun c hc => hh c (R.S_lt c hc)) E1.oldS hβ fun c hc => hh c (R.β_lt c hc)).var R.vars.length.symm v p
 have R2 := R1
 rw [← Free_append hrv [v]] at R2
 rw [← len1 σ v] at hT
 refine SX.wp_mono k (fun o outs B hB => hB.trans E1 (Nat.le_refl _) fun b hb => ?_) (ih R2 (hrv.append _) hL1 hT (Nat.le_trans hm h5) hk)
 rw [Free_append hrv] at hb
 exact .inl hb

/-- A call, in whichever way its values are handed on. -/
theorem zcall {k : N} (ih : IZ E gl k) {m : Nat} {rv : Rv} {d : Bool} {hs : List Nat} {C : En} {σ : Sg} {ps ps' : List P} {gs g gs1 : List Nat} {μ μ' : Mu} {gm : List Nat} {L : List Ls} {H : List St} {A : St} {β : List Nat} {S : Nat → Prop} {Q : PPost} {f : FuncId} {vs : List Value} {as : List P} {r : P}
  (R : RS gl A β S (Free σ rv) σ ps gs μ gm) (hrv : rvOk rv σ) (hL : LzR β S A σ d hs ps' μ L C H) (hT : okT k (σ.length + 1) L C = true) (hm : m ≤ μ.length) (hσ : RepO β S A σ ps' gs1) (hp : gs.Perm (g ++ gs1)) (ha : RepO β S A vs as g) (hP : PR E gl f as μ r μ') (hl : μ.length ≤ μ'.length)
  (hk : pz E gl k m rv true hs (ps' ++ [r]) μ' Q) : ∃ v B, Runs E f vs A v B ∧ wp E k (σ ++ [v]) H B (Res gl m A β S (Free σ rv) gs gm Q) := by
 have Ra : RS gl A β S noF vs as g μ gm := R.noF.setVars ha ⟨gs1, hp.trans List.perm_append_comm⟩
 obtain ⟨v, B, β', S', gs2, gm2, h1, h2, h3⟩ := hP A β S vs g gm Ra
 obtain ⟨R1, E1, hS, hβ⟩ := R.call (m := m) hσ hp ha h2 h3 hm
 refine ⟨v, B, h1, ?_⟩
 have hL1 := (hL.dirty hσ (B := B) (S' := S') (β' := β') μ' hS E1.oldS hβ).var hσ.length.symm v r
 rw [← Free_append hrv [v]] at R1
 rw [← len1 σ v] at hT
 refine SX.wp_mono k (fun o outs C hC => hC.trans E1 (Nat.le_refl _) fun b hb => ?_) (ih R1 (hrv.append _) hL1 hT (Nat.le_trans hm hl) hk)
 rw [Free_append hrv] at hb
 exact .inl hb

/-- A loop. -/
theorem zloop {body k : N} (ihb : IZ E gl body) (ihk : IZ E gl k) {m : Nat} {d : Bool} {hs : List Nat} {C : En} {σ : Sg} {ps0 : List P} {gs : List Nat} {μ : Mu} {gm : List Nat} {L : List Ls} {H : List St} {A : St} {β : List Nat} {S F : Nat → Prop} {Q : PPost} {w : Nat}
  (hlen : β.length = μ.length) (hσ : RepL β S A.h σ ps0) (hLl : LzR β S A σ d hs ps0 μ L C H) (hT1 : finLen w body = true) (hT2 : okT body (σ.length + w) (offS L) [] = true) (hT3 : okT k (σ.length + 1 + w) (offS L) [] = true) (hm : m ≤ μ.length) : ∀ (n : Nat) {vs : List P} {ws : List Value} {B : St} {β' : List Nat} {S' : Nat → Prop} {gs' : List Nat} {μ' : Mu} {gm' : List Nat},
  RS gl B β' S' noF ws vs gs' μ' gm' → Ext μ.length A β S F gs gm B β' S' gs' gm' → μ.length ≤ μ'.length → (∀ c, S c → B.h.get c = A.h.get c) → vs.length = w →
  LoopP (fun vs μ' Q' => pz E gl body μ.length none false hs (ps0 ++ vs) μ' Q') (fun o outs μ' => pz E gl k m none false hs (ps0 ++ .c (goInt o) :: outs) μ' Q) n vs μ' →
  LoopN (fun vs A Q' => wp E body (σ ++ vs) H A Q') (fun o outs A' => wp E k (σ ++ goInt o :: outs) H A' (Res gl m A β S F gs gm Q)) n ws B
 | 0, _, _, _, _, _, _, _, _, _, _, _, _, _, h => h.elim
 | n + 1, vs, ws, B, β', S', gs', μ', gm', R, hE, hl, hS, hw, h => by
  have hβ : ∀ {β'' : List Nat} (_ : ∀ i, i < μ.length → β''[i]? = β[i]?) (i c : Nat), β[i]? = some c → β''[i]? = some c := fun h i c hi => by
   rw [h i (by rw [← hlen]; exact (List.getElem?_eq_some_iff.1 hi).1)]; exact hi
  have hσB : RepL β' S' B.h σ ps0 := hσ.mono hE.oldS hS (hβ hE.objs)
  have RB : RS gl B β' S' (Free (σ ++ ws) none) (σ ++ ws) (ps0 ++ vs) gs' μ' gm' :=
   R.setVars (by have := (RepO.of hσB).append R.vars; rwa [List.nil_append] at this) ⟨[], .refl _⟩
  have hwl : ws.length = w := by rw [R.vars.length]; exact hw
  have hTb : okT body (σ ++ ws).length (offS L) [] = true := by rw [List.length_append, hwl]; exact hT2
  have h2 : pz E gl body μ.length none false hs (ps0 ++ vs) μ' _ := pz_len body hT1 h
  have hwp := ihb RB trivial (hLl.off _ _ _ _ _ _ _ noEn) hTb hl h2
  refine SX.wp_mono body ?_ hwp
  rintro o outs C ⟨outsP, β2, S2, gs2, μ2, gm2, ⟨hol, hQ⟩, hm2, R2, E2⟩
  have E2' : Ext μ.length A β S F gs gm C β2 S2 gs2 gm2 := hE.trans E2 (Nat.le_refl _) (fun b hb => hb.elim)
  have hSC : ∀ c, S c → C.h.get c = A.h.get c := fun c hc => by
   refine (E2.keep.heap c (RB.S_lt c (hE.oldS c hc)) fun e => ?_).trans (hS c hc)
   rcases e with e | e
   ·exact RB.β_S c e (hE.oldS c hc)
   ·exact e.elim
  cases o with
  | zero => exact zloop ihb ihk hlen hσ hLl hT1 hT2 hT3 hm n R2 E2' hm2 hSC hol hQ
  | succ o =>
   have hσC : RepL β2 S2 C.h σ ps0 := hσ.mono E2'.oldS hSC (hβ E2'.objs)
   have RC : RS gl C β2 S2 (Free (σ ++ goInt (o + 1 : Nat) :: outs) none) (σ ++ goInt (o + 1 : Nat) :: outs) (ps0 ++ .c (goInt (o + 1 : Nat)) :: outsP) gs2 μ2 gm2 := by
    refine R2.setVars ?_ ⟨[], .refl _⟩
    have := (RepO.of hσC).append (RepO.cons _ _ [] _ _ _ (Rep.toT (A := C) (.c (goInt (o + 1 : Nat)))) R2.vars)
    simpa using this
   have hTk : okT k (σ ++ goInt (o + 1 : Nat) :: outs).length (offS L) [] = true := by
    have e : outs.length = w := by rw [R2.vars.length]; exact hol
    rw [List.length_append, List.length_cons, e, show σ.length + (w + 1) = σ.length + 1 + w by omega]
    exact hT3
   have := ihk RC trivial (hLl.off _ _ _ _ _ _ _ noEn) hTk (Nat.le_trans hm hm2) hQ
   exact SX.wp_mono k (fun _ _ D hD => hD.trans (m := m) ⟨E2'.keep, fun i hi => E2'.objs i (by omega), E2'.newβ, E2'.oldS, E2'.newS, E2'.newg⟩ (Nat.le_refl _) fun b hb => hb.elim) this

theorem pz_ok : ∀ (T : N), IZ E gl T
 | .bad => fun _ _ _ _ _ h => h.elim
 | .fin o xs => by
  rename_i m rv d hs C σ ps gs μ gm L H A β S Q
  intro R hrv hL hT hm h
  obtain ⟨as, ps', outs, h1, h2, h3⟩ := h
  obtain ⟨g, gs1, e1, e2, e3⟩ := takeL_ok R.vars h1
  obtain ⟨g2, e4, d, e5⟩ := LeL_ok e1 h2
  have hperm : gs.Perm ((gs1 ++ d) ++ g2) := by
   refine e3.trans ?_
   refine List.perm_append_comm.trans ?_
   rw [List.append_assoc]
   exact e5.append_left gs1
  have R1 : RS gl A β S noF (denL σ xs) outs g2 μ gm := R.noF.setVars e4 ⟨_, hperm⟩
  have E1 : Ext m A β S (Free σ rv) gs gm A β S g2 gm := Ext.refl m A β S _ gs gm fun k hk => by
   rcases List.mem_append.1 hk with h | h
   ·exact List.mem_append_left _ (hperm.symm.subset (List.mem_append_right _ h))
   ·exact List.mem_append_right _ h
  rcases h3 with h3 | ⟨k, h4, h5, h6, h7⟩
  ·exact ⟨outs, β, S, g2, μ, gm, h3, hm, R1, E1⟩
  ·obtain ⟨gm', R2, E2⟩ := R1.trunc h4 h5 h6
   exact ⟨outs, _, S, g2, _, gm', h7, by rw [List.length_take]; omega, R2, E1.trans E2 (Nat.le_refl _) fun b hb => hb.elim⟩
 | .op r xs k => by
  have ih := @pz_ok k
  rename_i m rv d hs C σ ps gs μ gm L H A β S Q
  intro R hrv hL hT hm h
  have hpl := R.vars.length
  cases r <;> first
   | (obtain ⟨as, p, h1, h2, h3⟩ := h
      exact zpure ih R hrv hL hT hm h1 h2 h3)
   | (obtain ⟨as, p, μ', h1, h2, h3⟩ := h
      exact znew ih R hrv hL hT hm h1 h2 h3)
   | skip
  case toBytes e =>
   obtain ⟨s, h1, h2⟩ := h
   obtain ⟨v, hv, hr⟩ := inv1 (denF_ok R.vars h1)
   cases hr
   let B : St := { A with next := A.next + 1, h := A.h.set A.next (.row { own := true, size := s.size, cells := T.ofList (s.data.toList.map fun c => .int .u8 c.toNat), elem := e, esz := 1, opn := true, grp := A.next, frz := 0, sb := true }) }
   have hsz : (s.data.toList.map fun c => Value.int .u8 c.toNat).length = s.size := by rw [List.length_map, Array.length_toList]; rfl
   have hrep : Rep β (orB S A.next) B.h (.slice (some ⟨A.next, 0, none⟩) s.size s.size) (.sl 1 s.size (s.data.toList.map fun b => .c (.int .u8 b.toNat))) := by
    refine .sl _ 1 s.size s.size (s.data.toList.map fun c => .int .u8 c.toNat) _ (.inr rfl) ⟨rfl, _, T.get_set_same _ _ _, fun _ => rfl, by simp only [hsz]; omega, ?_, fun i hi => by rw [Nat.zero_add]; exact T.get_ofList _ i⟩ (by rw [hsz]; omega) (Nat.le_refl _) ?_
    ·rw [List.all_eq_true]
     intro y hy
     obtain ⟨b, _, rfl⟩ := List.mem_map.1 hy
     rfl
    ·exact repL_map (A := B) _ _ _ fun x _ => .c _
   obtain ⟨R1, E1⟩ := R.newRow (m := m) (b := A.next) (B := B) (F' := Free σ rv) (.inl (Nat.le_refl _)) rfl rfl (Nat.le_succ _) (Nat.lt_succ_self _) (fun c hc => ⟨hc, fun e => absurd (R.F_lt c hc) (by omega)⟩) hrep
   refine ⟨_, B, by rw [hv]; rfl, ?_⟩
   have hh : ∀ c, c < A.next → B.h.get c = A.h.get c := fun c hc => T.get_set_other _ _ (by omega)
   have hL1 := (hL.step R.vars (fun _ _ h => h) (B := B) (S' := orB S A.next) (β' := β) (fun c hc => hh c (R.S_lt c hc)) E1.oldS (fun _ h => h) fun c hc => hh c (R.β_lt c hc)).var R.vars.length.symm (.slice (some ⟨A.next, 0, none⟩) s.size s.size) (.sl 1 s.size (s.data.toList.map fun b => .c (.int .u8 b.toNat)))
   rw [← Free_append hrv [.slice (some ⟨A.next, 0, none⟩) s.size s.size]] at R1
   refine SX.wp_mono k (fun o outs C hC => hC.trans E1 (Nat.le_refl _) fun b hb => ?_) (ih R1 (hrv.append _) hL1 (by rw [len1]; exact hT) hm h2)
   rw [Free_append hrv] at hb
   exact .inl hb
  case load n h =>
   rcases h with ⟨i, off, p, h1, h2, hd, h3⟩ | ⟨i, off, l, p, rfl, h1, h2, h3, hd, h4⟩
   ·obtain ⟨v, hv, hr⟩ := inv1 (denF_ok R.vars h1)
    cases hr with
    | lp _ b _ hb =>
     obtain ⟨w, e1, e2⟩ := R.loadL hb h2
     have hw : semR (.load n) (denL σ xs) A = some (w, A) := by rw [hv]; exact e1 A rfl
     refine ⟨w, A, hw, ?_⟩
     have R1 := R.pure e2
     rw [← Free_append hrv [w]] at R1 ⊢
     rcases hd with rfl | hd
     ·exact ih R1 (hrv.append _) (hL.note R.vars (μ' := μ) (q := fz p) hw (.inr ⟨n, i, off, p, rfl, h1, h2, fz_fz p, rfl⟩) fun _ => rfl) (by rw [len1]; exact hT) hm h3
     ·exact ih R1 (hrv.append _) (hL.off β S A _ d _ μ (en_lp R.vars hL h1 w (fz p))) (by rw [len1]; exact okT_any k hd (by simp [noteS, offS]) hT) hm h3
   ·obtain ⟨v, hv, hr⟩ := inv1 (denF_ok R.vars h1)
    cases hr with
    | lp _ b _ hb =>
     obtain ⟨w, gs', gm', e1, R1, E1⟩ := R.moveOut (m := m) hb h2 h3
     have hw : semR (.load none) (denL σ xs) A = some (w, A) := by rw [hv]; exact e1
     refine ⟨w, A, hw, ?_⟩
     rw [← Free_append hrv [w]] at R1
     refine SX.wp_mono k (fun o outs C hC => hC.trans E1 (Nat.le_refl _) fun b hb => ?_) (Q := Res gl m A β S (Free (σ ++ [w]) rv) gs' gm' Q) ?_
     ·rw [Free_append hrv] at hb
      exact .inl hb
     ·rcases hd with rfl | hd
      ·exact ih R1 (hrv.append _) (hL.note R.vars (μ' := μ.set i (.cells (l.set off (fz p)))) (q := p) hw (.inr ⟨none, i, off, p, rfl, h1, by unfold loadP; rw [h2]; exact h3, rfl, rfl⟩) (set_fz h2 h3)) (by rw [len1]; exact hT) (by rw [List.length_set]; exact hm) h4
      ·exact ih R1 (hrv.append _) (hL.off β S A _ d _ _ (en_lp R.vars hL h1 w p)) (by rw [len1]; exact okT_any k hd (by simp [noteS, offS]) hT) (by rw [List.length_set]; exact hm) h4
  case store n =>
   obtain ⟨i, off, p, ps', l, h1, h2, h3, h4, h5, h6⟩ := h
   obtain ⟨g, gs1, e1, e2, e3⟩ := takeL_ok R.vars h1
   obtain ⟨u, v, hv, g1, g2, hu, hvp, rfl⟩ : ∃ u v, denL σ xs = [u, v] ∧ ∃ g1 g2, RepT β S A u (.lp i off) g1 ∧ RepT β S A v p g2 ∧ g = g1 ++ (g2 ++ []) := by
    generalize denL σ xs = ws at e1
    cases e1 with
    | cons u _ g1 _ _ _ k1 k2 =>
     cases k2 with
     | cons v _ g2 _ _ _ k3 k4 => cases k4; exact ⟨u, v, rfl, g1, g2, k1, k3, rfl⟩
   obtain ⟨hu, rfl⟩ := hu
   rw [List.append_nil, List.nil_append] at e3
   cases hu with
   | lp _ b _ hb =>
    obtain ⟨B, gm', hs, hh, hBn, hBg, R1, E1⟩ := R.store (m := m) hb h2 e2 hvp e3 h3 h4 h5
    refine ⟨undef, B, by rw [hv]; exact hs, ?_⟩
    have hL1 := ((hL.pss (takeL_fz h1).1 (takeL_fz h1).2).dirty e2 (B := B) (S' := S) (β' := β) (μ.set i (.cells (setFromP l off (pcells p)))) (fun c hc => hh c fun e => R.β_S b (List.mem_of_getElem? hb) (e ▸ hc)) (fun _ h => h) fun _ h => h).var e2.length.symm undef (.c undef)
    rw [← Free_append hrv [undef]] at R1
    refine SX.wp_mono k (fun o outs C hC => hC.trans E1 (Nat.le_refl _) fun b hb => ?_) (ih R1 (hrv.append _) hL1 (by rw [len1]; exact hT) (by rw [List.length_set]; exact hm) h6)
    rw [Free_append hrv] at hb
    exact .inl hb
  case app e i z =>
   obtain ⟨p, q, ps', a, h1, h2, h3⟩ := h
   obtain ⟨g, gs1, e1, e2, e3⟩ := takeL_ok R.vars h1
   obtain ⟨u, v, hv⟩ : ∃ u v, denL σ xs = [u, v] := by
    generalize denL σ xs = ws at e1
    cases e1 with
    | cons u _ g1 _ _ _ k1 k2 =>
     cases k2 with
     | cons v _ g2 _ _ _ k3 k4 => cases k4; exact ⟨u, v, rfl⟩
   rw [hv] at e1
   obtain ⟨w, B, S', g2, hs, R1, E1, hhb⟩ := app_ok R (m := m) e2 e3 e1 h2
   refine ⟨w, B, by rw [hv]; exact hs, ?_⟩
   have hhS : ∀ c, S c → B.h.get c = A.h.get c := fun c hc => E1.keep.heap c (R.S_lt c hc) fun e => by
    rcases e with e | e
    ·exact R.β_S c e hc
    ·exact R.F_S c e hc
   have hhβ : ∀ c, c ∈ β → B.h.get c = A.h.get c := fun c hc => hhb c (R.β_lt c hc)
   have hL1 := ((hL.pss (takeL_fz h1).1 (takeL_fz h1).2).step e2 (fun _ _ h => h) (B := B) (S' := S') (β' := β) hhS E1.oldS (fun _ h => h) hhβ).var e2.length.symm w a
   rw [← Free_append hrv [w]] at R1
   refine SX.wp_mono k (fun o outs C hC => hC.trans E1 (Nat.le_refl _) fun b hb => ?_) (ih R1 (hrv.append _) hL1 (by rw [len1]; exact hT) hm h3)
   rw [Free_append hrv] at hb
   exact .inl hb
  case range str =>
   obtain ⟨s, rfl, h1, h2⟩ := h
   obtain ⟨v, hv, hr⟩ := inv1 (denF_ok R.vars h1)
   cases hr
   have hlen := R.objs.length
   let B : St := { A with next := A.next + 1, h := A.h.set A.next (.siter s 0) }
   have idx : (β ++ [A.next])[μ.length]? = some A.next := by rw [← hlen, List.getElem?_append_right (Nat.le_refl _)]; simp
   obtain ⟨R1, E1⟩ := R.newIt (m := m) (b := A.next) (B := B) (F' := Free σ rv) (.inl (Nat.le_refl _)) rfl rfl (Nat.le_succ _) (Nat.lt_succ_self _) (fun c hc => ⟨hc, fun e => absurd (R.F_lt c hc) (by omega)⟩) (fun h => .lp _ A.next 0 idx) (by omega)
   refine ⟨.pointer (some ⟨A.next, 0, none⟩), B, by rw [hv]; rfl, ?_⟩
   have hh : ∀ c, c < A.next → B.h.get c = A.h.get c := fun c hc => T.get_set_other _ _ (by omega)
   have hL1 := (hL.step R.vars (grow_get (x := [.sit s 0]) rfl) (B := B) (S' := S) (β' := β ++ [A.next]) (fun c hc => hh c (R.S_lt c hc)) (fun _ h => h) (fun c hc => List.mem_append_left _ hc) fun c hc => hh c (R.β_lt c hc)).var R.vars.length.symm (.pointer (some ⟨A.next, 0, none⟩)) (.lp μ.length 0)
   rw [← Free_append hrv [.pointer (some ⟨A.next, 0, none⟩)]] at R1
   refine SX.wp_mono k (fun o outs C hC => hC.trans E1 (Nat.le_refl _) fun b hb => ?_) (ih R1 (hrv.append _) hL1 (by rw [len1]; exact hT) (by rw [List.length_append]; omega) h2)
   rw [Free_append hrv] at hb
   exact .inl hb
  case next str =>
   obtain ⟨i, s, pos, rfl, h1, h2, h3, h4⟩ := h
   obtain ⟨v, hv, hr⟩ := inv1 (denF_ok R.vars h1)
   cases hr with
   | lp _ b _ hb =>
    have hat := R.objs.atIt hb h2
    have hbm : b ∈ β := List.mem_of_getElem? hb
    by_cases hp : pos < s.size
    ·let B : St := A.setObj b (.siter s (pos + (Utf8.decode s pos).2))
     let u : Value := .tuple #[.bool true, goInt pos, .int .i32 (Utf8.decode s pos).1]
     have hrep : ∀ h, Rep β S h u (.tup [.c (.bool true), .c (goInt pos), .c (.int .i32 (Utf8.decode s pos).1)]) := fun h =>
      .tup [.bool true, goInt pos, .int .i32 (Utf8.decode s pos).1] _ (.cons _ _ _ _ (.c _) (.cons _ _ _ _ (.c _) (.one (.c _))))
     obtain ⟨R1, E1⟩ := R.stepIt (m := m) (B := B) hb h2 rfl rfl rfl hrep
     refine ⟨u, B, ?_, ?_⟩
     ·rw [hv]
      show (match A.h.get b with
       | some (.siter s pos) => if pos < s.size then some (Value.tuple #[.bool true, goInt pos, .int .i32 (Utf8.decode s pos).1], A.setObj b (.siter s (pos + (Utf8.decode s pos).2))) else some (.tuple #[.bool false], A)
       | _ => none) = _
      rw [hat]
      simp only [if_pos hp]
      rfl
     have hL1 := (hL.dirty R.vars (B := B) (S' := S) (β' := β) (μ.set i (.sit s (pos + (Utf8.decode s pos).2))) (fun c hc => T.get_set_other _ _ fun e => R.β_S b hbm (e ▸ hc)) (fun _ h => h) fun _ h => h).var R.vars.length.symm u (.tup [.c (.bool true), .c (goInt pos), .c (.int .i32 (Utf8.decode s pos).1)])
     rw [← Free_append hrv [u]] at R1
     refine SX.wp_mono k (fun o outs C hC => hC.trans E1 (Nat.le_refl _) fun b hb => ?_) (ih R1 (hrv.append _) hL1 (by rw [len1]; exact hT) (by rw [List.length_set]; exact hm) (h3 hp))
     rw [Free_append hrv] at hb
     exact .inl hb
    ·refine ⟨.tuple #[.bool false], A, ?_, ?_⟩
     ·rw [hv]
      show (match A.h.get b with
       | some (.siter s pos) => if pos < s.size then some (Value.tuple #[.bool true, goInt pos, .int .i32 (Utf8.decode s pos).1], A.setObj b (.siter s (pos + (Utf8.decode s pos).2))) else some (.tuple #[.bool false], A)
       | _ => none) = _
      rw [hat]
      simp only [if_neg hp]
     have R1 := R.pure (v := .tuple #[.bool false]) (p := .tup [.c (.bool false)]) (.tup [.bool false] _ (.one (.c _)))
     have hL1 := (hL.dirty R.vars (B := A) (S' := S) (β' := β) μ (fun _ _ => rfl) (fun _ h => h) fun _ h => h).var R.vars.length.symm (.tuple #[.bool false]) (.tup [.c (.bool false)])
     rw [← Free_append hrv [.tuple #[.bool false]]] at R1 ⊢
     exact ih R1 (hrv.append _) hL1 (by rw [len1]; exact hT) hm (h4 (by omega))
 | .opAt b off r xs k => by
  have ih := @pz_ok k
  rename_i m rv d hs C σ ps gs μ gm L H A β S Q
  intro R hrv hL hT hm h
  obtain ⟨n, us, as, p, μ', rfl, h1, h2, h3, h4, h5⟩ := h
  have hF : Free σ (some (b, n, us)) (natV (SX.look σ b) + off) := ⟨off, h1, h2, rfl⟩
  obtain ⟨v, A1, o, e1, e2, e3, e4, e5, e6⟩ := newP_ok R (m := m) (b := natV (SX.look σ b) + off) (.inr hF) (denF_ok R.vars h3) h4 hm
  have hlt := R.F_lt _ hF
  obtain ⟨β', S', gm', R1, E1, hβ⟩ := e6 { A1 with next := A.next } (Free σ (some (b, n, off :: us))) rfl rfl (Nat.le_refl _) hlt fun c hc => by
   obtain ⟨j, j1, j2, j3⟩ := hc
   simp only [List.mem_cons, not_or] at j2
   exact ⟨⟨j, j1, j2.2, j3⟩, by omega⟩
  refine ⟨v, A1, e1, ?_⟩
  have f := R.fresh (.inr hF)
  have hh : ∀ c, c ≠ natV (SX.look σ b) + off → A1.h.get c = A.h.get c := fun c hc => by rw [e4]; exact T.get_set_other _ _ hc
  obtain ⟨gx, hgx⟩ := newP_grow h4
  have hL1 := (hL.step R.vars (grow_get hgx) (B := { A1 with next := A.next }) (S' := S') (β' := β') (fun c hc => hh c fun e => f.2.1 (e ▸ hc)) E1.oldS hβ fun c hc => hh c fun e => f.1 (e ▸ hc)).var R.vars.length.symm v p
  have hrv' : rvOk (some (b, n, off :: us)) σ := hrv
  rw [← Free_append hrv' [v]] at R1
  refine SX.wp_mono k (fun o outs C hC => hC.trans E1 (Nat.le_refl _) fun c hc => ?_) (ih R1 (hrv'.append _) hL1 (by rw [len1]; exact hT) (Nat.le_trans hm e5) h5)
  rw [Free_append hrv'] at hc
  obtain ⟨j, j1, j2, j3⟩ := hc
  simp only [List.mem_cons, not_or] at j2
  exact .inl ⟨j, j1, j2.2, j3⟩
 | .br x a b => by
  have iha := @pz_ok a
  have ihb := @pz_ok b
  rename_i m rv d hs C σ ps gs μ gm L H A β S Q
  intro R hrv hL hT hm h
  obtain ⟨t, h1, h2, h3⟩ := h
  obtain ⟨v, hv, hr⟩ := inv1 (denF_ok R.vars h1)
  cases hr
  simp only [denL, List.map_cons, List.map_nil, List.cons.injEq, and_true] at hv
  simp only [okT, Bool.and_eq_true] at hT
  exact ⟨t, hv, fun e => iha R hrv hL hT.1 hm (h2 e), fun e => ihb R hrv hL hT.2 hm (h3 e)⟩
 | .call f xs k => by
  have ih := @pz_ok k
  rename_i m rv d hs C σ ps gs μ gm L H A β S Q
  intro R hrv hL hT hm h
  rcases h with ⟨as, r, μ', h1, h2, h3, h4⟩ | ⟨as, ps', r, μ', h1, h2, h3, h4⟩
  ·obtain ⟨v, B, e1, e2⟩ := zcall ih R hrv hL hT hm R.vars (g := []) (.refl _) (RepO.of (denF_ok R.vars h1)) h2 h3 h4
   exact ⟨v, B, e1, e2⟩
  ·obtain ⟨g, gs1, k1, k2, k3⟩ := takeL_ok R.vars h1
   obtain ⟨v, B, e1, e2⟩ := zcall ih R hrv (hL.pss (takeL_fz h1).1 (takeL_fz h1).2) hT hm k2 k3 k1 h2 h3 h4
   exact ⟨v, B, e1, e2⟩
 | .callv f xs k => by
  have ih := @pz_ok k
  rename_i m rv d hs C σ ps gs μ gm L H A β S Q
  intro R hrv hL hT hm h
  obtain ⟨g, cs, as, r, μ', h0, hfn, h1, h2, h3, h4⟩ := h
  obtain ⟨v, hv, hr⟩ := inv1 (denF_ok R.vars h0)
  simp only [denL, List.map_cons, List.map_nil, List.cons.injEq, and_true] at hv
  cases hr with
  | fn _ ws _ hws =>
   obtain ⟨w, B, e1, e2⟩ := zcall ih R hrv hL hT hm R.vars (g := []) (.refl _) ((denF_ok R.vars h1).repO_nil hws) h2 h3 h4
   refine ⟨g, #[], ws.toArray, w, B, hv, hfn, ?_, e2⟩
   simpa using e1
 | .callm x name xs k => by
  have ih := @pz_ok k
  rename_i m rv d hs C σ ps gs μ gm L H A β S Q
  intro R hrv hL hT hm h
  obtain ⟨t, p, g, as, r, μ', h0, hfn, h1, h2, h3, h4⟩ := h
  obtain ⟨v, hv, hr⟩ := inv1 (denF_ok R.vars h0)
  simp only [denL, List.map_cons, List.map_nil, List.cons.injEq, and_true] at hv
  cases hr with
  | ifc _ u _ hu =>
   obtain ⟨w, B, e1, e2⟩ := zcall ih R hrv hL hT hm R.vars (g := []) (.refl _) (RepO.of (.cons _ _ _ _ hu (denF_ok R.vars h1))) h2 h3 h4
   exact ⟨g, u :: denL σ xs, w, B, by rw [hv]; exact hfn A u _, e1, e2⟩
 | .loop xs body k => by
  have ihb := @pz_ok body
  have ihk := @pz_ok k
  rename_i m rv d hs C σ ps gs μ gm L H A β S Q
  intro R hrv hL hT hm h
  obtain ⟨as, ps', n, vs, h1, h2, h3⟩ := h
  obtain ⟨g, gs1, e1, e2, e3⟩ := takeL_ok R.vars h1
  obtain ⟨g2, e4, dd, e5⟩ := LeL_ok e1 h2
  have hperm : gs.Perm ((gs1 ++ dd) ++ g2) := by
   refine e3.trans ?_
   refine List.perm_append_comm.trans ?_
   rw [List.append_assoc]
   exact e5.append_left gs1
  have R1 : RS gl A β S noF (denL σ xs) vs g2 μ gm := R.noF.setVars e4 ⟨_, hperm⟩
  have E1 : Ext μ.length A β S (Free σ rv) gs gm A β S g2 gm := Ext.refl _ A β S _ gs gm fun k hk => by
   rcases List.mem_append.1 hk with h | h
   ·exact List.mem_append_left _ (hperm.symm.subset (List.mem_append_right _ h))
   ·exact List.mem_append_right _ h
  simp only [okT, Bool.and_eq_true] at hT
  have hL2 : LzR β S A σ d hs (ps'.map fz) μ L C H := by
   refine (hL.pss (takeL_fz h1).1 (takeL_fz h1).2).pss (by simp) fun k => ?_
   rw [List.getD_eq_getElem?_getD, List.getD_eq_getElem?_getD, List.getElem?_map]
   cases ps'[k]? with
   | none => rfl
   | some q => exact fz_fz q
  have hvl : vs.length = xs.length := by
   rw [← R1.vars.length]; simp [denL]
  exact ⟨n, zloop ihb ihk R.objs.length e2.fz hL2 hT.1 hT.2.1 hT.2.2 hm n R1 E1 (Nat.le_refl _) (fun _ _ => rfl) hvl h3⟩
 | .sw x c a b => by
  have iha := @pz_ok a
  have ihb := @pz_ok b
  rename_i m rv d hs C σ ps gs μ gm L H A β S Q
  intro R hrv hL hT hm h
  obtain ⟨n, h1, h2, h3⟩ := h
  have e : natV (SX.look σ x) = n := by
   have hlt : x < ps.length := by
    rcases Nat.lt_or_ge x ps.length with g | g
    ·exact g
    ·rw [List.getD_eq_getElem?_getD, List.getElem?_eq_none g] at h1; cases h1
   have hr := R.vars.look x
   rw [List.getD_eq_getElem?_getD, List.getElem?_eq_getElem hlt] at h1 hr
   simp only [Option.getD_some] at h1 hr
   generalize ps[x] = q at h1 hr
   generalize SX.look σ x = u at hr
   cases q <;> first
    | (cases h1; done)
    | skip
   simp only [natP, Option.some.injEq] at h1
   cases hr
   exact h1
  simp only [okT, Bool.and_eq_true] at hT
  exact ⟨fun hc => iha R hrv hL hT.1 hm (h2 (e ▸ hc)), fun hc => ihb R hrv hL hT.2 hm (h3 (e ▸ hc))⟩
 | .bump n k => by
  have ih := @pz_ok k
  rename_i m rv d hs C σ ps gs μ gm L H A β S Q
  intro R hrv hL hT hm h
  have hpl := R.vars.length
  have h' : pz E gl k m (some (ps.length, n, [])) false hs (ps ++ [.any]) μ Q := h
  rw [← hpl] at h'
  let A1 : St := { A with next := A.next + n }
  have hn : A.next ≤ A1.next := Nat.le_add_right _ _
  have hF : ∀ b, Free (σ ++ [goInt A.next]) (some (σ.length, n, [])) b → A.next ≤ b ∧ b < A.next + n := by
   rintro b ⟨j, j1, _, j3⟩
   rw [look_new] at j3
   have : natV (goInt A.next) = A.next := rfl
   omega
  have R1 : RS gl A1 β S (Free (σ ++ [goInt A.next]) (some (σ.length, n, []))) (σ ++ [goInt A.next]) (ps ++ [.any]) gs μ gm := by
   refine ⟨fun b hb => Nat.lt_of_lt_of_le (R.S_lt b hb) hn, fun b hb => Nat.lt_of_lt_of_le (R.β_lt b hb) hn, fun b hb => (hF b hb).2, R.β_S, fun b hb hs => ?_, fun b hb hs => ?_, fun b hb => ⟨R.ginv b (hF b hb).1, fun hs => ?_⟩, R.β_nd, fun k hk => R.ginv k (Nat.le_trans hn hk), fun r hr => ⟨(R.glob r hr).1, (R.glob r hr).2⟩, ?_, ?_, R.nd⟩
   ·have := R.S_lt b hs; have := (hF b hb).1; omega
   ·have := R.β_lt b hs; have := (hF b hb).1; omega
   ·have := R.glt b hs; have := (hF b hb).1; omega
   ·have := (R.vars.mono (A := A) (S' := S) (B := A1) (β' := β) (fun _ h => h) (fun _ _ => rfl) (fun _ _ h => h) hn fun _ _ => rfl).snoc (Rep.toT (A := A1) (.any (goInt A.next) rfl))
    rwa [List.append_nil] at this
   ·exact R.objs.mono (A := A) (B := A1) (fun _ h => h) (fun _ _ => rfl) (fun _ _ h => h) hn (fun _ _ => rfl) fun _ _ => rfl
  have E1 : Ext m A β S (Free σ rv) gs gm A1 β S gs gm := ⟨⟨hn, fun _ _ _ => rfl, fun _ _ _ => rfl⟩, fun _ _ => rfl, fun _ h => .inl h, fun _ h => h, fun _ h => .inl h, fun _ h => .inl h⟩
  have hL1 := hL.off β S A1 (σ ++ [goInt A.next]) false (ps ++ [.any]) μ noEn
  exact SX.wp_mono k (fun o outs C hC => hC.trans E1 (Nat.le_refl _) fun b hb => .inr (hF b hb).1) (ih R1 (by simp [rvOk]) hL1 (by rw [len1]; exact hT) hm h')
 | .save k => by
  have ih := @pz_ok k
  rename_i m rv d hs C σ ps gs μ gm L H A β S Q
  intro R hrv hL hT hm h
  exact ih R hrv (hL.save R) (by rw [← R.vars.length]; exact hT) hm h
 | .self x k => by
  have ih := @pz_ok k
  rename_i m rv d hs C σ ps gs μ gm L H A β S Q
  intro R hrv hL hT hm h
  obtain ⟨⟨p, h1, h2⟩, h3⟩ := h
  obtain ⟨v, hv, hr⟩ := inv1 (denF_ok R.vars h1)
  simp only [denL, List.map_cons, List.map_nil, List.cons.injEq, and_true] at hv
  exact ⟨by rw [hv]; exact shal_veq 40 hr h2, ih R hrv hL hT hm h3⟩
 | .chk i r xs x k => by
  have ih := @pz_ok k
  rename_i m rv d hs C σ ps gs μ gm L H A β S Q
  intro R hrv hL hT hm h
  obtain ⟨⟨⟨p, h4, h5⟩, h7⟩, h6⟩ := h
  simp only [okT, Bool.and_eq_true] at hT
  obtain ⟨hT1, hT2⟩ := hT
  split at hT1
  case h_2 => cases hT1
  rename_i j
  simp only [Bool.and_eq_true] at hT1
  obtain ⟨hE1, hE2⟩ := hT1
  split at hE2
  case h_2 => cases hE2
  rename_i ls hls
  obtain ⟨v, hv, hr⟩ := inv1 (denF_ok R.vars h4)
  simp only [denL, List.map_cons, List.map_nil, List.cons.injEq, and_true] at hv
  have hi : i < H.length := by rw [← hL.len]; exact (List.getElem?_eq_some_iff.1 hls).1
  have hih : i < hs.length := by rw [← hL.lenh]; exact (List.getElem?_eq_some_iff.1 hls).1
  have hen := hL.en r xs j (hasE_mem hE1)
  have e3 : semR r (denL σ xs) H[i] = some (SX.look σ j, H[i]) := by
   cases hml : memless r with
   | true => exact hen.ml hml _
   | false =>
    rw [hml, Bool.false_or] at hE2
    simp only [Bool.and_eq_true] at hE2
    rcases hL.log i ls H[i] hs[i] hls (List.getElem?_eq_getElem hi) (List.getElem?_eq_getElem hih) with ho | ⟨βi, Si, dy, mu, k1⟩
    ·rw [ho] at hE2
     cases hE2.1
    ·obtain ⟨as, a1, a2⟩ := hen.mr hml
     cases hlp : lpLoad r as with
     | false =>
      obtain ⟨q, q1, q2⟩ := a2 hlp
      obtain ⟨w, e1, _⟩ := semP_ok (knRep k1 hE2.2 a1) q1
      have e := e1 A k1.ag
      rw [q2] at e
      cases e
      exact e1 H[i] fun _ _ => rfl
     | true =>
      rcases h7 with h7 | ⟨as', b1, b2⟩ | ⟨nv, j', b1, b2, b3⟩
      ·rw [hml] at h7; cases h7
      ·rw [a1] at b1; cases b1; rw [hlp] at b2; cases b2
      ·cases b2
       rw [List.getElem?_eq_getElem hih] at b1
       cases b1
       exact k1.lp r xs j (hasE_mem hE1) b3 hE2.2 ⟨as, a1, hlp⟩
  refine ⟨⟨H[i], SX.look σ j, H[i], List.getElem?_eq_getElem hi, e3, ?_⟩, ih R hrv hL hT2 hm h6⟩
  have hv' : SX.look σ j = v := hv
  have e : (vn j).den σ = v := hv
  show veq 40 (SX.look σ j) ((vn j).den σ) = true
  rw [e, hv']
  exact shal_veq 40 hr h5

/-- A function does what its tree says. -/
theorem fnZ (hE : SxEnv E) {cfg : Cfg} {fuel f : Nat} {ps : List P} {T : N} (h : sxFn E cfg fuel f ps.length = some T) (hT : okT T ps.length [] [] = true) {μ μ' : Mu} {r : P}
  (hw : pz E gl T μ.length none false [] ps μ (fun _ outs μ1 => outs = [r] ∧ μ1 = μ')) : PR E gl f ps μ r μ' := by
 intro A β S vs gs gm R
 rw [← R.vars.length] at h hT
 have h1 := pz_ok T (E := E) (gl := gl) (rv := none) (L := []) (C := []) (hs := []) (H := []) R trivial ⟨rfl, rfl, noEn, fun i ls B nvi hi => by cases hi⟩ hT (Nat.le_refl _) hw
 obtain ⟨v, B, h2, β', S', gs', gm', h3, h4⟩ := fn_ok hE h (Q := fun v B => ∃ β' S' gs' gm', Ext μ.length A β S noF gs gm B β' S' gs' gm' ∧ RS gl B β' S' noF [v] [r] gs' μ' gm') (SX.wp_mono T (fun o outs B hB v hv => by
  obtain ⟨outsP, β', S', gs', μ1, gm', ⟨rfl, rfl⟩, _, k3, k4⟩ := hB
  subst hv
  exact ⟨β', S', gs', gm', k4, k3⟩) h1)
 exact ⟨v, B, β', S', gs', gm', h2, h3, h4⟩
end
end Go.AM.PV
namespace Go.AM.PV
open Go Go.AM Go.AM.SX
section
variable {E : Env} {gl : List GRow} {k a b : N} {m : Nat} {rv : Rv} {ps ps' : List P} {μ μ' : Mu} {L L' : List Lg} {Q : PPost} {xs : List X}
theorem take_snoc {α : Type} {l : List α} {i : Nat} {x : α} (h : l[i]? = some x) : l.take (i + 1) = l.take i ++ [x] := by
 rw [List.take_add_one, h]; rfl
end
end Go.AM.PV
namespace Go.AM.PV
open Go Go.AM Go.AM.SX
section
variable {E : Env} {gl : List GRow} {k a b : N} {m : Nat} {rv : Rv} {ps ps' : List P} {μ μ' : Mu} {L L' : List Lg} {Q : PPost} {xs : List X}

theorem semC_bin {op : BinOp} {x y v : Value} (h : fast [] op x y = some v) : semP (.bin op) [.c x, .c y] = some (.c v) := by
 unfold semP semC
 simp only [mfree, unc, semR, binV, h, if_true]
theorem fast_int {op : BinOp} {kd : IntKind} {a b : Int} : fast [] op (.int kd a) (.int kd b) = (match op with
   | .add => some (.int kd (wrapF kd (a + b)))
   | .sub => some (.int kd (wrapF kd (a - b)))
   | .mul => some (.int kd (wrapF kd (a * b)))
   | .eql => some (.bool (a == b))
   | .neq => some (.bool (a != b))
   | .lss => some (.bool (decide (a < b)))
   | .leq => some (.bool (decide (a ≤ b)))
   | .gtr => some (.bool (decide (a > b)))
   | .geq => some (.bool (decide (a ≥ b)))
   | _ => none) := by
 unfold fast
 simp only [if_true]
 cases op <;> rfl
theorem wrapF64 {n : Int} (h0 : -9223372036854775808 ≤ n) (h1 : n ≤ 9223372036854775807) : wrapF .i64 n = n := by
 unfold wrapF
 rw [if_pos ⟨by simp only [lo]; omega, by simp only [hi]; omega⟩]
theorem wrap_eqF (kd : IntKind) (n : Int) : kd.wrap n = wrapF kd n := (wrapF_eq kd n).symm
/-- What is noted of a step whose outcome is known. -/
inductive NL (xs : List X) (as : List P) : List Lg → Prop where
 | nil : NL xs as []
 | cons {lg : Lg} {L : List Lg} : lgL lg xs = some as → NL xs as L → NL xs as (lg :: L)
 | skip {lg : Lg} {L : List Lg} : lgL lg xs = none → NL xs as L → NL xs as (lg :: L)
def noteQ (r : SX.R) (xs : List X) (k : Nat) (q : P) : List Lg → List Lg
 | [] => []
 | lg :: L => (match lgL lg xs with
  | some _ => { lg with vp := (k, q) :: lg.vp, en := (r, xs, k) :: lg.en }
  | none => lg) :: noteQ r xs k q L
theorem NL.note {r : SX.R} {xs : List X} {k : Nat} {as : List P} {q : P} {L : List Lg} (h : NL xs as L) (hs : ∀ lg, semH lg r as = some q) (hq : fz q = q) : note r xs k L = noteQ r xs k q L := by
 induction h with
 | nil => rfl
 | cons h1 _ ih =>
  unfold PV.note at ih ⊢
  rw [List.map_cons, ih]
  unfold note1
  simp only [h1, hs, hq, noteQ]
 | skip h1 _ ih =>
  unfold PV.note at ih ⊢
  rw [List.map_cons, ih]
  unfold note1
  simp only [h1, noteQ]
theorem NL.to {r : SX.R} {kk : Nat} {as : List P} {q : P} (h : NL xs as L) (hs : ∀ lg, semH lg r as = some q) (hq : fz q = q) (hk : pw E gl k m rv ps μ (noteQ r xs kk q L) Q) : pw E gl k m rv ps μ (PV.note r xs kk L) Q := by
 rw [h.note hs hq]; exact hk
theorem sem_idx {sz n : Nat} {i : Int} {l : List P} (h0 : 0 ≤ i) (hi : i < n) : semP (.idxA sz) [.sl sz n l, .c (.int .i64 i)] = some (.ip l (i.toNat * sz)) := by
 unfold semP
 have : semC (.idxA sz) [.sl sz n l, .c (.int .i64 i)] = none := rfl
 rw [this]
 simp only
 rw [if_pos ⟨trivial, h0, hi⟩]
theorem sem_idxf {sz n : Nat} {i : Int} {l : List P} (h0 : 0 ≤ i) (hi : i < n) : semP (.idxA sz) [.fx sz n l, .c (.int .i64 i)] = some (.ip l (i.toNat * sz)) := by
 unfold semP
 have : semC (.idxA sz) [.fx sz n l, .c (.int .i64 i)] = none := rfl
 rw [this]
 simp only
 rw [if_pos ⟨trivial, h0, hi⟩]
theorem sem_ld1 {off : Nat} {l : List P} {p : P} (hl : l[off]? = some p) : semP (.load none) [.ip l off] = some p := by
 unfold semP
 have : semC (.load none) [.ip l off] = none := rfl
 rw [this]
 exact hl
theorem sem_ldn {n off : Nat} {l : List P} (hle : off + n ≤ l.length) : semP (.load (some n)) [.ip l off] = some (.agg ((l.drop off).take n)) := by
 unfold semP
 have : semC (.load (some n)) [.ip l off] = none := rfl
 rw [this]
 simp only
 rw [if_pos hle]
end
end Go.AM.PV
namespace Go.AM.PV
open Go Go.AM Go.AM.SX
/-- What a step comes to, written plainly. -/
def tzBin (op : BinOp) (as : List P) : Option P := match as with
 | [.c (.int k a), .c (.int k' b)] => if k = k' then (match op with
   | .eql => some (.c (.bool (decide (a = b))))
   | .neq => some (.c (.bool !decide (a = b)))
   | .lss => some (.c (.bool (decide (a < b))))
   | .leq => some (.c (.bool (decide (a ≤ b))))
   | .gtr => some (.c (.bool (decide (a > b))))
   | .geq => some (.c (.bool (decide (a ≥ b))))
   | _ => none) else none
 | as => semP (.bin op) as
def tz (r : SX.R) (as : List P) : Option P := match r with
 | .bin op => tzBin op as
 | .conv _ => none
 | .lenS => (match as with
  | [.c (.string s)] => some (.c (.int .i64 (s.size : Int)))
  | _ => none)
 | .lenL => (match as with
  | [.sl _ n _] | [.fx _ n _] => some (.c (.int .i64 (n : Int)))
  | as => semP .lenL as)
 | .not => (match as with
  | [.c (.bool t)] => some (.c (.bool !t))
  | _ => none)
 | r => semP r as
theorem tzBin_ok {op : BinOp} {as : List P} {p : P} (h : tzBin op as = some p) : semP (.bin op) as = some p := by
 unfold tzBin at h
 split at h
 ·rename_i k a k' b
  split at h
  ·rename_i hk
   subst hk
   cases op <;> first
    | (cases h; done)
    | (cases h; exact semC_bin fast_int)
  ·cases h
 ·exact h
theorem tz_ok {r : SX.R} {as : List P} {p : P} (h : tz r as = some p) : semP r as = some p := by
 unfold tz at h
 split at h
 ·exact tzBin_ok h
 ·cases h
 ·split at h
  ·cases h; rfl
  ·cases h
 ·split at h
  ·cases h; rfl
  ·cases h; rfl
  ·exact h
 ·split at h
  ·cases h; rfl
  ·cases h
 ·exact h
/-- Sums and the like, however great. -/
def twBin (op : BinOp) (as : List P) : Option P := match as with
 | [.c (.int k a), .c (.int k' b)] => if k = k' then (match op with
   | .add => some (.c (.int k (wrapF k (a + b))))
   | .sub => some (.c (.int k (wrapF k (a - b))))
   | .mul => some (.c (.int k (wrapF k (a * b))))
   | _ => none) else none
 | _ => none
def tw (r : SX.R) (as : List P) : Option P := match r with
 | .bin op => twBin op as
 | .conv k => (match as with
  | [.c (.int _ a)] => some (.c (.int k (wrapF k a)))
  | _ => none)
 | _ => none
theorem twBin_ok {op : BinOp} {as : List P} {p : P} (h : twBin op as = some p) : semP (.bin op) as = some p := by
 unfold twBin at h
 split at h
 ·rename_i k a k' b
  split at h
  ·rename_i hk
   subst hk
   cases op <;> first
    | (cases h; done)
    | (cases h; exact semC_bin fast_int)
  ·cases h
 ·cases h
theorem tw_ok {r : SX.R} {as : List P} {p : P} (h : tw r as = some p) : semP r as = some p := by
 unfold tw at h
 split at h
 ·exact twBin_ok h
 ·split at h
  ·rename_i k _ kd a
   cases h
   show some (P.c (.int k (IntKind.wrap k a))) = _
   rw [wrap_eqF]
  ·cases h
 ·cases h
/-- One step, if nothing has to be chosen. -/
def stz (r : SX.R) (xs : List X) (ps : List P) (μ : Mu) : Option (List P × Mu) :=
 match r with
 | .load n => match denF ps xs with
  | some as => match semP (.load n) as with
   | some p => some (ps ++ [p], μ)
   | none => none
  | none => none
 | .store _ | .app _ _ _ | .toBytes _ | .range _ | .next _ => none
 | .alloc t z => match denF ps xs with
  | some as => match newP? (.alloc t z) as μ with
   | some (p, μ') => some (ps ++ [p], μ')
   | none => none
  | none => none
 | .box t => match denF ps xs with
  | some as => match newP? (.box t) as μ with
   | some (p, μ') => some (ps ++ [p], μ')
   | none => none
  | none => none
 | .newSl t z pl => match denF ps xs with
  | some as => match newP? (.newSl t z pl) as μ with
   | some (p, μ') => some (ps ++ [p], μ')
   | none => none
  | none => none
 | .mkSl t z b => match denF ps xs with
  | some as => match newP? (.mkSl t z b) as μ with
   | some (p, μ') => some (ps ++ [p], μ')
   | none => none
  | none => none
 | r => match denF ps xs with
  | some as => match tz r as with
   | some p => some (ps ++ [p], μ)
   | none => none
  | none => none

section
variable {E : Env} {gl : List GRow} {k a b : N} {m : Nat} {rv : Rv} {d : Bool} {hs : List Nat} {ps ps' : List P} {μ μ' : Mu} {Q : PPost} {xs : List X}

theorem z_op {r : SX.R} (h : stz r xs ps μ = some (ps', μ')) (hk : pz E gl k m rv d hs ps' μ' Q) : pz E gl (.op r xs k) m rv d hs ps μ Q := by
 unfold stz at h
 cases r <;> simp only at h <;> first
  | (cases h; done)
  | (split at h
     ·rename_i as hd
      split at h
      ·rename_i p hp
       cases h
       exact ⟨as, p, hd, tz_ok hp, hk⟩
      ·cases h
     ·cases h)
  | (split at h
     ·rename_i as hd
      split at h
      ·rename_i p μ1 hp
       cases h
       exact ⟨as, p, _, hd, hp, hk⟩
      ·cases h
     ·cases h)
  | skip
 case load n =>
  split at h
  ·rename_i as hd
   split at h
   ·rename_i p hp
    cases h
    exact .inl ⟨as, p, hd, hp, hk⟩
   ·cases h
  ·cases h
/-- A look at an object. -/
theorem z_ldp {n : Option Nat} {i off : Nat} {p : P} (h : denF ps xs = some [.lp i off]) (hp : loadP μ n i off = some p) (hd : d = false ∨ noChk k = true) (hk : pz E gl k m rv d hs (ps ++ [fz p]) μ Q) : pz E gl (.op (.load n) xs k) m rv d hs ps μ Q := .inr (.inl ⟨i, off, p, h, hp, hd, hk⟩)
theorem z_true {x : X} (h : denF ps [x] = some [.c (.bool true)]) (hk : pz E gl a m rv d hs ps μ Q) : pz E gl (.br x a b) m rv d hs ps μ Q := ⟨true, h, fun _ => hk, fun e => (by cases e)⟩
theorem z_false {x : X} (h : denF ps [x] = some [.c (.bool false)]) (hk : pz E gl b m rv d hs ps μ Q) : pz E gl (.br x a b) m rv d hs ps μ Q := ⟨false, h, fun e => (by cases e), fun _ => hk⟩
theorem z_br {x : X} {t : Bool} (h : denF ps [x] = some [.c (.bool t)]) (ha : t = true → pz E gl a m rv d hs ps μ Q) (hb : t = false → pz E gl b m rv d hs ps μ Q) : pz E gl (.br x a b) m rv d hs ps μ Q := ⟨t, h, ha, hb⟩
theorem z_call {f : FuncId} {as : List P} {r : P} (h : denF ps xs = some as) (hp : PR E gl f as μ r μ') (hl : μ.length ≤ μ'.length) (hk : pz E gl k m rv true hs (ps ++ [r]) μ' Q) : pz E gl (.call f xs k) m rv d hs ps μ Q := .inl ⟨as, r, μ', h, hp, hl, hk⟩
theorem z_fin {o : Nat} {as : List P} (h : takeL ps xs = some (as, ps')) (hq : Q o as μ) : pz E gl (.fin o xs) m rv d hs ps μ Q := ⟨as, ps', as, h, .refl as, .inl hq⟩
/-- What is left behind is dropped. -/
theorem z_finD {o : Nat} {as : List P} (n : Nat) (h : takeL ps xs = some (as, ps')) (hm : m ≤ n) (h1 : okm.okL n as = true) (h2 : okM n (μ.take n) = true) (hq : Q o as (μ.take n)) : pz E gl (.fin o xs) m rv d hs ps μ Q := ⟨as, ps', as, h, .refl as, .inr ⟨n, hm, h1, h2, hq⟩⟩
theorem z_finW {o : Nat} {as outs : List P} (n : Nat) (h : takeL ps xs = some (as, ps')) (hl : LeL as outs) (hm : m ≤ n) (h1 : okm.okL n outs = true) (h2 : okM n (μ.take n) = true) (hq : Q o outs (μ.take n)) : pz E gl (.fin o xs) m rv d hs ps μ Q := ⟨as, ps', outs, h, hl, .inr ⟨n, hm, h1, h2, hq⟩⟩
theorem z_app {e : TypeId} {i : TypeInfo} {z : Value} {p q c : P} (h : takeL ps xs = some ([p, q], ps')) (ha : appP e i z p (fz q) = some c) (hk : pz E gl k m rv d hs (ps' ++ [c]) μ Q) : pz E gl (.op (.app e i z) xs k) m rv d hs ps μ Q := ⟨p, q, ps', c, h, ha, hk⟩
theorem z_range {s : ByteArray} (h : denF ps xs = some [.c (.string s)]) (hk : pz E gl k m rv d hs (ps ++ [.lp μ.length 0]) (μ ++ [.sit s 0]) Q) : pz E gl (.op (.range true) xs k) m rv d hs ps μ Q := ⟨s, rfl, h, hk⟩
theorem z_next {i pos : Nat} {s : ByteArray} (h : denF ps xs = some [.lp i 0]) (hi : μ[i]? = some (.sit s pos))
  (h1 : pos < s.size → pz E gl k m rv true hs (ps ++ [.tup [.c (.bool true), .c (goInt pos), .c (.int .i32 (Utf8.decode s pos).1)]]) (μ.set i (.sit s (pos + (Utf8.decode s pos).2))) Q)
  (h2 : s.size ≤ pos → pz E gl k m rv true hs (ps ++ [.tup [.c (.bool false)]]) μ Q) : pz E gl (.op (.next true) xs k) m rv d hs ps μ Q := ⟨i, s, pos, rfl, h, hi, h1, h2⟩
end
section
variable {E : Env} {gl : List GRow}
theorem z_loop {xs : List X} {body k : N} {m : Nat} {rv : Rv} {d : Bool} {hs : List Nat} {ps ps' : List P} {μ : Mu} {Q : PPost} {as : List P} (I : Nat → List P → Mu → Prop) (h : takeL ps xs = some (as, ps')) (κ : Nat) (vs : List P) (hl : LeL as vs) (h0 : I κ vs μ)
  (step : ∀ κ vs ν, I κ vs ν → pz E gl body μ.length none false hs (ps'.map fz ++ vs) ν fun o outs ν' => match o with
   | 0 => ∃ j, j < κ ∧ I j outs ν'
   | o + 1 => pz E gl k m none false hs (ps'.map fz ++ .c (goInt (o + 1 : Nat)) :: outs) ν' Q) : pz E gl (.loop xs body k) m rv d hs ps μ Q := by
 refine ⟨as, ps', κ + 1, vs, h, hl, ?_⟩
 have gen : ∀ κ vs ν, I κ vs ν → LoopP (fun vs μ' Q' => pz E gl body μ.length none false hs (ps'.map fz ++ vs) μ' Q') (fun o outs μ' => pz E gl k m none false hs (ps'.map fz ++ .c (goInt o) :: outs) μ' Q) (κ + 1) vs ν := by
  intro κ
  induction κ using Nat.strongRecOn with
  | _ κ ih =>
   intro vs ν hI
   refine pz_mono body ?_ (step κ vs ν hI)
   intro o outs ν' hp
   cases o with
   | zero =>
    obtain ⟨j, hj, hI'⟩ := hp
    refine LoopP_up ?_ (j + 1) κ outs ν' hj (ih j hj outs ν' hI')
    exact fun _ _ _ _ hp hw => pz_mono body hp hw
   | succ o => exact hp
 exact gen κ vs μ h0
end
section
variable {E : Env} {gl : List GRow} {k a b : N} {m : Nat} {rv : Rv} {d : Bool} {hs : List Nat} {ps ps' : List P} {μ μ' : Mu} {Q : PPost} {xs : List X}
theorem z_inc {i : Nat} (h : denF ps xs = some [.c (.int .i64 i), .c (.int .i64 1)]) (hi : i < 4611686018427387904) (hk : pz E gl k m rv d hs (ps ++ [.c (.int .i64 ((i + 1 : Nat) : Int))]) μ Q) : pz E gl (.op (.bin .add) xs k) m rv d hs ps μ Q := by
 refine ⟨_, _, h, ?_, hk⟩
 show (some (P.c (.int .i64 (wrapF .i64 ((i : Int) + 1)))) : Option P) = _
 rw [wrapF_in (by omega) (by omega)]
 rfl
/-- One element more. -/
theorem z_app1 {e : TypeId} {i : TypeInfo} {z : Value} {sz n c d1 : Nat} {l l' : List P} {p : P} (hc : ps.getD c (.c undef) = p) (hd : ps.getD d1 (.c undef) = .lit l') (hcd : Nat.beq d1 c = false) (hz : i.size = sz) (hp : baseP e sz p = some (n, l)) (hl : l'.length = sz) (h0 : Nat.beq sz 0 = false) (hzc : z.cells.size = sz) (hb : (n + 1) * i.bytes ≤ 140737488355328) (hn : n + 1 ≤ 4611686018427387904)
  (hk : pz E gl k m rv d hs (ps.set c (fz p) ++ [.ow e sz (n + 1) (l ++ l')]) μ Q) : pz E gl (.op (.app e i z) [vn c, .sl (.n d1) 1] k) m rv d hs ps μ Q := by
 subst hz
 subst hc
 have hne : d1 ≠ c := fun e => by rw [e, Nat.beq_refl] at hcd; cases hcd
 have hz0 : i.size ≠ 0 := fun e => by rw [e] at h0; cases h0
 have hd' : (ps.set c (fz (ps.getD c (.c undef)))).getD d1 (.c undef) = .lit l' := by
  rw [← hd, List.getD_eq_getElem?_getD, List.getElem?_set_ne (Ne.symm hne), ← List.getD_eq_getElem?_getD]
 have ht : takeL ps [vn c, .sl (.n d1) 1] = some ([ps.getD c (.c undef), .fx i.size 1 l'], ps.set c (fz (ps.getD c (.c undef)))) := by
  have h1 : takeX (ps.set c (fz (ps.getD c (.c undef)))) (.sl (.n d1) 1) = some (.fx i.size 1 l', ps.set c (fz (ps.getD c (.c undef)))) := by
   show (match denX _ (X.sl (.n d1) 1) with | some p => some (fz p, _) | none => none) = _
   simp only [denX, denA, hd']
   rw [if_pos (by simp)]
   simp only [hl, Nat.div_one, fz, Nat.one_ne_zero, if_false]
  simp only [takeL, vn, takeX] at h1 ⊢
  rw [h1]
 refine z_app ht (c := .ow e i.size (n + 1) (l ++ l')) ?_ hk
 unfold appP
 have hq : newP i.size (fz (.fx i.size 1 l')) = some (1, l') := by simp only [fz, newP, if_true]
 rw [hp, hq]
 simp only
 rw [if_pos ⟨hz0, hzc, hb, hn⟩]
theorem z_lit1 {t : TypeId} {z0 : Value} {p q : P} (h : denF ps xs = some [q]) (hq : q = p) (h2 : pcells p = [p]) (h3 : oneP p = true) (hk : pz E gl k m rv d hs (ps ++ [.lit [p]]) μ Q) : pz E gl (.op (.newSl t [z0] [(0, 1)]) xs k) m rv d hs ps μ Q := by
 subst hq
 refine ⟨_, .lit [q], μ, h, ?_, hk⟩
 have h4 : fillPP [(0, 1)] [q] (List.map P.c [z0]) = some [q] := by
  simp only [fillPP, h2, mapc_cons, mapc_nil, List.length_cons, List.length_nil, Nat.zero_add, Nat.le_refl, and_self, if_true, setFromP, set0]
 unfold newP?
 simp only [h4, List.all_cons, List.all_nil, h3, Bool.and_self, if_true]
theorem z_bld1 {z0 : Value} {p q : P} (h : denF ps xs = some [q]) (hq : q = p) (h2 : pcells p = [p]) (hk : pz E gl k m rv d hs (ps ++ [.agg [p]]) μ Q) : pz E gl (.op (.build [z0] [(0, 1)]) xs k) m rv d hs ps μ Q := by
 subst hq
 refine ⟨_, .agg [q], h, ?_, hk⟩
 have h4 : fillPP [(0, 1)] [q] (List.map P.c [z0]) = some [q] := by
  simp only [fillPP, h2, mapc_cons, mapc_nil, List.length_cons, List.length_nil, Nat.zero_add, Nat.le_refl, and_self, if_true, setFromP, set0]
 unfold semP
 have : semC (.build [z0] [(0, 1)]) [q] = none := rfl
 rw [this]
 simp only [h4]
theorem z_store {n i off : Nat} {l : List P} {p : P} (h : takeL ps xs = some ([.lp i off, p], ps')) (hi : μ[i]? = some (.cells l)) (hl : (pcells p).length = n) (ho : (pcells p).all oneP = true) (hle : off + n ≤ l.length) (hk : pz E gl k m rv true hs (ps' ++ [.c undef]) (μ.set i (.cells (setFromP l off (pcells p)))) Q) : pz E gl (.op (.store n) xs k) m rv d hs ps μ Q :=
 ⟨i, off, p, ps', l, h, hi, hl, ho, hle, hk⟩
end
section
variable {E : Env} {gl : List GRow} {k a b : N} {m : Nat} {rv : Rv} {d : Bool} {hs : List Nat} {ps ps' : List P} {μ μ' : Mu} {Q : PPost} {xs : List X}
theorem z_add {x y : Int} (h : denF ps xs = some [.c (.int .i64 x), .c (.int .i64 y)]) (h0 : -9223372036854775808 ≤ x + y) (h1 : x + y ≤ 9223372036854775807) (hk : pz E gl k m rv d hs (ps ++ [.c (.int .i64 (x + y))]) μ Q) : pz E gl (.op (.bin .add) xs k) m rv d hs ps μ Q :=
 ⟨_, _, h, (semC_bin fast_int).trans (by simp only [wrapF64 h0 h1]), hk⟩
theorem z_sub {x y : Int} (h : denF ps xs = some [.c (.int .i64 x), .c (.int .i64 y)]) (h0 : -9223372036854775808 ≤ x - y) (h1 : x - y ≤ 9223372036854775807) (hk : pz E gl k m rv d hs (ps ++ [.c (.int .i64 (x - y))]) μ Q) : pz E gl (.op (.bin .sub) xs k) m rv d hs ps μ Q :=
 ⟨_, _, h, (semC_bin fast_int).trans (by simp only [wrapF64 h0 h1]), hk⟩
theorem z_conv64 {kd : IntKind} {x : Int} (h : denF ps xs = some [.c (.int kd x)]) (h0 : -9223372036854775808 ≤ x) (h1 : x ≤ 9223372036854775807) (hk : pz E gl k m rv d hs (ps ++ [.c (.int .i64 x)]) μ Q) : pz E gl (.op (.conv .i64) xs k) m rv d hs ps μ Q := by
 refine ⟨_, .c (.int .i64 x), h, ?_, hk⟩
 show some (P.c (.int .i64 (IntKind.wrap .i64 x))) = _
 rw [wrap_eqF, wrapF64 h0 h1]
theorem z_brD {p : Prop} [Decidable p] {x : X} (h : denF ps [x] = some [.c (.bool (decide p))]) (ha : p → pz E gl a m rv d hs ps μ Q) (hb : ¬ p → pz E gl b m rv d hs ps μ Q) : pz E gl (.br x a b) m rv d hs ps μ Q :=
 ⟨decide p, h, fun e => ha (of_decide_eq_true e), fun e => hb (of_decide_eq_false e)⟩
theorem z_brN {p : Prop} [Decidable p] {x : X} (h : denF ps [x] = some [.c (.bool !decide p)]) (ha : ¬ p → pz E gl a m rv d hs ps μ Q) (hb : p → pz E gl b m rv d hs ps μ Q) : pz E gl (.br x a b) m rv d hs ps μ Q :=
 ⟨!decide p, h, fun e => ha (of_decide_eq_false (by simpa using e)), fun e => hb (of_decide_eq_true (by simpa using e))⟩
theorem zn_idx {sz n i : Nat} {l : List P} (h : denF ps xs = some [.sl sz n l, .c (.int .i64 i)]) (hi : i < n) (hk : pz E gl k m rv d hs (ps ++ [.ip l (i * sz)]) μ Q) : pz E gl (.op (.idxA sz) xs k) m rv d hs ps μ Q := by
 have e : semP (.idxA sz) [.sl sz n l, .c (.int .i64 (i : Int))] = some (.ip l (i * sz)) := (sem_idx (sz := sz) (n := n) (i := (i : Int)) (l := l) (by omega) (by omega)).trans (by rw [Int.toNat_natCast])
 exact ⟨_, .ip l (i * sz), h, e, hk⟩
theorem zn_idxf {sz n i : Nat} {l : List P} (h : denF ps xs = some [.fx sz n l, .c (.int .i64 i)]) (hi : i < n) (hk : pz E gl k m rv d hs (ps ++ [.ip l (i * sz)]) μ Q) : pz E gl (.op (.idxA sz) xs k) m rv d hs ps μ Q := by
 have e : semP (.idxA sz) [.fx sz n l, .c (.int .i64 (i : Int))] = some (.ip l (i * sz)) := (sem_idxf (sz := sz) (n := n) (i := (i : Int)) (l := l) (by omega) (by omega)).trans (by rw [Int.toNat_natCast])
 exact ⟨_, .ip l (i * sz), h, e, hk⟩
theorem zn_ld1 {off : Nat} {l : List P} {p : P} (h : denF ps xs = some [.ip l off]) (hl : l[off]? = some p) (hk : pz E gl k m rv d hs (ps ++ [p]) μ Q) : pz E gl (.op (.load none) xs k) m rv d hs ps μ Q :=
 .inl ⟨_, p, h, sem_ld1 hl, hk⟩
theorem zn_ldn {n off : Nat} {l : List P} (h : denF ps xs = some [.ip l off]) (hle : off + n ≤ l.length) (hk : pz E gl k m rv d hs (ps ++ [.agg ((l.drop off).take n)]) μ Q) : pz E gl (.op (.load (some n)) xs k) m rv d hs ps μ Q :=
 .inl ⟨_, _, h, sem_ldn hle, hk⟩
theorem z_subL1 {sz n i : Nat} {l : List P} (h : denF ps xs = some [.sl sz n l, .c (.int .i64 i)]) (hi : i ≤ n) (hk : pz E gl k m rv d hs (ps ++ [.sl sz (n - i) ((l.drop (i * sz)).take ((n - i) * sz))]) μ Q) : pz E gl (.op (.subL sz true false false) xs k) m rv d hs ps μ Q := by
 have e : semP (.subL sz true false false) [.sl sz n l, .c (.int .i64 (i : Int))] = some (.sl sz (n - i) ((l.drop (i * sz)).take ((n - i) * sz))) := by
  unfold semP
  have : semC (.subL sz true false false) [.sl sz n l, .c (.int .i64 (i : Int))] = none := rfl
  rw [this]
  simp only [subSl, if_true, List.head?_cons, List.tail_cons, Bool.false_eq_true, if_false, bndP, bound]
  rw [if_pos (by omega)]
  simp
 exact ⟨_, _, h, e, hk⟩
theorem sem_subS {s : ByteArray} {l h : Nat} (h1 : l ≤ h) (h2 : h ≤ s.size) : semP (.subS true true) [.c (.string s), .c (.int .i64 l), .c (.int .i64 h)] = some (.c (.string (s.extract l h))) := by
 have e1 : optBound (some (.int .i64 (h : Int))) s.size s.size = some h := by
  show bound (.int .i64 (h : Int)) s.size = _
  unfold bound
  simp only
  rw [if_pos (by omega)]
  simp
 have e2 : optBound (some (.int .i64 (l : Int))) h 0 = some l := by
  show bound (.int .i64 (l : Int)) h = _
  unfold bound
  simp only
  rw [if_pos (by omega)]
  simp
 have e3 : semR (.subS true true) [.string s, .int .i64 (l : Int), .int .i64 (h : Int)] st0 = some (.string (s.extract l h), st0) := by
  show (match optBound (some (.int .i64 (h : Int))) s.size s.size with
   | some h => match optBound (some (.int .i64 (l : Int))) h 0 with
    | some l => some (Value.string (s.extract l h), st0)
    | none => none
   | none => none) = _
  rw [e1]
  simp only
  rw [e2]
 have e4 : semC (.subS true true) [.c (.string s), .c (.int .i64 l), .c (.int .i64 h)] = some (.c (.string (s.extract l h))) := by
  show (match semR (.subS true true) [.string s, .int .i64 (l : Int), .int .i64 (h : Int)] st0 with
   | some (v, _) => some (P.c v)
   | none => none) = _
  rw [e3]
 unfold semP
 rw [e4]
theorem sem_subTo {s : ByteArray} {h : Nat} (h2 : h ≤ s.size) : semP (.subS false true) [.c (.string s), .c (.int .i64 h)] = some (.c (.string (s.extract 0 h))) := by
 have e1 : optBound (some (.int .i64 (h : Int))) s.size s.size = some h := by
  show bound (.int .i64 (h : Int)) s.size = _
  unfold bound
  simp only
  rw [if_pos (by omega)]
  simp
 have e3 : semR (.subS false true) [.string s, .int .i64 (h : Int)] st0 = some (.string (s.extract 0 h), st0) := by
  show (match optBound (some (.int .i64 (h : Int))) s.size s.size with
   | some h => match optBound none h 0 with
    | some l => some (Value.string (s.extract l h), st0)
    | none => none
   | none => none) = _
  rw [e1]
  rfl
 have e4 : semC (.subS false true) [.c (.string s), .c (.int .i64 h)] = some (.c (.string (s.extract 0 h))) := by
  show (match semR (.subS false true) [.string s, .int .i64 (h : Int)] st0 with
   | some (v, _) => some (P.c v)
   | none => none) = _
  rw [e3]
 unfold semP
 rw [e4]
theorem sem_subFrom {s : ByteArray} {l : Nat} (h2 : l ≤ s.size) : semP (.subS true false) [.c (.string s), .c (.int .i64 l)] = some (.c (.string (s.extract l s.size))) := by
 have e1 : optBound (some (.int .i64 (l : Int))) s.size 0 = some l := by
  show bound (.int .i64 (l : Int)) s.size = _
  unfold bound
  simp only
  rw [if_pos (by omega)]
  simp
 have e3 : semR (.subS true false) [.string s, .int .i64 (l : Int)] st0 = some (.string (s.extract l s.size), st0) := by
  show (match optBound (some (.int .i64 (l : Int))) s.size 0 with
    | some l => some (Value.string (s.extract l s.size), st0)
    | none => none) = _
  rw [e1]
 have e4 : semC (.subS true false) [.c (.string s), .c (.int .i64 l)] = some (.c (.string (s.extract l s.size))) := by
  show (match semR (.subS true false) [.string s, .int .i64 (l : Int)] st0 with
   | some (v, _) => some (P.c v)
   | none => none) = _
  rw [e3]
 unfold semP
 rw [e4]
theorem z_subS {s : ByteArray} {l h : Nat} (hd : denF ps xs = some [.c (.string s), .c (.int .i64 l), .c (.int .i64 h)]) (h1 : l ≤ h) (h2 : h ≤ s.size) (hk : pz E gl k m rv d hs (ps ++ [.c (.string (s.extract l h))]) μ Q) : pz E gl (.op (.subS true true) xs k) m rv d hs ps μ Q := ⟨_, _, hd, sem_subS h1 h2, hk⟩
theorem z_subTo {s : ByteArray} {h : Nat} (hd : denF ps xs = some [.c (.string s), .c (.int .i64 h)]) (h2 : h ≤ s.size) (hk : pz E gl k m rv d hs (ps ++ [.c (.string (s.extract 0 h))]) μ Q) : pz E gl (.op (.subS false true) xs k) m rv d hs ps μ Q := ⟨_, _, hd, sem_subTo h2, hk⟩
theorem z_subFrom {s : ByteArray} {l : Nat} (hd : denF ps xs = some [.c (.string s), .c (.int .i64 l)]) (h2 : l ≤ s.size) (hk : pz E gl k m rv d hs (ps ++ [.c (.string (s.extract l s.size))]) μ Q) : pz E gl (.op (.subS true false) xs k) m rv d hs ps μ Q := ⟨_, _, hd, sem_subFrom h2, hk⟩
/-- A loop, round by round. -/
theorem z_rounds {body : N} {as vs : List P} (n : Nat) (h : takeL ps xs = some (as, ps')) (hl : LeL as vs)
  (hq : LoopP (fun vs μ' Q' => pz E gl body μ.length none false hs (ps'.map fz ++ vs) μ' Q') (fun o outs μ' => pz E gl k m none false hs (ps'.map fz ++ .c (goInt o) :: outs) μ' Q) n vs μ) : pz E gl (.loop xs body k) m rv d hs ps μ Q := ⟨as, ps', n, vs, h, hl, hq⟩
theorem LoopP_step {W : List P → Mu → PPost → Prop} {Q : PPost} {n : Nat} {vs : List P} (h : W vs μ fun o outs μ' => match o with
  | 0 => LoopP W Q n outs μ'
  | o + 1 => Q (o + 1) outs μ') : LoopP W Q (n + 1) vs μ := h
theorem hsapp (x : Nat) (l m : List Nat) : (x :: l) ++ m = x :: (l ++ m) := rfl
theorem hsapp0 (m : List Nat) : [] ++ m = m := rfl
theorem z_quo {x y : Int} (h : denF ps xs = some [.c (.int .i64 x), .c (.int .i64 y)]) (h0 : 0 ≤ x) (h1 : 0 < y) (h2 : x ≤ 9223372036854775807) (hk : pz E gl k m rv d hs (ps ++ [.c (.int .i64 (x / y))]) μ Q) : pz E gl (.op (.bin .quo) xs k) m rv d hs ps μ Q := by
 refine ⟨_, .c (.int .i64 (x / y)), h, ?_, hk⟩
 have e : semP (.bin .quo) [.c (.int .i64 x), .c (.int .i64 y)] = (if y = 0 then none else some (.c (.int .i64 (IntKind.wrap .i64 (x.tdiv y))))) := by
  by_cases hy : y = 0
  ·subst hy; rfl
  ·unfold semP semC
   simp only [mfree, unc, semR, binV, fast, if_true, isShift, Bool.false_eq_true, if_false, intBin, hy]
 rw [e, if_neg (by omega), Int.tdiv_eq_ediv_of_nonneg h0, wrap_eqF, wrapF64]
 ·have := Int.ediv_nonneg h0 (by omega : 0 ≤ y); omega
 ·have := Int.ediv_le_self y h0; omega
/-- What asks nothing. -/
def adm (T : N) (rv : Rv) (d : Bool) (hs : List Nat) (ps : List P) : Option (N × Rv × Bool × List Nat × List P) := match T with
 | .bump n k => some (k, some (ps.length, n, []), false, hs, ps ++ [.any])
 | .save k => some (k, rv, d, hs ++ [ps.length], ps)
 | .self x k => match denF ps [x] with
  | some [p] => if shal 40 p then some (k, rv, d, hs, ps) else none
  | _ => none
 | .chk i r xs x k => match denF ps [x] with
  | some [p] => if shal 40 p then (if memless r then some (k, rv, d, hs, ps) else match denF ps xs with
   | some as => if lpLoad r as then (match x, hs[i]? with
    | .at (.n j), some nv => if Nat.ble nv j then some (k, rv, d, hs, ps) else none
    | _, _ => none) else some (k, rv, d, hs, ps)
   | none => none) else none
  | _ => none
 | .sw x c a b => match natP (ps.getD x .any) with
  | some n => if Nat.beq n c then some (a, rv, d, hs, ps) else some (b, rv, d, hs, ps)
  | none => none
 | _ => none
theorem z_adm {T T' : N} {rv' : Rv} {d' : Bool} {hs' : List Nat} (h : adm T rv d hs ps = some (T', rv', d', hs', ps')) (hk : pz E gl T' m rv' d' hs' ps' μ Q) : pz E gl T m rv d hs ps μ Q := by
 unfold adm at h
 split at h
 ·cases h; exact hk
 ·cases h; exact hk
 ·split at h
  ·rename_i p hp
   split at h
   ·rename_i hs0; cases h; exact ⟨⟨p, hp, hs0⟩, hk⟩
   ·cases h
  ·cases h
 ·split at h
  ·rename_i p hp
   split at h
   ·rename_i hs0
    split at h
    ·rename_i hm; cases h; exact ⟨⟨⟨p, hp, hs0⟩, .inl hm⟩, hk⟩
    ·split at h
     ·rename_i as ha
      split at h
      ·split at h
       ·rename_i j nv hv
        split at h
        ·rename_i hb; cases h; exact ⟨⟨⟨p, hp, hs0⟩, .inr (.inr ⟨nv, j, hv, rfl, Nat.le_of_ble_eq_true hb⟩)⟩, hk⟩
        ·cases h
       ·cases h
      ·rename_i hl
       cases h
       exact ⟨⟨⟨p, hp, hs0⟩, .inr (.inl ⟨as, ha, by simpa using hl⟩)⟩, hk⟩
     ·cases h
   ·cases h
  ·cases h
 ·split at h
  ·rename_i n hn
   split at h
   ·rename_i hb
    cases h
    have := Nat.eq_of_beq_eq_true hb
    subst this
    exact ⟨n, hn, fun _ => hk, fun e => absurd rfl e⟩
   ·rename_i hb
    cases h
    exact ⟨n, hn, fun e => (by subst e; exact absurd (Nat.beq_refl n) hb), fun _ => hk⟩
  ·cases h
 ·cases h
theorem z_raw {r : SX.R} {as : List P} {p : P} (h : denF ps xs = some as) (hp : tw r as = some p) (hk : pz E gl k m rv d hs (ps ++ [p]) μ Q) : pz E gl (.op r xs k) m rv d hs ps μ Q := by
 have hq := tw_ok hp
 cases r <;> first
  | (cases hp; done)
  | exact ⟨as, p, h, hq, hk⟩
end

attribute [go_sem] capp napp hsapp hsapp0 ocapp onapp mapfz_cons mapfz_nil denA gd0 gds fz1ow fz1any fz1c fz1ifc fz1agg fz1tup fz1sl fz1fx fz1ip fz1lit fz1lp fz1ms fz1fn pc1c pc1agg pc1ifc pc1tup pc1sl pc1fx pc1ip pc1lit pc1lp pc1ms pc1fn pc1ow cl1bool cl1int cl1string cl1slice cl1nilIface cl1pointer cl1agg List.length_cons List.length_nil Nat.zero_add Nat.add_zero set0 sets oset0 osets mapc_cons mapc_nil setFromP ite_true ite_false if_true List.drop_zero List.take_succ_cons List.take_zero List.take_nil
end Go.AM.PV
namespace Go.AM.PV
open Go Go.AM Go.AM.SX
attribute [local irreducible] pz
/-- From here one comes there. -/
structure Reach (E : Env) (gl : List GRow) (m : Nat) (Q : PPost) (T : N) (rv : Rv) (d : Bool) (hs : List Nat) (ps : List P) (μ : Mu) (T' : N) (rv' : Rv) (d' : Bool) (hs' : List Nat) (ps' : List P) (μ' : Mu) : Prop where
 go : pz E gl T' m rv' d' hs' ps' μ' Q → pz E gl T m rv d hs ps μ Q
section
variable {E : Env} {gl : List GRow} {k a b T T' T1 : N} {m : Nat} {rv rv' rv1 : Rv} {d d' d1 : Bool} {hs hs' hs1 : List Nat} {ps ps' ps1 : List P} {μ μ' μ1 : Mu} {Q : PPost} {xs : List X}
theorem r_end : Reach E gl m Q T rv d hs ps μ T rv d hs ps μ := ⟨id⟩
theorem r_op {r : SX.R} (h : stz r xs ps μ = some (ps1, μ1)) (hk : Reach E gl m Q k rv d hs ps1 μ1 T' rv' d' hs' ps' μ') : Reach E gl m Q (.op r xs k) rv d hs ps μ T' rv' d' hs' ps' μ' := ⟨fun z => z_op h (hk.go z)⟩
theorem r_adm (h : adm T rv d hs ps = some (T1, rv1, d1, hs1, ps1)) (hk : Reach E gl m Q T1 rv1 d1 hs1 ps1 μ T' rv' d' hs' ps' μ') : Reach E gl m Q T rv d hs ps μ T' rv' d' hs' ps' μ' := ⟨fun z => z_adm h (hk.go z)⟩
theorem r_add {x y : Int} (h : denF ps xs = some [.c (.int .i64 x), .c (.int .i64 y)]) (h1 : -9223372036854775808 ≤ x + y ∧ x + y ≤ 9223372036854775807) (hk : Reach E gl m Q k rv d hs (ps ++ [.c (.int .i64 (x + y))]) μ T' rv' d' hs' ps' μ') : Reach E gl m Q (.op (.bin .add) xs k) rv d hs ps μ T' rv' d' hs' ps' μ' := ⟨fun z => z_add h h1.1 h1.2 (hk.go z)⟩
theorem r_sub {x y : Int} (h : denF ps xs = some [.c (.int .i64 x), .c (.int .i64 y)]) (h1 : -9223372036854775808 ≤ x - y ∧ x - y ≤ 9223372036854775807) (hk : Reach E gl m Q k rv d hs (ps ++ [.c (.int .i64 (x - y))]) μ T' rv' d' hs' ps' μ') : Reach E gl m Q (.op (.bin .sub) xs k) rv d hs ps μ T' rv' d' hs' ps' μ' := ⟨fun z => z_sub h h1.1 h1.2 (hk.go z)⟩
theorem r_conv {kd : IntKind} {x : Int} (h : denF ps xs = some [.c (.int kd x)]) (h1 : -9223372036854775808 ≤ x ∧ x ≤ 9223372036854775807) (hk : Reach E gl m Q k rv d hs (ps ++ [.c (.int .i64 x)]) μ T' rv' d' hs' ps' μ') : Reach E gl m Q (.op (.conv .i64) xs k) rv d hs ps μ T' rv' d' hs' ps' μ' := ⟨fun z => z_conv64 h h1.1 h1.2 (hk.go z)⟩
theorem r_idx {sz n i : Nat} {l : List P} (h : denF ps xs = some [.sl sz n l, .c (.int .i64 i)]) (hi : i < n) (hk : Reach E gl m Q k rv d hs (ps ++ [.ip l (i * sz)]) μ T' rv' d' hs' ps' μ') : Reach E gl m Q (.op (.idxA sz) xs k) rv d hs ps μ T' rv' d' hs' ps' μ' := ⟨fun z => zn_idx h hi (hk.go z)⟩
theorem r_idxf {sz n i : Nat} {l : List P} (h : denF ps xs = some [.fx sz n l, .c (.int .i64 i)]) (hi : i < n) (hk : Reach E gl m Q k rv d hs (ps ++ [.ip l (i * sz)]) μ T' rv' d' hs' ps' μ') : Reach E gl m Q (.op (.idxA sz) xs k) rv d hs ps μ T' rv' d' hs' ps' μ' := ⟨fun z => zn_idxf h hi (hk.go z)⟩
theorem r_ld1 {off : Nat} {l : List P} {p : P} (h : denF ps xs = some [.ip l off]) (hl : l[off]? = some p) (hk : Reach E gl m Q k rv d hs (ps ++ [p]) μ T' rv' d' hs' ps' μ') : Reach E gl m Q (.op (.load none) xs k) rv d hs ps μ T' rv' d' hs' ps' μ' := ⟨fun z => zn_ld1 h hl (hk.go z)⟩
theorem r_ldp {n : Option Nat} {i off : Nat} {p : P} (h : denF ps xs = some [.lp i off]) (hp : loadP μ n i off = some p) (hd : (!d || noChk k) = true) (hk : Reach E gl m Q k rv d hs (ps ++ [fz p]) μ T' rv' d' hs' ps' μ') : Reach E gl m Q (.op (.load n) xs k) rv d hs ps μ T' rv' d' hs' ps' μ' := ⟨fun z => z_ldp h hp (by cases d with
 | false => exact .inl rfl
 | true => exact .inr hd) (hk.go z)⟩
theorem r_store {n i off : Nat} {l : List P} {p : P} (h : takeL ps xs = some ([.lp i off, p], ps1)) (hi : μ[i]? = some (.cells l)) (hc : (Nat.beq (pcells p).length n && (pcells p).all oneP && Nat.ble (off + n) l.length) = true) (hk : Reach E gl m Q k rv true hs (ps1 ++ [.c undef]) (μ.set i (.cells (setFromP l off (pcells p)))) T' rv' d' hs' ps' μ') : Reach E gl m Q (.op (.store n) xs k) rv d hs ps μ T' rv' d' hs' ps' μ' := ⟨fun z => by
 simp only [Bool.and_eq_true] at hc
 exact z_store h hi (Nat.eq_of_beq_eq_true hc.1.1) hc.1.2 (Nat.le_of_ble_eq_true hc.2) (hk.go z)⟩
theorem r_yes {p : Prop} {dp : Decidable p} {x : X} (h : denF ps [x] = some [.c (.bool (@decide p dp))]) (hp : p) (hk : Reach E gl m Q a rv d hs ps μ T' rv' d' hs' ps' μ') : Reach E gl m Q (.br x a b) rv d hs ps μ T' rv' d' hs' ps' μ' := ⟨fun z => z_brD h (fun _ => hk.go z) (fun e => absurd hp e)⟩
theorem r_no {p : Prop} {dp : Decidable p} {x : X} (h : denF ps [x] = some [.c (.bool (@decide p dp))]) (hp : ¬ p) (hk : Reach E gl m Q b rv d hs ps μ T' rv' d' hs' ps' μ') : Reach E gl m Q (.br x a b) rv d hs ps μ T' rv' d' hs' ps' μ' := ⟨fun z => z_brD h (fun e => absurd e hp) (fun _ => hk.go z)⟩
theorem r_nyes {p : Prop} {dp : Decidable p} {x : X} (h : denF ps [x] = some [.c (.bool !@decide p dp)]) (hp : ¬ p) (hk : Reach E gl m Q a rv d hs ps μ T' rv' d' hs' ps' μ') : Reach E gl m Q (.br x a b) rv d hs ps μ T' rv' d' hs' ps' μ' := ⟨fun z => z_brN h (fun _ => hk.go z) (fun e => absurd e hp)⟩
theorem r_nno {p : Prop} {dp : Decidable p} {x : X} (h : denF ps [x] = some [.c (.bool !@decide p dp)]) (hp : p) (hk : Reach E gl m Q b rv d hs ps μ T' rv' d' hs' ps' μ') : Reach E gl m Q (.br x a b) rv d hs ps μ T' rv' d' hs' ps' μ' := ⟨fun z => z_brN h (fun e => absurd hp e) (fun _ => hk.go z)⟩
theorem r_true {x : X} (h : denF ps [x] = some [.c (.bool true)]) (hk : Reach E gl m Q a rv d hs ps μ T' rv' d' hs' ps' μ') : Reach E gl m Q (.br x a b) rv d hs ps μ T' rv' d' hs' ps' μ' := ⟨fun z => z_true h (hk.go z)⟩
theorem r_false {x : X} (h : denF ps [x] = some [.c (.bool false)]) (hk : Reach E gl m Q b rv d hs ps μ T' rv' d' hs' ps' μ') : Reach E gl m Q (.br x a b) rv d hs ps μ T' rv' d' hs' ps' μ' := ⟨fun z => z_false h (hk.go z)⟩
theorem r_is {x : X} {t : Bool} (h : denF ps [x] = some [.c (.bool t)]) (ht : t = true) (hk : Reach E gl m Q a rv d hs ps μ T' rv' d' hs' ps' μ') : Reach E gl m Q (.br x a b) rv d hs ps μ T' rv' d' hs' ps' μ' := ⟨fun z => z_true (ht ▸ h) (hk.go z)⟩
theorem r_isn {x : X} {t : Bool} (h : denF ps [x] = some [.c (.bool t)]) (ht : t = false) (hk : Reach E gl m Q b rv d hs ps μ T' rv' d' hs' ps' μ') : Reach E gl m Q (.br x a b) rv d hs ps μ T' rv' d' hs' ps' μ' := ⟨fun z => z_false (ht ▸ h) (hk.go z)⟩
theorem r_dec {p : Prop} {dp : Decidable p} {x : X} (_ : denF ps [x] = some [.c (.bool (@decide p dp))]) (hk : Reach E gl m Q a rv d hs ps μ T' rv' d' hs' ps' μ') (hb : Reach E gl m Q b rv d hs ps μ T' rv' d' hs' ps' μ') : Reach E gl m Q (.br x a b) rv d hs ps μ T' rv' d' hs' ps' μ' := ⟨fun z => by
 rename_i h
 exact z_brD h (fun _ => hk.go z) (fun _ => hb.go z)⟩
theorem r_decn {p : Prop} {dp : Decidable p} {x : X} (_ : denF ps [x] = some [.c (.bool !@decide p dp)]) (hk : Reach E gl m Q a rv d hs ps μ T' rv' d' hs' ps' μ') (hb : Reach E gl m Q b rv d hs ps μ T' rv' d' hs' ps' μ') : Reach E gl m Q (.br x a b) rv d hs ps μ T' rv' d' hs' ps' μ' := ⟨fun z => by
 rename_i h
 exact z_brN h (fun _ => hk.go z) (fun _ => hb.go z)⟩
theorem r_call {f : FuncId} {ys : List P} {r : P} (h : denF ps xs = some ys) (hp : PR E gl f ys μ r μ1) (hl : Nat.ble μ.length μ1.length = true) (hk : Reach E gl m Q k rv true hs (ps ++ [r]) μ1 T' rv' d' hs' ps' μ') : Reach E gl m Q (.call f xs k) rv d hs ps μ T' rv' d' hs' ps' μ' := ⟨fun z => z_call h hp (Nat.le_of_ble_eq_true hl) (hk.go z)⟩
theorem r_callF {f : FuncId} {ys : List P} {r : P} (h : denF ps xs = some ys) (hp : PR E gl f ys [] r []) (ho : okm.okL 0 ys = true) (hk : Reach E gl m Q k rv true hs (ps ++ [r]) μ T' rv' d' hs' ps' μ') : Reach E gl m Q (.call f xs k) rv d hs ps μ T' rv' d' hs' ps' μ' := ⟨fun z => z_call h (hp.frame ho μ) (Nat.le_refl _) (hk.go z)⟩
theorem r_raw {r : SX.R} {ys : List P} {p : P} (h : denF ps xs = some ys) (hp : tw r ys = some p) (hk : Reach E gl m Q k rv d hs (ps ++ [p]) μ T' rv' d' hs' ps' μ') : Reach E gl m Q (.op r xs k) rv d hs ps μ T' rv' d' hs' ps' μ' := ⟨fun z => z_raw h hp (hk.go z)⟩
/-- All steps that need no choice (a test that is neither known nor settled by the numbers at hand stays). -/
theorem z_run (hk : pz E gl T' m rv' d' hs' ps' μ' Q) (h : Reach E gl m Q T rv d hs ps μ T' rv' d' hs' ps' μ' := by
  (first
   | (apply r_op; rfl; (try dsimp only [go_sem]))
   | (apply r_adm; rfl; (try dsimp only [go_sem]))
   | (apply r_add; rfl; omega; (try dsimp only [go_sem]))
   | (apply r_sub; rfl; omega; (try dsimp only [go_sem]))
   | (apply r_conv; rfl; omega; (try dsimp only [go_sem]))
   | (apply r_idx; rfl; omega; (try dsimp only [go_sem]))
   | (apply r_idxf; rfl; omega; (try dsimp only [go_sem]))
   | (apply r_ld1; rfl; assumption; (try dsimp only [go_sem]))
   | (apply r_ldp; rfl; rfl; rfl; (try dsimp only [go_sem]))
   | (apply r_store; rfl; rfl; rfl; (try dsimp only [go_sem]))
   | (apply r_yes; rfl; omega)
   | (apply r_no; rfl; omega)
   | (apply r_nyes; rfl; omega)
   | (apply r_nno; rfl; omega)
   | (apply r_is; rfl; assumption)
   | (apply r_isn; rfl; assumption)
   | (apply r_call; rfl; apply_assumption; rfl; (try dsimp only [go_sem]))
   | (apply r_callF; rfl; apply_assumption; rfl; (try dsimp only [go_sem]))
   | ((fail_if_success (apply r_dec; rfl)); (fail_if_success (apply r_decn; rfl)); (first | (apply r_true; rfl) | (apply r_false; rfl)))
   | (apply r_raw; rfl; rfl; (try dsimp only [go_sem])))
  (repeat (first
   | (apply r_op; rfl; (try dsimp only [go_sem]))
   | (apply r_adm; rfl; (try dsimp only [go_sem]))
   | (apply r_add; rfl; omega; (try dsimp only [go_sem]))
   | (apply r_sub; rfl; omega; (try dsimp only [go_sem]))
   | (apply r_conv; rfl; omega; (try dsimp only [go_sem]))
   | (apply r_idx; rfl; omega; (try dsimp only [go_sem]))
   | (apply r_idxf; rfl; omega; (try dsimp only [go_sem]))
   | (apply r_ld1; rfl; assumption; (try dsimp only [go_sem]))
   | (apply r_ldp; rfl; rfl; rfl; (try dsimp only [go_sem]))
   | (apply r_store; rfl; rfl; rfl; (try dsimp only [go_sem]))
   | (apply r_yes; rfl; omega)
   | (apply r_no; rfl; omega)
   | (apply r_nyes; rfl; omega)
   | (apply r_nno; rfl; omega)
   | (apply r_is; rfl; assumption)
   | (apply r_isn; rfl; assumption)
   | (apply r_call; rfl; apply_assumption; rfl; (try dsimp only [go_sem]))
   | (apply r_callF; rfl; apply_assumption; rfl; (try dsimp only [go_sem]))
   | ((fail_if_success (apply r_dec; rfl)); (fail_if_success (apply r_decn; rfl)); (first | (apply r_true; rfl) | (apply r_false; rfl)))
   | (apply r_raw; rfl; rfl; (try dsimp only [go_sem]))))
  exact r_end) : pz E gl T m rv d hs ps μ Q := h.go hk
end
end Go.AM.PV
namespace Go.AM.PV
open Go Go.AM Go.AM.SX
attribute [local irreducible] pz LoopP
/-- From here one comes there. -/
structure To (A B : Prop) : Prop where
 go : B → A
section
variable {E : Env} {gl : List GRow} {k a b T T1 : N} {m : Nat} {rv rv1 : Rv} {d d1 : Bool} {hs hs1 : List Nat} {ps ps' ps1 : List P} {μ μ1 : Mu} {Q : PPost} {xs : List X} {B : Prop}
theorem g_end {A : Prop} : To A A := ⟨id⟩
theorem g_op {r : SX.R} (h : stz r xs ps μ = some (ps1, μ1)) (hk : To (pz E gl k m rv d hs ps1 μ1 Q) B) : To (pz E gl (.op r xs k) m rv d hs ps μ Q) B := ⟨fun z => z_op h (hk.go z)⟩
theorem g_adm (h : adm T rv d hs ps = some (T1, rv1, d1, hs1, ps1)) (hk : To (pz E gl T1 m rv1 d1 hs1 ps1 μ Q) B) : To (pz E gl T m rv d hs ps μ Q) B := ⟨fun z => z_adm h (hk.go z)⟩
theorem g_add {x y : Int} (h : denF ps xs = some [.c (.int .i64 x), .c (.int .i64 y)]) (h1 : -9223372036854775808 ≤ x + y ∧ x + y ≤ 9223372036854775807) (hk : To (pz E gl k m rv d hs (ps ++ [.c (.int .i64 (x + y))]) μ Q) B) : To (pz E gl (.op (.bin .add) xs k) m rv d hs ps μ Q) B := ⟨fun z => z_add h h1.1 h1.2 (hk.go z)⟩
theorem g_sub {x y : Int} (h : denF ps xs = some [.c (.int .i64 x), .c (.int .i64 y)]) (h1 : -9223372036854775808 ≤ x - y ∧ x - y ≤ 9223372036854775807) (hk : To (pz E gl k m rv d hs (ps ++ [.c (.int .i64 (x - y))]) μ Q) B) : To (pz E gl (.op (.bin .sub) xs k) m rv d hs ps μ Q) B := ⟨fun z => z_sub h h1.1 h1.2 (hk.go z)⟩
theorem g_conv {kd : IntKind} {x : Int} (h : denF ps xs = some [.c (.int kd x)]) (h1 : -9223372036854775808 ≤ x ∧ x ≤ 9223372036854775807) (hk : To (pz E gl k m rv d hs (ps ++ [.c (.int .i64 x)]) μ Q) B) : To (pz E gl (.op (.conv .i64) xs k) m rv d hs ps μ Q) B := ⟨fun z => z_conv64 h h1.1 h1.2 (hk.go z)⟩
theorem g_yes {p : Prop} {dp : Decidable p} {x : X} (h : denF ps [x] = some [.c (.bool (@decide p dp))]) (hp : p) (hk : To (pz E gl a m rv d hs ps μ Q) B) : To (pz E gl (.br x a b) m rv d hs ps μ Q) B := ⟨fun z => z_brD h (fun _ => hk.go z) (fun e => absurd hp e)⟩
theorem g_no {p : Prop} {dp : Decidable p} {x : X} (h : denF ps [x] = some [.c (.bool (@decide p dp))]) (hp : ¬ p) (hk : To (pz E gl b m rv d hs ps μ Q) B) : To (pz E gl (.br x a b) m rv d hs ps μ Q) B := ⟨fun z => z_brD h (fun e => absurd e hp) (fun _ => hk.go z)⟩
theorem g_nyes {p : Prop} {dp : Decidable p} {x : X} (h : denF ps [x] = some [.c (.bool !@decide p dp)]) (hp : ¬ p) (hk : To (pz E gl a m rv d hs ps μ Q) B) : To (pz E gl (.br x a b) m rv d hs ps μ Q) B := ⟨fun z => z_brN h (fun _ => hk.go z) (fun e => absurd e hp)⟩
theorem g_nno {p : Prop} {dp : Decidable p} {x : X} (h : denF ps [x] = some [.c (.bool !@decide p dp)]) (hp : p) (hk : To (pz E gl b m rv d hs ps μ Q) B) : To (pz E gl (.br x a b) m rv d hs ps μ Q) B := ⟨fun z => z_brN h (fun e => absurd hp e) (fun _ => hk.go z)⟩
theorem g_true {x : X} (h : denF ps [x] = some [.c (.bool true)]) (hk : To (pz E gl a m rv d hs ps μ Q) B) : To (pz E gl (.br x a b) m rv d hs ps μ Q) B := ⟨fun z => z_true h (hk.go z)⟩
theorem g_false {x : X} (h : denF ps [x] = some [.c (.bool false)]) (hk : To (pz E gl b m rv d hs ps μ Q) B) : To (pz E gl (.br x a b) m rv d hs ps μ Q) B := ⟨fun z => z_false h (hk.go z)⟩
theorem g_dec {p : Prop} {dp : Decidable p} {x : X} (_ : denF ps [x] = some [.c (.bool (@decide p dp))]) (hk : To (pz E gl a m rv d hs ps μ Q) B) (hb : To (pz E gl b m rv d hs ps μ Q) B) : To (pz E gl (.br x a b) m rv d hs ps μ Q) B := ⟨fun z => by
 rename_i h
 exact z_brD h (fun _ => hk.go z) (fun _ => hb.go z)⟩
theorem g_decn {p : Prop} {dp : Decidable p} {x : X} (_ : denF ps [x] = some [.c (.bool !@decide p dp)]) (hk : To (pz E gl a m rv d hs ps μ Q) B) (hb : To (pz E gl b m rv d hs ps μ Q) B) : To (pz E gl (.br x a b) m rv d hs ps μ Q) B := ⟨fun z => by
 rename_i h
 exact z_brN h (fun _ => hk.go z) (fun _ => hb.go z)⟩
theorem g_call {f : FuncId} {ys : List P} {r : P} (h : denF ps xs = some ys) (hp : PR E gl f ys μ r μ1) (hl : Nat.ble μ.length μ1.length = true) (hk : To (pz E gl k m rv true hs (ps ++ [r]) μ1 Q) B) : To (pz E gl (.call f xs k) m rv d hs ps μ Q) B := ⟨fun z => z_call h hp (Nat.le_of_ble_eq_true hl) (hk.go z)⟩
theorem g_quo {x y : Int} (h : denF ps xs = some [.c (.int .i64 x), .c (.int .i64 y)]) (h0 : 0 ≤ x) (h1 : 0 < y) (h2 : x ≤ 9223372036854775807) (hk : To (pz E gl k m rv d hs (ps ++ [.c (.int .i64 (x / y))]) μ Q) B) : To (pz E gl (.op (.bin .quo) xs k) m rv d hs ps μ Q) B := ⟨fun z => z_quo h h0 h1 h2 (hk.go z)⟩
theorem g_loop {body : N} {ys : List P} (h : takeL ps xs = some (ys, ps'))
  (hq : To (LoopP (fun vs μ' Q' => pz E gl body μ.length none false hs (ps'.map fz ++ vs) μ' Q') (fun o outs μ' => pz E gl k m none false hs (ps'.map fz ++ .c (goInt o) :: outs) μ' Q) 12 ys μ) B) : To (pz E gl (.loop xs body k) m rv d hs ps μ Q) B := ⟨fun z => z_rounds 12 h (LeL.refl _) (hq.go z)⟩
theorem g_step {W : List P → Mu → PPost → Prop} {n : Nat} {vs : List P} (h : To (W vs μ fun o outs μ' => match o with
  | 0 => LoopP W Q n outs μ'
  | o + 1 => Q (o + 1) outs μ') B) : To (LoopP W Q (n + 1) vs μ) B := ⟨fun z => LoopP_step (h.go z)⟩
theorem g_fin {o : Nat} {ys : List P} (h : takeL ps xs = some (ys, ps')) (hq : To (Q o ys μ) B) : To (pz E gl (.fin o xs) m rv d hs ps μ Q) B := ⟨fun z => z_fin h (hq.go z)⟩
/-- All steps that need no choice; loops, no more than a dozen rounds. -/
theorem z_go {A : Prop} (hk : B) (h : To A B := by
  (first
   | (apply g_op; rfl; (try dsimp only [go_sem, List.size_toArray, Int.reduceAdd, Int.reduceSub, Int.reduceNeg, Int.reduceDiv, Nat.reduceAdd, Nat.reduceMul, Int.cast_ofNat_Int, UInt8.reduceToNat]))
   | (apply g_adm; rfl; (try dsimp only [go_sem, List.size_toArray, Int.reduceAdd, Int.reduceSub, Int.reduceNeg, Int.reduceDiv, Nat.reduceAdd, Nat.reduceMul, Int.cast_ofNat_Int, UInt8.reduceToNat]))
   | (apply g_add; rfl; omega; (try dsimp only [go_sem, List.size_toArray, Int.reduceAdd, Int.reduceSub, Int.reduceNeg, Int.reduceDiv, Nat.reduceAdd, Nat.reduceMul, Int.cast_ofNat_Int, UInt8.reduceToNat]))
   | (apply g_sub; rfl; omega; (try dsimp only [go_sem, List.size_toArray, Int.reduceAdd, Int.reduceSub, Int.reduceNeg, Int.reduceDiv, Nat.reduceAdd, Nat.reduceMul, Int.cast_ofNat_Int, UInt8.reduceToNat]))
   | (apply g_conv; rfl; omega; (try dsimp only [go_sem, List.size_toArray, Int.reduceAdd, Int.reduceSub, Int.reduceNeg, Int.reduceDiv, Nat.reduceAdd, Nat.reduceMul, Int.cast_ofNat_Int, UInt8.reduceToNat]))
   | (apply g_quo; rfl; omega; omega; omega; (try dsimp only [go_sem, List.size_toArray, Int.reduceAdd, Int.reduceSub, Int.reduceNeg, Int.reduceDiv, Nat.reduceAdd, Nat.reduceMul, Int.cast_ofNat_Int, UInt8.reduceToNat]))
   | (apply g_yes; rfl; omega)
   | (apply g_no; rfl; omega)
   | (apply g_nyes; rfl; omega)
   | (apply g_nno; rfl; omega)
   | (apply g_call; rfl; apply_assumption; rfl; (try dsimp only [go_sem, List.size_toArray, Int.reduceAdd, Int.reduceSub, Int.reduceNeg, Int.reduceDiv, Nat.reduceAdd, Nat.reduceMul, Int.cast_ofNat_Int, UInt8.reduceToNat]))
   | (apply g_loop; rfl; (try dsimp only [go_sem, List.size_toArray, Int.reduceAdd, Int.reduceSub, Int.reduceNeg, Int.reduceDiv, Nat.reduceAdd, Nat.reduceMul, Int.cast_ofNat_Int, UInt8.reduceToNat]))
   | (apply g_step; (try dsimp only [go_sem, List.size_toArray, Int.reduceAdd, Int.reduceSub, Int.reduceNeg, Int.reduceDiv, Nat.reduceAdd, Nat.reduceMul, Int.cast_ofNat_Int, UInt8.reduceToNat]))
   | (apply g_fin; rfl; (try dsimp only [go_sem, List.size_toArray, Int.reduceAdd, Int.reduceSub, Int.reduceNeg, Int.reduceDiv, Nat.reduceAdd, Nat.reduceMul, Int.cast_ofNat_Int, UInt8.reduceToNat]))
   | ((fail_if_success (apply g_dec; rfl)); (fail_if_success (apply g_decn; rfl)); (first | (apply g_true; rfl) | (apply g_false; rfl))))
  (repeat (first
   | (apply g_op; rfl; (try dsimp only [go_sem, List.size_toArray, Int.reduceAdd, Int.reduceSub, Int.reduceNeg, Int.reduceDiv, Nat.reduceAdd, Nat.reduceMul, Int.cast_ofNat_Int, UInt8.reduceToNat]))
   | (apply g_adm; rfl; (try dsimp only [go_sem, List.size_toArray, Int.reduceAdd, Int.reduceSub, Int.reduceNeg, Int.reduceDiv, Nat.reduceAdd, Nat.reduceMul, Int.cast_ofNat_Int, UInt8.reduceToNat]))
   | (apply g_add; rfl; omega; (try dsimp only [go_sem, List.size_toArray, Int.reduceAdd, Int.reduceSub, Int.reduceNeg, Int.reduceDiv, Nat.reduceAdd, Nat.reduceMul, Int.cast_ofNat_Int, UInt8.reduceToNat]))
   | (apply g_sub; rfl; omega; (try dsimp only [go_sem, List.size_toArray, Int.reduceAdd, Int.reduceSub, Int.reduceNeg, Int.reduceDiv, Nat.reduceAdd, Nat.reduceMul, Int.cast_ofNat_Int, UInt8.reduceToNat]))
   | (apply g_conv; rfl; omega; (try dsimp only [go_sem, List.size_toArray, Int.reduceAdd, Int.reduceSub, Int.reduceNeg, Int.reduceDiv, Nat.reduceAdd, Nat.reduceMul, Int.cast_ofNat_Int, UInt8.reduceToNat]))
   | (apply g_quo; rfl; omega; omega; omega; (try dsimp only [go_sem, List.size_toArray, Int.reduceAdd, Int.reduceSub, Int.reduceNeg, Int.reduceDiv, Nat.reduceAdd, Nat.reduceMul, Int.cast_ofNat_Int, UInt8.reduceToNat]))
   | (apply g_yes; rfl; omega)
   | (apply g_no; rfl; omega)
   | (apply g_nyes; rfl; omega)
   | (apply g_nno; rfl; omega)
   | (apply g_call; rfl; apply_assumption; rfl; (try dsimp only [go_sem, List.size_toArray, Int.reduceAdd, Int.reduceSub, Int.reduceNeg, Int.reduceDiv, Nat.reduceAdd, Nat.reduceMul, Int.cast_ofNat_Int, UInt8.reduceToNat]))
   | (apply g_loop; rfl; (try dsimp only [go_sem, List.size_toArray, Int.reduceAdd, Int.reduceSub, Int.reduceNeg, Int.reduceDiv, Nat.reduceAdd, Nat.reduceMul, Int.cast_ofNat_Int, UInt8.reduceToNat]))
   | (apply g_step; (try dsimp only [go_sem, List.size_toArray, Int.reduceAdd, Int.reduceSub, Int.reduceNeg, Int.reduceDiv, Nat.reduceAdd, Nat.reduceMul, Int.cast_ofNat_Int, UInt8.reduceToNat]))
   | (apply g_fin; rfl; (try dsimp only [go_sem, List.size_toArray, Int.reduceAdd, Int.reduceSub, Int.reduceNeg, Int.reduceDiv, Nat.reduceAdd, Nat.reduceMul, Int.cast_ofNat_Int, UInt8.reduceToNat]))
   | ((fail_if_success (apply g_dec; rfl)); (fail_if_success (apply g_decn; rfl)); (first | (apply g_true; rfl) | (apply g_false; rfl)))))
  exact g_end) : A := h.go hk
end
end Go.AM.PV
namespace Go.AM.PV
open Go Go.AM Go.AM.SX
variable (inf : Nat → TypeInfo)
def bs (l : List UInt8) : Value := .string ⟨l.toArray⟩
def t11_6 : N := .op (.idxA 1) [vn 0, vn 2] (.op (.load none) [vn 5] (.call 20 [vn 6] (.op (.newSl 35 [(.int .i64 0), (.int .i64 0), (bs []), (.slice none 0 0)] [(0, 4)]) [vn 7] (.op (.app 35 (inf 35) (.agg #[(.int .i64 0), (.int .i64 0), (bs []), (.slice none 0 0)])) [vn 1, .sl (.n 8) 1] (.op (.bin .add) [vn 2, vv (.int .i64 1)] (.fin 0 [vn 9, vn 10]))))))
def t11_10 : N := .op .lenL [vn 0] (.op (.bin .lss) [vn 2, vn 3] (.br (vn 4) (t11_6 inf) (.fin 2 [vn 1, vn 2])))
def t11_13 : N := .sw 1 2 (.fin 1 [vn 2]) .bad
def t11 : N := .loop [vv (.slice none 0 0), vv (.int .i64 0)] (t11_10 inf) t11_13
def t12_6 : N := .op (.idxA 4) [vn 0, vn 2] (.op (.load (some 4)) [vn 5] (.call 19 [vn 6] (.op (.newSl 41 [.nilIface] [(0, 1)]) [vn 7] (.op (.app 41 (inf 41) .nilIface) [vn 1, .sl (.n 8) 1] (.op (.bin .add) [vn 2, vv (.int .i64 1)] (.fin 0 [vn 9, vn 10]))))))
def t12_10 : N := .op .lenL [vn 0] (.op (.bin .lss) [vn 2, vn 3] (.br (vn 4) (t12_6 inf) (.fin 2 [vn 1, vn 2])))
def t12_13 : N := .sw 1 2 (.fin 1 [vn 2]) .bad
def t12 : N := .loop [vv (.slice none 0 0), vv (.int .i64 0)] (t12_10 inf) t12_13
def t19_3 : N := .op (.fld 1) [vn 1] (.op (.load none) [vn 5] (.op (.build [(.int .i64 0)] [(0, 1)]) [vn 6] (.fin 1 [.ifc 45 (.n 7)])))
def t19_7 : N := .op (.fld 2) [vn 1] (.op (.load none) [vn 6] (.op (.build [(bs [])] [(0, 1)]) [vn 7] (.fin 1 [.ifc 72 (.n 8)])))
def t19_12 : N := .op (.fld 1) [vn 1] (.op (.load none) [vn 7] (.op (.bin .neq) [vn 8, vv (.int .i64 0)] (.op (.build [(.bool false)] [(0, 1)]) [vn 9] (.fin 1 [.ifc 49 (.n 10)]))))
def t19_17 : N := .op (.fld 3) [vn 1] (.op (.load none) [vn 8] (.call 12 [vn 9] (.op (.build [(.slice none 0 0)] [(0, 1)]) [vn 10] (.fin 1 [.ifc 52 (.n 11)]))))
def t19_22 : N := .op (.fld 3) [vn 1] (.op (.load none) [vn 9] (.call 34 [vn 10] (.op (.build [(.slice none 0 0)] [(0, 1)]) [vn 11] (.fin 1 [.ifc 76 (.n 12)]))))
def t19_26 : N := .op (.fld 1) [vn 1] (.op (.load none) [vn 10] (.op (.build [(.int .i64 0)] [(0, 1)]) [vn 11] (.fin 1 [.ifc 78 (.n 12)])))
def t19_29 : N := .op (.bin .eql) [vn 3, vv (.int .i64 6)] (.br (vn 9) t19_26 (.fin 1 [vv .nilIface]))
def t19_31 : N := .op (.bin .eql) [vn 3, vv (.int .i64 5)] (.br (vn 8) t19_22 t19_29)
def t19_33 : N := .op (.bin .eql) [vn 3, vv (.int .i64 4)] (.br (vn 7) t19_17 t19_31)
def t19_35 : N := .op (.bin .eql) [vn 3, vv (.int .i64 3)] (.br (vn 6) t19_12 t19_33)
def t19_37 : N := .op (.bin .eql) [vn 3, vv (.int .i64 2)] (.br (vn 5) t19_7 t19_35)
def t19 : N := .op (.box 35) [vn 0] (.op (.fld 0) [vn 1] (.op (.load none) [vn 2] (.op (.bin .eql) [vn 3, vv (.int .i64 1)] (.br (vn 4) t19_3 t19_37))))
def t20_7 : N := .op (.alloc 45 [(.int .i64 0)]) [] (.op (.store 1) [vn 5, vn 4] (.op (.fld 0) [vn 5] (.op (.load none) [vn 7] (.op (.build [(.int .i64 0), (.int .i64 0), (bs []), (.slice none 0 0)] [(0, 1), (1, 1)]) [vv (.int .i64 1), vn 8] (.op (.store 4) [vn 1, vn 9] (.op (.load (some 4)) [vn 1] (.fin 1 [vn 11])))))))
def t20_15 : N := .op (.alloc 72 [(bs [])]) [] (.op (.store 1) [vn 8, vn 7] (.op (.fld 0) [vn 8] (.op (.load none) [vn 10] (.op (.build [(.int .i64 0), (.int .i64 0), (bs []), (.slice none 0 0)] [(0, 1), (2, 1)]) [vv (.int .i64 2), vn 11] (.op (.store 4) [vn 1, vn 12] (.op (.load (some 4)) [vn 1] (.fin 1 [vn 14])))))))
def t20_19 : N := .op (.build [(.int .i64 0), (.int .i64 0), (bs []), (.slice none 0 0)] [(0, 1), (1, 1)]) [vv (.int .i64 3), vv (.int .i64 1)] (.op (.store 4) [vn 1, vn 15] (.op (.load (some 4)) [vn 1] (.fin 1 [vn 17])))
def t20_23 : N := .op (.build [(.int .i64 0), (.int .i64 0), (bs []), (.slice none 0 0)] [(0, 1)]) [vv (.int .i64 3)] (.op (.store 4) [vn 1, vn 15] (.op (.load (some 4)) [vn 1] (.fin 1 [vn 17])))
def t20_28 : N := .op (.alloc 49 [(.bool false)]) [] (.op (.store 1) [vn 11, vn 10] (.op (.fld 0) [vn 11] (.op (.load none) [vn 13] (.br (vn 14) t20_19 t20_23))))
def t20_37 : N := .op (.alloc 52 [(.slice none 0 0)]) [] (.op (.store 1) [vn 14, vn 13] (.op (.fld 0) [vn 14] (.op (.load none) [vn 16] (.call 11 [vn 17] (.op (.build [(.int .i64 0), (.int .i64 0), (bs []), (.slice none 0 0)] [(0, 1), (3, 1)]) [vv (.int .i64 4), vn 18] (.op (.store 4) [vn 1, vn 19] (.op (.load (some 4)) [vn 1] (.fin 1 [vn 21]))))))))
def t20_46 : N := .op (.alloc 76 [(.slice none 0 0)]) [] (.op (.store 1) [vn 17, vn 16] (.op (.fld 0) [vn 17] (.op (.load none) [vn 19] (.call 35 [vn 20] (.op (.build [(.int .i64 0), (.int .i64 0), (bs []), (.slice none 0 0)] [(0, 1), (3, 1)]) [vv (.int .i64 5), vn 21] (.op (.store 4) [vn 1, vn 22] (.op (.load (some 4)) [vn 1] (.fin 1 [vn 24]))))))))
def t20_54 : N := .op (.alloc 78 [(.int .i64 0)]) [] (.op (.store 1) [vn 20, vn 19] (.op (.fld 0) [vn 20] (.op (.load none) [vn 22] (.op (.build [(.int .i64 0), (.int .i64 0), (bs []), (.slice none 0 0)] [(0, 1), (1, 1)]) [vv (.int .i64 6), vn 23] (.op (.store 4) [vn 1, vn 24] (.op (.load (some 4)) [vn 1] (.fin 1 [vn 26])))))))
def t20_58 : N := .op (.build [(.int .i64 0), (.int .i64 0), (bs []), (.slice none 0 0)] [(0, 1)]) [vv (.int .i64 8)] (.op (.store 4) [vn 1, vn 20] (.op (.load (some 4)) [vn 1] (.fin 1 [vn 22])))
def t20_62 : N := .op (.ta 78 (.agg #[(.int .i64 0)]) true) [vn 0] (.op (.ext 1) [vn 17] (.op (.ext 0) [vn 17] (.br (vn 18) t20_54 t20_58)))
def t20_66 : N := .op (.ta 76 (.agg #[(.slice none 0 0)]) true) [vn 0] (.op (.ext 1) [vn 14] (.op (.ext 0) [vn 14] (.br (vn 15) t20_46 t20_62)))
def t20_70 : N := .op (.ta 52 (.agg #[(.slice none 0 0)]) true) [vn 0] (.op (.ext 1) [vn 11] (.op (.ext 0) [vn 11] (.br (vn 12) t20_37 t20_66)))
def t20_74 : N := .op (.ta 49 (.agg #[(.bool false)]) true) [vn 0] (.op (.ext 1) [vn 8] (.op (.ext 0) [vn 8] (.br (vn 9) t20_28 t20_70)))
def t20_78 : N := .op (.ta 72 (.agg #[(bs [])]) true) [vn 0] (.op (.ext 1) [vn 5] (.op (.ext 0) [vn 5] (.br (vn 6) t20_15 t20_74)))
def t20 : N := .op (.alloc 35 [(.int .i64 0), (.int .i64 0), (bs []), (.slice none 0 0)]) [] (.op (.ta 45 (.agg #[(.int .i64 0)]) true) [vn 0] (.op (.ext 1) [vn 2] (.op (.ext 0) [vn 2] (.br (vn 3) t20_7 t20_78))))
def t34_6 : N := .op (.idxA 4) [vn 0, vn 2] (.op (.load (some 4)) [vn 5] (.call 58 [vn 6] (.op (.newSl 100 [.nilIface] [(0, 1)]) [vn 7] (.op (.app 100 (inf 100) .nilIface) [vn 1, .sl (.n 8) 1] (.op (.bin .add) [vn 2, vv (.int .i64 1)] (.fin 0 [vn 9, vn 10]))))))
def t34_10 : N := .op .lenL [vn 0] (.op (.bin .lss) [vn 2, vn 3] (.br (vn 4) (t34_6 inf) (.fin 2 [vn 1, vn 2])))
def t34_13 : N := .sw 1 2 (.fin 1 [vn 2]) .bad
def t34 : N := .loop [vv (.slice none 0 0), vv (.int .i64 0)] (t34_10 inf) t34_13
def t35_6 : N := .op (.idxA 1) [vn 0, vn 2] (.op (.load none) [vn 5] (.call 59 [vn 6] (.op (.newSl 35 [(.int .i64 0), (.int .i64 0), (bs []), (.slice none 0 0)] [(0, 4)]) [vn 7] (.op (.app 35 (inf 35) (.agg #[(.int .i64 0), (.int .i64 0), (bs []), (.slice none 0 0)])) [vn 1, .sl (.n 8) 1] (.op (.bin .add) [vn 2, vv (.int .i64 1)] (.fin 0 [vn 9, vn 10]))))))
def t35_10 : N := .op .lenL [vn 0] (.op (.bin .lss) [vn 2, vn 3] (.br (vn 4) (t35_6 inf) (.fin 2 [vn 1, vn 2])))
def t35_13 : N := .sw 1 2 (.fin 1 [vn 2]) .bad
def t35 : N := .loop [vv (.slice none 0 0), vv (.int .i64 0)] (t35_10 inf) t35_13
def t58_3 : N := .op (.fld 2) [vn 1] (.op (.load none) [vn 5] (.op (.build [(bs [])] [(0, 1)]) [vn 6] (.fin 1 [.ifc 153 (.n 7)])))
def t58_9 : N := .op (.load (some 4)) [vn 1] (.call 19 [vn 11] (.op (.build [.nilIface] [(0, 1)]) [vn 12] (.fin 1 [.ifc 134 (.n 13)])))
def t58_13 : N := .op (.fld 0) [vn 1] (.op (.load none) [vn 8] (.op (.bin .gtr) [vn 9, vv (.int .i64 6)] (.br (vn 10) (.fin 1 [vv .nilIface]) t58_9)))
def t58_17 : N := .op (.fld 0) [vn 1] (.op (.load none) [vn 5] (.op (.bin .lss) [vn 6, vv (.int .i64 1)] (.br (vn 7) (.fin 1 [vv .nilIface]) t58_13)))
def t58 : N := .op (.box 35) [vn 0] (.op (.fld 0) [vn 1] (.op (.load none) [vn 2] (.op (.bin .eql) [vn 3, vv (.int .i64 7)] (.br (vn 4) t58_3 t58_17))))
def t59_7 : N := .op (.alloc 134 [.nilIface]) [] (.op (.store 1) [vn 5, vn 4] (.op (.fld 0) [vn 5] (.op (.load none) [vn 7] (.call 20 [vn 8] (.op (.store 4) [vn 1, vn 9] (.op (.load (some 4)) [vn 1] (.fin 1 [vn 11])))))))
def t59_15 : N := .op (.alloc 153 [(bs [])]) [] (.op (.store 1) [vn 8, vn 7] (.op (.fld 0) [vn 8] (.op (.load none) [vn 10] (.op (.build [(.int .i64 0), (.int .i64 0), (bs []), (.slice none 0 0)] [(0, 1), (2, 1)]) [vv (.int .i64 7), vn 11] (.op (.store 4) [vn 1, vn 12] (.op (.load (some 4)) [vn 1] (.fin 1 [vn 14])))))))
def t59_19 : N := .op (.build [(.int .i64 0), (.int .i64 0), (bs []), (.slice none 0 0)] [(0, 1)]) [vv (.int .i64 8)] (.op (.store 4) [vn 1, vn 8] (.op (.load (some 4)) [vn 1] (.fin 1 [vn 10])))
def t59_23 : N := .op (.ta 153 (.agg #[(bs [])]) true) [vn 0] (.op (.ext 1) [vn 5] (.op (.ext 0) [vn 5] (.br (vn 6) t59_15 t59_19)))
def t59 : N := .op (.alloc 35 [(.int .i64 0), (.int .i64 0), (bs []), (.slice none 0 0)]) [] (.op (.ta 134 (.agg #[.nilIface]) true) [vn 0] (.op (.ext 1) [vn 2] (.op (.ext 0) [vn 2] (.br (vn 3) t59_7 t59_23))))
def t15_3 : N := .op (.bin .add) [vn 6, vv (.int .i64 1)] (.fin 0 [vn 5, vn 16])
def t15_22 : N := .bump 10 (.save (.op (.idxA 4) [vn 0, vn 6] (.op (.load (some 4)) [vn 10] (.op (.idxA 4) [vn 1, vn 6] (.op (.load (some 4)) [vn 12] (.call 32 [vn 11, vn 13] (.save (.op .not [vn 14] (.self (vn 0) (.self (vn 6) (.chk 0 (.idxA 4) [vn 0, vn 6] (vn 10) (.chk 0 (.load (some 4)) [vn 10] (vn 11) (.self (vn 1) (.self (vn 6) (.chk 0 (.idxA 4) [vn 1, vn 6] (vn 12) (.chk 0 (.load (some 4)) [vn 12] (vn 13) (.chk 1 .not [vn 14] (vn 15) (.br (vn 15) (.fin 1 [vv (.bool false), vn 6]) t15_3))))))))))))))))))
def t15_26 : N := .op .lenL [vn 0] (.op (.bin .lss) [vn 6, vn 7] (.br (vn 8) t15_22 (.fin 2 [vn 5, vn 6])))
def t15_30 : N := .sw 5 2 (.fin 1 [vv (.bool true)]) .bad
def t15_31 : N := .sw 5 1 (.fin 1 [vn 6]) t15_30
def t15_32 : N := .loop [vv (.bool false), vv (.int .i64 0)] t15_26 t15_31
def t15 : N := .op .lenL [vn 0] (.op .lenL [vn 1] (.op (.bin .neq) [vn 2, vn 3] (.br (vn 4) (.fin 1 [vv (.bool false)]) t15_32)))
def t16_3 : N := .op (.fld 0) [vn 1] (.op (.load none) [vn 7] (.op (.bin .neq) [vn 8, vv (.int .i64 7)] (.fin 1 [vn 9])))
def t16 : N := .op (.box 35) [vn 0] (.op (.load (some 4)) [vn 1] (.call 33 [vn 2, vv (.int .i64 1024), vv (.int .i64 0)] (.op (.ext 0) [vn 3] (.op (.ext 1) [vn 3] (.op (.ext 2) [vn 3] (.br (vn 6) t16_3 (.fin 1 [vv (.bool false)])))))))
def t32_8 : N := .op (.fld 3) [vn 2] (.op (.load none) [vn 24] (.op (.fld 3) [vn 3] (.op (.load none) [vn 26] (.call 15 [vn 25, vn 27] (.fin 1 [vn 28])))))
def t32_14 : N := .op (.fld 1) [vn 2] (.op (.load none) [vn 19] (.op (.fld 1) [vn 3] (.op (.load none) [vn 21] (.op (.bin .neq) [vn 20, vn 22] (.br (vn 23) (.fin 1 [vv (.bool false)]) t32_8)))))
def t32_21 : N := .op (.fld 3) [vn 2] (.op (.load none) [vn 25] (.op (.fld 3) [vn 3] (.op (.load none) [vn 27] (.call 15 [vn 26, vn 28] (.fin 1 [vn 29])))))
def t32_27 : N := .op (.fld 1) [vn 2] (.op (.load none) [vn 20] (.op (.fld 1) [vn 3] (.op (.load none) [vn 22] (.op (.bin .neq) [vn 21, vn 23] (.br (vn 24) (.fin 1 [vv (.bool false)]) t32_21)))))
def t32_34 : N := .op (.fld 3) [vn 2] (.op (.load none) [vn 28] (.op (.fld 3) [vn 3] (.op (.load none) [vn 30] (.call 15 [vn 29, vn 31] (.fin 1 [vn 32])))))
def t32_42 : N := .op (.fld 1) [vn 2] (.op (.load none) [vn 21] (.op (.bin .neq) [vn 22, vv (.int .i64 0)] (.op (.fld 1) [vn 3] (.op (.load none) [vn 24] (.op (.bin .neq) [vn 25, vv (.int .i64 0)] (.op (.beq true) [vn 23, vn 26] (.br (vn 27) (.fin 1 [vv (.bool false)]) t32_34)))))))
def t32_49 : N := .op (.fld 3) [vn 2] (.op (.load none) [vn 27] (.op (.fld 3) [vn 3] (.op (.load none) [vn 29] (.call 15 [vn 28, vn 30] (.fin 1 [vn 31])))))
def t32_55 : N := .op (.fld 2) [vn 2] (.op (.load none) [vn 22] (.op (.fld 2) [vn 3] (.op (.load none) [vn 24] (.op (.bin .neq) [vn 23, vn 25] (.br (vn 26) (.fin 1 [vv (.bool false)]) t32_49)))))
def t32_62 : N := .op (.fld 3) [vn 2] (.op (.load none) [vn 28] (.op (.fld 3) [vn 3] (.op (.load none) [vn 30] (.call 15 [vn 29, vn 31] (.fin 1 [vn 32])))))
def t32_68 : N := .op (.fld 2) [vn 2] (.op (.load none) [vn 23] (.op (.fld 2) [vn 3] (.op (.load none) [vn 25] (.op (.bin .neq) [vn 24, vn 26] (.br (vn 27) (.fin 1 [vv (.bool false)]) t32_62)))))
def t32_74 : N := .op (.fld 3) [vn 2] (.op (.load none) [vn 23] (.op (.fld 3) [vn 3] (.op (.load none) [vn 25] (.call 15 [vn 24, vn 26] (.fin 1 [vn 27])))))
def t32_76 : N := .op (.bin .eql) [vn 17, vv (.int .i64 7)] (.br (vn 22) t32_68 t32_74)
def t32_78 : N := .op (.bin .eql) [vn 17, vv (.int .i64 2)] (.br (vn 21) t32_55 t32_76)
def t32_80 : N := .op (.bin .eql) [vn 17, vv (.int .i64 3)] (.br (vn 20) t32_42 t32_78)
def t32_82 : N := .op (.bin .eql) [vn 17, vv (.int .i64 6)] (.br (vn 19) t32_27 t32_80)
def t32_86 : N := .op (.fld 0) [vn 2] (.op (.load none) [vn 16] (.op (.bin .eql) [vn 17, vv (.int .i64 1)] (.br (vn 18) t32_14 t32_82)))
def t32_94 : N := .op (.fld 3) [vn 2] (.op (.load none) [vn 9] (.op .lenL [vn 10] (.op (.fld 3) [vn 3] (.op (.load none) [vn 12] (.op .lenL [vn 13] (.op (.bin .neq) [vn 11, vn 14] (.br (vn 15) (.fin 1 [vv (.bool false)]) t32_86)))))))
def t32 : N := .op (.box 35) [vn 0] (.op (.box 35) [vn 1] (.op (.fld 0) [vn 2] (.op (.load none) [vn 4] (.op (.fld 0) [vn 3] (.op (.load none) [vn 6] (.op (.bin .neq) [vn 5, vn 7] (.br (vn 8) (.fin 1 [vv (.bool false)]) t32_94)))))))
def t33_1 : N := .op .tup [vv (.int .i64 0), vv (.int .i64 0), vv (.bool false)] (.fin 1 [vn 5])
def t33_3 : N := .op .tup [vv (.int .i64 0), vv (.int .i64 0), vv (.bool false)] (.fin 1 [vn 6])
def t33_8 : N := .op (.fld 1) [vn 3] (.op (.load none) [vn 9] (.call 21 [vn 10] (.op .tup [vv (.int .i64 1), vv (.int .i64 0), vn 11] (.fin 1 [vn 12]))))
def t33_14 : N := .op (.fld 2) [vn 3] (.op (.load none) [vn 14] (.call 56 [vn 15] (.op (.bin .lss) [vn 16, vv (.int .i64 0)] (.op .tup [vv (.int .i64 1), vv (.int .i64 0), vn 17] (.fin 1 [vn 18])))))
def t33_16 : N := .op .tup [vv (.int .i64 1), vv (.int .i64 0), vv (.bool false)] (.fin 1 [vn 14])
def t33_21 : N := .op (.fld 2) [vn 3] (.op (.load none) [vn 10] (.op .lenS [vn 11] (.op (.bin .leq) [vn 12, vv (.int .i64 4096)] (.br (vn 13) t33_14 t33_16))))
def t33_23 : N := .op .tup [vv (.int .i64 1), vv (.int .i64 0), vv (.bool true)] (.fin 1 [vn 11])
def t33_39 : N := .op (.fld 1) [vn 3] (.op (.load none) [vn 16] (.op (.bin .leq) [vn 17, vv (.int .i64 1048576)] (.self (vn 13) (.self (vn 14) (.self (vn 15) (.self (vn 15) (.self (vn 16) (.self (vn 17) (.self (vn 18) (.self (vn 18) (.self (vv (.int .i64 1)) (.self (vv (.int .i64 0)) (.self (vn 18) (.op .tup [vv (.int .i64 1), vv (.int .i64 0), vn 18] (.fin 1 [vn 19])))))))))))))))
def t33_49 : N := .self (vn 13) (.self (vn 14) (.self (vn 15) (.self (vn 15) (.self (vv (.bool false)) (.self (vv (.int .i64 1)) (.self (vv (.int .i64 0)) (.self (vv (.bool false)) (.op .tup [vv (.int .i64 1), vv (.int .i64 0), vv (.bool false)] (.fin 1 [vn 16])))))))))
def t33_55 : N := .bump 11 (.save (.op (.fld 1) [vn 3] (.op (.load none) [vn 13] (.op (.bin .geq) [vn 14, vv (.int .i64 1)] (.br (vn 15) t33_39 t33_49)))))
def t33_60 : N := .op (.fld 2) [vn 3] (.op (.load none) [vn 13] (.call 57 [vn 14] (.op .tup [vv (.int .i64 1), vv (.int .i64 0), vn 15] (.fin 1 [vn 16]))))
def t33_66 : N := .op (.bin .add) [vn 15, vn 38] (.op (.mm true) [vn 16, vn 39] (.op (.bin .add) [vn 17, vv (.int .i64 1)] (.fin 0 [vn 14, vn 42, vn 43, vn 44])))
def t33_78 : N := .op (.fld 3) [vn 3] (.op (.load none) [vn 31] (.op (.idxA 4) [vn 32, vn 17] (.op (.load (some 4)) [vn 33] (.op (.bin .sub) [vn 1, vn 15] (.op (.bin .add) [vn 2, vv (.int .i64 1)] (.call 33 [vn 34, vn 35, vn 36] (.op (.ext 0) [vn 37] (.op (.ext 1) [vn 37] (.op (.ext 2) [vn 37] (.op .not [vn 40] (.br (vn 41) (.fin 1 [vv (.bool false), vv (.int .i64 0), vv (.int .i64 0), vn 17]) t33_66)))))))))))
def t33_85 : N := .op (.fld 3) [vn 3] (.op (.load none) [vn 25] (.op (.idxA 4) [vn 26, vn 17] (.op (.fld 0) [vn 27] (.op (.load none) [vn 28] (.op (.bin .eql) [vn 29, vv (.int .i64 7)] (.br (vn 30) (.fin 1 [vv (.bool false), vv (.int .i64 0), vv (.int .i64 0), vn 17]) t33_78))))))
def t33_90 : N := .op (.bin .add) [vn 15, vn 32] (.op (.mm true) [vn 16, vn 33] (.op (.bin .add) [vn 17, vv (.int .i64 1)] (.fin 0 [vn 14, vn 36, vn 37, vn 38])))
def t33_102 : N := .op (.fld 3) [vn 3] (.op (.load none) [vn 25] (.op (.idxA 4) [vn 26, vn 17] (.op (.load (some 4)) [vn 27] (.op (.bin .sub) [vn 1, vn 15] (.op (.bin .add) [vn 2, vv (.int .i64 1)] (.call 33 [vn 28, vn 29, vn 30] (.op (.ext 0) [vn 31] (.op (.ext 1) [vn 31] (.op (.ext 2) [vn 31] (.op .not [vn 34] (.br (vn 35) (.fin 1 [vv (.bool false), vv (.int .i64 0), vv (.int .i64 0), vn 17]) t33_90)))))))))))
def t33_106 : N := .op (.fld 0) [vn 3] (.op (.load none) [vn 22] (.op (.bin .eql) [vn 23, vv (.int .i64 4)] (.br (vn 24) t33_85 t33_102)))
def t33_112 : N := .op (.fld 3) [vn 3] (.op (.load none) [vn 18] (.op .lenL [vn 19] (.op (.bin .lss) [vn 17, vn 20] (.br (vn 21) t33_106 (.fin 3 [vn 14, vn 15, vn 16, vn 17])))))
def t33_114 : N := .op .tup [vn 16, vn 17, vn 15] (.fin 1 [vn 19])
def t33_118 : N := .op (.bin .add) [vn 17, vv (.int .i64 1)] (.op (.bin .lss) [vn 17, vv (.int .i64 32)] (.op .tup [vn 16, vn 19, vn 20] (.fin 1 [vn 21])))
def t33_120 : N := .sw 14 3 t33_118 .bad
def t33_121 : N := .sw 14 1 t33_114 t33_120
def t33_122 : N := .loop [vv (.bool false), vv (.int .i64 1), vv (.int .i64 0), vv (.int .i64 0)] t33_112 t33_121
def t33_128 : N := .op (.bin .add) [vn 16, vn 39] (.op (.mm true) [vn 17, vn 40] (.op (.bin .add) [vn 18, vv (.int .i64 1)] (.fin 0 [vn 15, vn 43, vn 44, vn 45])))
def t33_140 : N := .op (.fld 3) [vn 3] (.op (.load none) [vn 32] (.op (.idxA 4) [vn 33, vn 18] (.op (.load (some 4)) [vn 34] (.op (.bin .sub) [vn 1, vn 16] (.op (.bin .add) [vn 2, vv (.int .i64 1)] (.call 33 [vn 35, vn 36, vn 37] (.op (.ext 0) [vn 38] (.op (.ext 1) [vn 38] (.op (.ext 2) [vn 38] (.op .not [vn 41] (.br (vn 42) (.fin 1 [vv (.bool false), vv (.int .i64 0), vv (.int .i64 0), vn 18]) t33_128)))))))))))
def t33_147 : N := .op (.fld 3) [vn 3] (.op (.load none) [vn 26] (.op (.idxA 4) [vn 27, vn 18] (.op (.fld 0) [vn 28] (.op (.load none) [vn 29] (.op (.bin .eql) [vn 30, vv (.int .i64 7)] (.br (vn 31) (.fin 1 [vv (.bool false), vv (.int .i64 0), vv (.int .i64 0), vn 18]) t33_140))))))
def t33_152 : N := .op (.bin .add) [vn 16, vn 33] (.op (.mm true) [vn 17, vn 34] (.op (.bin .add) [vn 18, vv (.int .i64 1)] (.fin 0 [vn 15, vn 37, vn 38, vn 39])))
def t33_164 : N := .op (.fld 3) [vn 3] (.op (.load none) [vn 26] (.op (.idxA 4) [vn 27, vn 18] (.op (.load (some 4)) [vn 28] (.op (.bin .sub) [vn 1, vn 16] (.op (.bin .add) [vn 2, vv (.int .i64 1)] (.call 33 [vn 29, vn 30, vn 31] (.op (.ext 0) [vn 32] (.op (.ext 1) [vn 32] (.op (.ext 2) [vn 32] (.op .not [vn 35] (.br (vn 36) (.fin 1 [vv (.bool false), vv (.int .i64 0), vv (.int .i64 0), vn 18]) t33_152)))))))))))
def t33_168 : N := .op (.fld 0) [vn 3] (.op (.load none) [vn 23] (.op (.bin .eql) [vn 24, vv (.int .i64 4)] (.br (vn 25) t33_147 t33_164)))
def t33_174 : N := .op (.fld 3) [vn 3] (.op (.load none) [vn 19] (.op .lenL [vn 20] (.op (.bin .lss) [vn 18, vn 21] (.br (vn 22) t33_168 (.fin 3 [vn 15, vn 16, vn 17, vn 18])))))
def t33_176 : N := .op .tup [vn 17, vn 18, vn 16] (.fin 1 [vn 20])
def t33_180 : N := .op (.bin .add) [vn 18, vv (.int .i64 1)] (.op (.bin .lss) [vn 18, vv (.int .i64 32)] (.op .tup [vn 17, vn 20, vn 21] (.fin 1 [vn 22])))
def t33_182 : N := .sw 15 3 t33_180 .bad
def t33_183 : N := .sw 15 1 t33_176 t33_182
def t33_184 : N := .loop [vv (.bool false), vv (.int .i64 1), vv (.int .i64 0), vv (.int .i64 0)] t33_174 t33_183
def t33_186 : N := .op .tup [vv (.int .i64 0), vv (.int .i64 0), vv (.bool false)] (.fin 1 [vn 15])
def t33_188 : N := .op (.bin .eql) [vn 7, vv (.int .i64 5)] (.br (vn 14) t33_184 t33_186)
def t33_190 : N := .op (.bin .eql) [vn 7, vv (.int .i64 4)] (.br (vn 13) t33_122 t33_188)
def t33_192 : N := .op (.bin .eql) [vn 7, vv (.int .i64 7)] (.br (vn 12) t33_60 t33_190)
def t33_194 : N := .op (.bin .eql) [vn 7, vv (.int .i64 6)] (.br (vn 11) t33_55 t33_192)
def t33_196 : N := .op (.bin .eql) [vn 7, vv (.int .i64 3)] (.br (vn 10) t33_23 t33_194)
def t33_198 : N := .op (.bin .eql) [vn 7, vv (.int .i64 2)] (.br (vn 9) t33_21 t33_196)
def t33_202 : N := .op (.fld 0) [vn 3] (.op (.load none) [vn 6] (.op (.bin .eql) [vn 7, vv (.int .i64 1)] (.br (vn 8) t33_8 t33_198)))
def t33_204 : N := .op (.bin .gtr) [vn 2, vv (.int .i64 32)] (.br (vn 5) t33_3 t33_202)
def t33 : N := .op (.box 35) [vn 0] (.op (.bin .lss) [vn 1, vv (.int .i64 1)] (.br (vn 4) t33_1 t33_204))
def t21_1 : N := .op (.bin .leq) [vn 0, vv (.int .i64 1152921504606846975)] (.fin 1 [vn 2])
def t21 : N := .op (.bin .geq) [vn 0, vv (.int .i64 (-1152921504606846976))] (.br (vn 1) t21_1 (.fin 1 [vv (.bool false)]))
def t24 : N := .op (.alloc 3 [(.int .i64 0)]) [] (.op (.store 1) [vn 1, vv (.int .i64 1024)] (.call 39 [vn 0, vn 1, vv (.int .i64 0)] (.op (.ext 0) [vn 3] (.op (.ext 1) [vn 3] (.op .not [vn 5] (.br (vn 6) (.fin 1 [vv (.int .i64 1)]) (.fin 1 [vv (.int .i64 0)])))))))
def t39_1 : N := .op .tup [vv (.int .i64 0), vv (.bool false)] (.fin 1 [vn 11])
def t39_3 : N := .op .tup [vv (.int .i64 0), vv (.bool false)] (.fin 1 [vn 12])
def t39_18 : N := .op (.fld 0) [vn 15] (.op (.load none) [vn 21] (.op (.bin .leq) [vn 22, vv (.int .i64 1152921504606846975)] (.self (vn 18) (.self (vn 19) (.self (vn 20) (.self (vn 20) (.self (vn 21) (.self (vn 22) (.self (vn 23) (.self (vn 23) (.self (vv (.int .i64 0)) (.self (vn 23) (.op .tup [vv (.int .i64 0), vn 23] (.fin 1 [vn 24]))))))))))))))
def t39_27 : N := .self (vn 18) (.self (vn 19) (.self (vn 20) (.self (vn 20) (.self (vv (.bool false)) (.self (vv (.int .i64 0)) (.self (vv (.bool false)) (.op .tup [vv (.int .i64 0), vv (.bool false)] (.fin 1 [vn 21]))))))))
def t39_35 : N := .op (.alloc 45 [(.int .i64 0)]) [] (.op (.store 1) [vn 15, vn 14] (.bump 10 (.save (.op (.fld 0) [vn 15] (.op (.load none) [vn 18] (.op (.bin .geq) [vn 19, vv (.int .i64 (-1152921504606846976))] (.br (vn 20) t39_18 t39_27)))))))
def t39_40 : N := .op (.fld 0) [vn 18] (.op (.load none) [vn 24] (.call 64 [vn 25] (.op .tup [vv (.int .i64 0), vn 26] (.fin 1 [vn 27]))))
def t39_42 : N := .op .tup [vv (.int .i64 0), vv (.bool false)] (.fin 1 [vn 24])
def t39_49 : N := .op (.alloc 72 [(bs [])]) [] (.op (.store 1) [vn 18, vn 17] (.op (.fld 0) [vn 18] (.op (.load none) [vn 20] (.op .lenS [vn 21] (.op (.bin .leq) [vn 22, vv (.int .i64 4096)] (.br (vn 23) t39_40 t39_42))))))
def t39_53 : N := .op (.alloc 49 [(.bool false)]) [] (.op (.store 1) [vn 21, vn 20] (.op .tup [vv (.int .i64 0), vv (.bool true)] (.fin 1 [vn 23])))
def t39_68 : N := .op (.fld 0) [vn 24] (.op (.load none) [vn 30] (.op (.bin .leq) [vn 31, vv (.int .i64 1048576)] (.self (vn 27) (.self (vn 28) (.self (vn 29) (.self (vn 29) (.self (vn 30) (.self (vn 31) (.self (vn 32) (.self (vn 32) (.self (vv (.int .i64 0)) (.self (vn 32) (.op .tup [vv (.int .i64 0), vn 32] (.fin 1 [vn 33]))))))))))))))
def t39_77 : N := .self (vn 27) (.self (vn 28) (.self (vn 29) (.self (vn 29) (.self (vv (.bool false)) (.self (vv (.int .i64 0)) (.self (vv (.bool false)) (.op .tup [vv (.int .i64 0), vv (.bool false)] (.fin 1 [vn 30]))))))))
def t39_85 : N := .op (.alloc 78 [(.int .i64 0)]) [] (.op (.store 1) [vn 24, vn 23] (.bump 10 (.save (.op (.fld 0) [vn 24] (.op (.load none) [vn 27] (.op (.bin .geq) [vn 28, vv (.int .i64 1)] (.br (vn 29) t39_68 t39_77)))))))
def t39_89 : N := .op (.mm true) [vn 33, vn 40] (.op (.bin .add) [vn 34, vv (.int .i64 1)] (.fin 0 [vn 32, vn 43, vn 44]))
def t39_97 : N := .op (.idxA 1) [vn 30, vn 34] (.op (.load none) [vn 36] (.op (.bin .add) [vn 2, vv (.int .i64 1)] (.call 39 [vn 37, vn 1, vn 38] (.op (.ext 0) [vn 39] (.op (.ext 1) [vn 39] (.op .not [vn 41] (.br (vn 42) (.fin 1 [vv (.bool false), vv (.int .i64 0), vn 34]) t39_89)))))))
def t39_100 : N := .op (.bin .lss) [vn 34, vn 31] (.br (vn 35) t39_97 (.fin 3 [vn 32, vn 33, vn 34]))
def t39_102 : N := .op .tup [vn 34, vn 33] (.fin 1 [vn 36])
def t39_106 : N := .op (.bin .add) [vn 34, vv (.int .i64 1)] (.op (.bin .lss) [vn 34, vv (.int .i64 32)] (.op .tup [vn 36, vn 37] (.fin 1 [vn 38])))
def t39_108 : N := .sw 32 3 t39_106 .bad
def t39_109 : N := .sw 32 1 t39_102 t39_108
def t39_115 : N := .op (.alloc 52 [(.slice none 0 0)]) [] (.op (.store 1) [vn 27, vn 26] (.op (.fld 0) [vn 27] (.op (.load none) [vn 29] (.op .lenL [vn 30] (.loop [vv (.bool false), vv (.int .i64 0), vv (.int .i64 0)] t39_100 t39_109)))))
def t39_119 : N := .op (.mm true) [vn 36, vn 43] (.op (.bin .add) [vn 37, vv (.int .i64 1)] (.fin 0 [vn 35, vn 46, vn 47]))
def t39_127 : N := .op (.idxA 1) [vn 33, vn 37] (.op (.load none) [vn 39] (.op (.bin .add) [vn 2, vv (.int .i64 1)] (.call 65 [vn 40, vn 1, vn 41] (.op (.ext 0) [vn 42] (.op (.ext 1) [vn 42] (.op .not [vn 44] (.br (vn 45) (.fin 1 [vv (.bool false), vv (.int .i64 0), vn 37]) t39_119)))))))
def t39_130 : N := .op (.bin .lss) [vn 37, vn 34] (.br (vn 38) t39_127 (.fin 5 [vn 35, vn 36, vn 37]))
def t39_132 : N := .op .tup [vn 37, vn 36] (.fin 1 [vn 39])
def t39_136 : N := .op (.bin .add) [vn 37, vv (.int .i64 1)] (.op (.bin .lss) [vn 37, vv (.int .i64 32)] (.op .tup [vn 39, vn 40] (.fin 1 [vn 41])))
def t39_138 : N := .sw 35 5 t39_136 .bad
def t39_139 : N := .sw 35 1 t39_132 t39_138
def t39_145 : N := .op (.alloc 76 [(.slice none 0 0)]) [] (.op (.store 1) [vn 30, vn 29] (.op (.fld 0) [vn 30] (.op (.load none) [vn 32] (.op .lenL [vn 33] (.loop [vv (.bool false), vv (.int .i64 0), vv (.int .i64 0)] t39_130 t39_139)))))
def t39_147 : N := .op .tup [vv (.int .i64 0), vv (.bool false)] (.fin 1 [vn 30])
def t39_151 : N := .op (.ta 76 (.agg #[(.slice none 0 0)]) true) [vn 0] (.op (.ext 1) [vn 27] (.op (.ext 0) [vn 27] (.br (vn 28) t39_145 t39_147)))
def t39_155 : N := .op (.ta 52 (.agg #[(.slice none 0 0)]) true) [vn 0] (.op (.ext 1) [vn 24] (.op (.ext 0) [vn 24] (.br (vn 25) t39_115 t39_151)))
def t39_159 : N := .op (.ta 78 (.agg #[(.int .i64 0)]) true) [vn 0] (.op (.ext 1) [vn 21] (.op (.ext 0) [vn 21] (.br (vn 22) t39_85 t39_155)))
def t39_163 : N := .op (.ta 49 (.agg #[(.bool false)]) true) [vn 0] (.op (.ext 1) [vn 18] (.op (.ext 0) [vn 18] (.br (vn 19) t39_53 t39_159)))
def t39_167 : N := .op (.ta 72 (.agg #[(bs [])]) true) [vn 0] (.op (.ext 1) [vn 15] (.op (.ext 0) [vn 15] (.br (vn 16) t39_49 t39_163)))
def t39_171 : N := .op (.ta 45 (.agg #[(.int .i64 0)]) true) [vn 0] (.op (.ext 1) [vn 12] (.op (.ext 0) [vn 12] (.br (vn 13) t39_35 t39_167)))
def t39_173 : N := .op (.bin .gtr) [vn 2, vv (.int .i64 32)] (.br (vn 11) t39_3 t39_171)
def t39 : N := .op .nilc [vn 1] (.op (.load none) [vn 3] (.op (.bin .sub) [vn 4, vv (.int .i64 1)] (.op .nilc [vn 1] (.op (.store 1) [vn 6, vn 5] (.op .nilc [vn 1] (.op (.load none) [vn 8] (.op (.bin .lss) [vn 9, vv (.int .i64 0)] (.br (vn 10) t39_1 t39_173))))))))
def t65_6 : N := .op (.fld 0) [vn 6] (.op (.load none) [vn 8] (.call 39 [vn 9, vn 1, vn 2] (.op (.ext 0) [vn 10] (.op (.ext 1) [vn 10] (.op .tup [vn 11, vn 12] (.fin 1 [vn 13]))))))
def t65_11 : N := .op (.fld 0) [vn 11] (.op (.load none) [vn 21] (.call 102 [vn 22] (.op .tup [vv (.int .i64 0), vn 23] (.fin 1 [vn 24]))))
def t65_13 : N := .op .tup [vv (.int .i64 0), vv (.bool false)] (.fin 1 [vn 21])
def t65_17 : N := .op .nilc [vn 1] (.op (.load none) [vn 18] (.op (.bin .geq) [vn 19, vv (.int .i64 0)] (.br (vn 20) t65_11 t65_13)))
def t65_19 : N := .op .tup [vv (.int .i64 0), vv (.bool false)] (.fin 1 [vn 18])
def t65_30 : N := .op (.ta 153 (.agg #[(bs [])]) true) [vn 0] (.op (.ext 0) [vn 8] (.op (.ext 1) [vn 8] (.op (.alloc 153 [(bs [])]) [] (.op (.store 1) [vn 11, vn 9] (.op .nilc [vn 1] (.op (.load none) [vn 13] (.op (.bin .sub) [vn 14, vv (.int .i64 1)] (.op .nilc [vn 1] (.op (.store 1) [vn 16, vn 15] (.br (vn 10) t65_17 t65_19))))))))))
def t65 : N := .op (.ta 134 (.agg #[.nilIface]) true) [vn 0] (.op (.ext 0) [vn 3] (.op (.ext 1) [vn 3] (.op (.alloc 134 [.nilIface]) [] (.op (.store 1) [vn 6, vn 4] (.br (vn 5) t65_6 t65_30)))))
def t57_2 : N := .call 97 [vn 0] (.op .not [vn 2] (.fin 1 [vn 3]))
def t57 : N := .call 96 [vn 0] (.br (vn 1) t57_2 (.fin 1 [vv (.bool false)]))
def t102_2 : N := .call 134 [vn 0] (.op .not [vn 2] (.fin 1 [vn 3]))
def t102 : N := .call 133 [vn 0] (.br (vn 1) t102_2 (.fin 1 [vv (.bool false)]))
def t28_6 : N := .op (.idxA 1) [vn 7, vn 10] (.op (.load none) [vn 12] (.call 28 [vn 13] (.op (.newSl 41 [.nilIface] [(0, 1)]) [vn 14] (.op (.app 41 (inf 41) .nilIface) [vn 9, .sl (.n 15) 1] (.op (.bin .add) [vn 10, vv (.int .i64 1)] (.fin 0 [vn 16, vn 17]))))))
def t28_9 : N := .op (.bin .lss) [vn 10, vn 8] (.br (vn 11) (t28_6 inf) (.fin 3 [vn 9, vn 10]))
def t28_11 : N := .op (.build [(.slice none 0 0)] [(0, 1)]) [vn 10] (.fin 1 [.ifc 52 (.n 12)])
def t28_13 : N := .sw 9 3 t28_11 .bad
def t28_19 : N := .op (.alloc 52 [(.slice none 0 0)]) [] (.op (.store 1) [vn 4, vn 3] (.op (.fld 0) [vn 4] (.op (.load none) [vn 6] (.op .lenL [vn 7] (.loop [vv (.slice none 0 0), vv (.int .i64 0)] (t28_9 inf) t28_13)))))
def t28_26 : N := .op (.alloc 76 [(.slice none 0 0)]) [] (.op (.store 1) [vn 7, vn 6] (.op (.fld 0) [vn 7] (.op (.load none) [vn 9] (.call 47 [vn 10] (.op (.build [(.slice none 0 0)] [(0, 1)]) [vn 11] (.fin 1 [.ifc 76 (.n 12)]))))))
def t28_31 : N := .op (.ta 76 (.agg #[(.slice none 0 0)]) true) [vn 0] (.op (.ext 1) [vn 4] (.op (.ext 0) [vn 4] (.br (vn 5) t28_26 (.fin 1 [vn 0]))))
def t28 : N := .op (.ta 52 (.agg #[(.slice none 0 0)]) true) [vn 0] (.op (.ext 1) [vn 1] (.op (.ext 0) [vn 1] (.br (vn 2) (t28_19 inf) t28_31)))
def t97_11 : N := .op (.bin .eql) [vn 0, vv (bs [102])] (.fin 1 [vn 11])
def t97_13 : N := .op (.bin .eql) [vn 0, vv (bs [116])] (.br (vn 10) (.fin 1 [vv (.bool true)]) t97_11)
def t97_15 : N := .op (.bin .eql) [vn 0, vv (bs [125])] (.br (vn 9) (.fin 1 [vv (.bool true)]) t97_13)
def t97_17 : N := .op (.bin .eql) [vn 0, vv (bs [123])] (.br (vn 8) (.fin 1 [vv (.bool true)]) t97_15)
def t97_19 : N := .op (.bin .eql) [vn 0, vv (bs [93])] (.br (vn 7) (.fin 1 [vv (.bool true)]) t97_17)
def t97_21 : N := .op (.bin .eql) [vn 0, vv (bs [91])] (.br (vn 6) (.fin 1 [vv (.bool true)]) t97_19)
def t97_23 : N := .op (.bin .eql) [vn 0, vv (bs [45, 45])] (.br (vn 5) (.fin 1 [vv (.bool true)]) t97_21)
def t97_25 : N := .op (.bin .eql) [vn 0, vv (bs [41])] (.br (vn 4) (.fin 1 [vv (.bool true)]) t97_23)
def t97_27 : N := .op (.bin .eql) [vn 0, vv (bs [40])] (.br (vn 3) (.fin 1 [vv (.bool true)]) t97_25)
def t97_29 : N := .op (.bin .eql) [vn 0, vv (bs [59])] (.br (vn 2) (.fin 1 [vv (.bool true)]) t97_27)
def t97 : N := .op (.bin .eql) [vn 0, vv (bs [58])] (.br (vn 1) (.fin 1 [vv (.bool true)]) t97_29)
def t134 : N := .op (.newSl 9 [(bs []), (bs []), (bs []), (bs []), (bs []), (bs []), (bs []), (bs []), (bs []), (bs []), (bs [])] [(0, 1), (1, 1), (2, 1), (3, 1), (4, 1), (5, 1), (6, 1), (7, 1), (8, 1), (9, 1), (10, 1)]) [vv (bs [58]), vv (bs [59]), vv (bs [40]), vv (bs [41]), vv (bs [45, 45]), vv (bs [91]), vv (bs [93]), vv (bs [123]), vv (bs [125]), vv (bs [116]), vv (bs [102])] (.call 37 [.sl (.n 1) 11, vn 0] (.fin 1 [vn 2]))
def t53_2 : N := .op (.build [(.int .i64 0), (.int .i64 0), (bs []), (.slice none 0 0)] [(0, 1), (1, 1)]) [vv (.int .i64 3), vv (.int .i64 1)] (.op (.newSl 35 [(.int .i64 0), (.int .i64 0), (bs []), (.slice none 0 0)] [(0, 4)]) [vn 1] (.fin 1 [.sl (.n 2) 1]))
def t53_5 : N := .op (.build [(.int .i64 0), (.int .i64 0), (bs []), (.slice none 0 0)] [(0, 1)]) [vv (.int .i64 3)] (.op (.newSl 35 [(.int .i64 0), (.int .i64 0), (bs []), (.slice none 0 0)] [(0, 4)]) [vn 1] (.fin 1 [.sl (.n 2) 1]))
def t53 : N := .br (vn 0) t53_2 t53_5
end Go.AM.PV
namespace Go.AM.PV
open Go Go.AM Go.AM.SX
def t130_6 : N := .op (.bin .eql) [vn 0, vv (.int .i32 12288)] (.fin 1 [vn 6])
def t130_8 : N := .op (.bin .eql) [vn 0, vv (.int .i32 160)] (.br (vn 5) (.fin 1 [vv (.bool true)]) t130_6)
def t130_10 : N := .op (.bin .eql) [vn 0, vv (.int .i32 32)] (.br (vn 4) (.fin 1 [vv (.bool true)]) t130_8)
def t130_12 : N := .op (.bin .eql) [vn 0, vv (.int .i32 13)] (.br (vn 3) (.fin 1 [vv (.bool true)]) t130_10)
def t130_14 : N := .op (.bin .eql) [vn 0, vv (.int .i32 10)] (.br (vn 2) (.fin 1 [vv (.bool true)]) t130_12)
def t130 : N := .op (.bin .eql) [vn 0, vv (.int .i32 9)] (.br (vn 1) (.fin 1 [vv (.bool true)]) t130_14)
def t148_5 : N := .op (.bin .leq) [vn 0, vv (.int .i32 65305)] (.br (vn 6) (.fin 1 [vv (.int .i32 65296)]) (.fin 1 [vv (.int .i32 0)]))
def t148_8 : N := .op (.bin .geq) [vn 0, vv (.int .i32 65296)] (.br (vn 5) t148_5 (.fin 1 [vv (.int .i32 0)]))
def t148_10 : N := .op (.bin .leq) [vn 0, vv (.int .i32 1641)] (.br (vn 4) (.fin 1 [vv (.int .i32 1632)]) t148_8)
def t148_14 : N := .op (.bin .leq) [vn 0, vv (.int .i32 65305)] (.br (vn 5) (.fin 1 [vv (.int .i32 65296)]) (.fin 1 [vv (.int .i32 0)]))
def t148_17 : N := .op (.bin .geq) [vn 0, vv (.int .i32 65296)] (.br (vn 4) t148_14 (.fin 1 [vv (.int .i32 0)]))
def t148_19 : N := .op (.bin .geq) [vn 0, vv (.int .i32 1632)] (.br (vn 3) t148_10 t148_17)
def t148_21 : N := .op (.bin .leq) [vn 0, vv (.int .i32 57)] (.br (vn 2) (.fin 1 [vv (.int .i32 48)]) t148_19)
def t148_26 : N := .op (.bin .leq) [vn 0, vv (.int .i32 65305)] (.br (vn 5) (.fin 1 [vv (.int .i32 65296)]) (.fin 1 [vv (.int .i32 0)]))
def t148_29 : N := .op (.bin .geq) [vn 0, vv (.int .i32 65296)] (.br (vn 4) t148_26 (.fin 1 [vv (.int .i32 0)]))
def t148_31 : N := .op (.bin .leq) [vn 0, vv (.int .i32 1641)] (.br (vn 3) (.fin 1 [vv (.int .i32 1632)]) t148_29)
def t148_35 : N := .op (.bin .leq) [vn 0, vv (.int .i32 65305)] (.br (vn 4) (.fin 1 [vv (.int .i32 65296)]) (.fin 1 [vv (.int .i32 0)]))
def t148_38 : N := .op (.bin .geq) [vn 0, vv (.int .i32 65296)] (.br (vn 3) t148_35 (.fin 1 [vv (.int .i32 0)]))
def t148_40 : N := .op (.bin .geq) [vn 0, vv (.int .i32 1632)] (.br (vn 2) t148_31 t148_38)
def t148 : N := .op (.bin .geq) [vn 0, vv (.int .i32 48)] (.br (vn 1) t148_21 t148_40)
def t146_2 : N := .op (.bin .sub) [vn 0, vn 8] (.op (.conv .i64) [vn 12] (.fin 1 [vn 13, vn 8, vv (.bool true), vn 5]))
def t146_4 : N := .op (.bin .add) [vn 5, vv (.int .i64 1)] (.fin 0 [vn 2, vn 3, vn 4, vn 12])
def t146_7 : N := .op (.bin .add) [vn 8, vv (.int .i32 9)] (.op (.bin .leq) [vn 0, vn 10] (.br (vn 11) t146_2 t146_4))
def t146_9 : N := .op (.bin .add) [vn 5, vv (.int .i64 1)] (.fin 0 [vn 2, vn 3, vn 4, vn 10])
def t146_13 : N := .op (.idxA 1) [.sl (.n 1) 3, vn 5] (.op (.load none) [vn 7] (.op (.bin .geq) [vn 0, vn 8] (.br (vn 9) t146_7 t146_9)))
def t146_16 : N := .op (.bin .lss) [vn 5, vv (.int .i64 3)] (.br (vn 6) t146_13 (.fin 2 [vn 2, vn 3, vn 4, vn 5]))
def t146_18 : N := .op .tup [vn 3, vn 4, vn 5] (.fin 1 [vn 7])
def t146_20 : N := .op .tup [vv (.int .i64 0), vv (.int .i32 0), vv (.bool false)] (.fin 1 [vn 7])
def t146_22 : N := .sw 2 2 t146_20 .bad
def t146_23 : N := .sw 2 1 t146_18 t146_22
def t146 : N := .op (.newSl 21 [(.int .i32 0), (.int .i32 0), (.int .i32 0)] [(0, 1), (1, 1), (2, 1)]) [vv (.int .i32 48), vv (.int .i32 1632), vv (.int .i32 65296)] (.loop [vv (.int .i64 0), vv (.int .i32 0), vv (.bool false), vv (.int .i64 0)] t146_16 t146_23)
def t62_2 : N := .op (.bin .add) [vn 4, vv (.int .i64 1)] (.fin 0 [vn 3, vn 9])
def t62_6 : N := .op (.idxA 1) [vn 0, vn 4] (.op (.load none) [vn 6] (.op (.bin .eql) [vn 1, vn 7] (.br (vn 8) (.fin 1 [vn 4, vn 4]) t62_2)))
def t62_9 : N := .op (.bin .lss) [vn 4, vn 2] (.br (vn 5) t62_6 (.fin 2 [vn 3, vn 4]))
def t62_13 : N := .sw 3 2 (.fin 1 [vv (.int .i64 (-1))]) .bad
def t62_14 : N := .sw 3 1 (.fin 1 [vn 4]) t62_13
def t62 : N := .op .lenL [vn 0] (.loop [vv (.int .i64 0), vv (.int .i64 0)] t62_9 t62_14)
def t37 : N := .call 62 [vn 0, vn 1] (.op (.bin .geq) [vn 2, vv (.int .i64 0)] (.fin 1 [vn 3]))
def t105_3 : N := .op .lenS [vn 1] (.op (.subS false true) [vn 0, vn 5] (.op (.bin .eql) [vn 6, vn 1] (.fin 1 [vn 7])))
def t105 : N := .op .lenS [vn 0] (.op .lenS [vn 1] (.op (.bin .geq) [vn 2, vn 3] (.br (vn 4) t105_3 (.fin 1 [vv (.bool false)]))))
def t67 : N := .call 105 [vn 0, vn 1] (.fin 1 [vn 2])
def t96_9 : N := .op (.bin .add) [vn 12, vv (.int .i64 1)] (.fin 0 [vn 11, vn 31])
def t96_14 : N := .op (.idxA 4) [vn 1, vn 12] (.op (.fld 0) [vn 27] (.op (.load none) [vn 28] (.op (.bin .eql) [vn 29, vv (.int .i32 65533)] (.br (vn 30) (.fin 1 [vv (.bool false), vn 12]) t96_9))))
def t96_19 : N := .op (.idxA 4) [vn 1, vn 12] (.op (.fld 0) [vn 23] (.op (.load none) [vn 24] (.op (.bin .eql) [vn 25, vv (.int .i32 127)] (.br (vn 26) (.fin 1 [vv (.bool false), vn 12]) t96_14))))
def t96_24 : N := .op (.idxA 4) [vn 1, vn 12] (.op (.fld 0) [vn 19] (.op (.load none) [vn 20] (.op (.bin .lss) [vn 21, vv (.int .i32 32)] (.br (vn 22) (.fin 1 [vv (.bool false), vn 12]) t96_19))))
def t96_29 : N := .op (.idxA 4) [vn 1, vn 12] (.op (.fld 0) [vn 15] (.op (.load none) [vn 16] (.call 130 [vn 17] (.br (vn 18) (.fin 1 [vv (.bool false), vn 12]) t96_24))))
def t96_33 : N := .op .lenL [vn 1] (.op (.bin .lss) [vn 12, vn 13] (.br (vn 14) t96_29 (.fin 2 [vn 11, vn 12])))
def t96_40 : N := .call 128 [vn 1] (.op (.ext 0) [vn 14] (.op (.ext 1) [vn 14] (.op (.ext 2) [vn 14] (.op .not [vn 17] (.fin 1 [vn 18])))))
def t96_42 : N := .sw 11 2 t96_40 .bad
def t96_43 : N := .sw 11 1 (.fin 1 [vn 12]) t96_42
def t96_44 : N := .loop [vv (.bool false), vv (.int .i64 0)] t96_33 t96_43
def t96_46 : N := .op (.bin .eql) [vn 0, vv (bs [33])] (.br (vn 10) (.fin 1 [vv (.bool false)]) t96_44)
def t96_51 : N := .op (.idxA 4) [vn 1, vv (.int .i64 0)] (.op (.fld 0) [vn 6] (.op (.load none) [vn 7] (.op (.bin .eql) [vn 8, vv (.int .i32 34)] (.br (vn 9) (.fin 1 [vv (.bool false)]) t96_46))))
def t96_54 : N := .op .lenL [vn 1] (.op (.bin .gtr) [vn 4, vv (.int .i64 32)] (.br (vn 5) (.fin 1 [vv (.bool false)]) t96_51))
def t96 : N := .call 95 [vn 0] (.op .lenL [vn 1] (.op (.bin .lss) [vn 2, vv (.int .i64 1)] (.br (vn 3) (.fin 1 [vv (.bool false)]) t96_54)))
def t133_6 : N := .op (.bin .add) [vn 3, vv (.int .i64 1)] (.fin 0 [vn 2, vn 14])
def t133_8 : N := .op (.bin .eql) [vn 7, vv (.int .i32 34)] (.br (vn 13) (.fin 1 [vv (.bool false), vn 3]) t133_6)
def t133_10 : N := .op (.bin .add) [vn 3, vv (.int .i64 1)] (.fin 0 [vn 2, vn 13])
def t133_12 : N := .op (.bin .eql) [vn 6, vv (.int .i64 0)] (.br (vn 12) t133_8 t133_10)
def t133_14 : N := .op (.bin .eql) [vn 7, vv (.int .i32 127)] (.br (vn 11) (.fin 1 [vv (.bool false), vn 3]) t133_12)
def t133_16 : N := .op (.bin .lss) [vn 7, vv (.int .i32 32)] (.br (vn 10) (.fin 1 [vv (.bool false), vn 3]) t133_14)
def t133_18 : N := .call 157 [vn 7] (.br (vn 9) (.fin 1 [vv (.bool false), vn 3]) t133_16)
def t133_22 : N := .op (.ext 1) [vn 4] (.op (.ext 2) [vn 4] (.op (.bin .eql) [vn 7, vv (.int .i32 65533)] (.br (vn 8) (.fin 1 [vv (.bool false), vn 3]) t133_18)))
def t133_26 : N := .op (.next true) [vn 1] (.op (.ext 0) [vn 4] (.br (vn 5) t133_22 (.fin 2 [vn 2, vn 3])))
def t133_29 : N := .op .not [vn 7] (.fin 1 [vn 12])
def t133_32 : N := .op (.bin .neq) [vn 0, vv (bs [33])] (.br (vn 11) t133_29 (.fin 1 [vv (.bool false)]))
def t133_35 : N := .op (.bin .leq) [vn 4, vv (.int .i64 32)] (.br (vn 10) t133_32 (.fin 1 [vv (.bool false)]))
def t133_42 : N := .call 124 [vn 0] (.op (.ext 0) [vn 5] (.op (.ext 1) [vn 5] (.op (.ext 2) [vn 5] (.op (.bin .geq) [vn 4, vv (.int .i64 1)] (.br (vn 9) t133_35 (.fin 1 [vv (.bool false)]))))))
def t133_44 : N := .sw 2 2 t133_42 .bad
def t133_45 : N := .sw 2 1 (.fin 1 [vn 3]) t133_44
def t133 : N := .op (.range true) [vn 0] (.loop [vv (.bool false), vv (.int .i64 0)] t133_26 t133_45)
end Go.AM.PV
namespace Go.AM.PV
open Go Go.AM Go.AM.SX
variable (inf : Nat → TypeInfo)
def t95_4 : N := .op (.bin .add) [vn 5, vv (.int .i64 1)] (.op (.build [(.int .i32 0), (.int .i64 0), (.int .i64 0), (.bool false)] [(0, 1), (1, 1), (2, 1), (3, 1)]) [vn 6, vn 5, vn 13, vv (.bool true)] (.op (.newSl 151 [(.int .i32 0), (.int .i64 0), (.int .i64 0), (.bool false)] [(0, 4)]) [vn 14] (.op (.app 151 (inf 151) (.agg #[(.int .i32 0), (.int .i64 0), (.int .i64 0), (.bool false)])) [vn 2, .sl (.n 15) 1] (.fin 0 [vn 16]))))
def t95_9 : N := .op (.bin .add) [vn 5, vv (.int .i64 1)] (.op (.build [(.int .i32 0), (.int .i64 0), (.int .i64 0), (.bool false)] [(0, 1), (1, 1), (2, 1), (3, 1)]) [vn 6, vn 5, vn 15, vv (.bool true)] (.op (.newSl 151 [(.int .i32 0), (.int .i64 0), (.int .i64 0), (.bool false)] [(0, 4)]) [vn 16] (.op (.app 151 (inf 151) (.agg #[(.int .i32 0), (.int .i64 0), (.int .i64 0), (.bool false)])) [vn 2, .sl (.n 17) 1] (.fin 0 [vn 18]))))
def t95_13 : N := .op (.build [(.int .i32 0), (.int .i64 0), (.int .i64 0), (.bool false)] [(0, 1), (1, 1), (2, 1), (3, 1)]) [vn 6, vn 5, vn 9, vv (.bool false)] (.op (.newSl 151 [(.int .i32 0), (.int .i64 0), (.int .i64 0), (.bool false)] [(0, 4)]) [vn 15] (.op (.app 151 (inf 151) (.agg #[(.int .i32 0), (.int .i64 0), (.int .i64 0), (.bool false)])) [vn 2, .sl (.n 16) 1] (.fin 0 [vn 17])))
def t95_16 : N := .op (.subS true true) [vn 0, vn 5, vn 9] (.op (.bin .neq) [vn 13, vv (bs [239, 191, 189])] (.br (vn 14) (t95_9 inf) (t95_13 inf)))
def t95_19 : N := .op .lenS [vn 0] (.op (.bin .gtr) [vn 9, vn 11] (.br (vn 12) (t95_4 inf) (t95_16 inf)))
def t95_23 : N := .op (.build [(.int .i32 0), (.int .i64 0), (.int .i64 0), (.bool false)] [(0, 1), (1, 1), (2, 1), (3, 1)]) [vn 6, vn 5, vn 9, vv (.bool false)] (.op (.newSl 151 [(.int .i32 0), (.int .i64 0), (.int .i64 0), (.bool false)] [(0, 4)]) [vn 11] (.op (.app 151 (inf 151) (.agg #[(.int .i32 0), (.int .i64 0), (.int .i64 0), (.bool false)])) [vn 2, .sl (.n 12) 1] (.fin 0 [vn 13])))
def t95_30 : N := .op (.ext 1) [vn 3] (.op (.ext 2) [vn 3] (.op .runeStr [vn 6] (.op .lenS [vn 7] (.op (.bin .add) [vn 5, vn 8] (.op (.bin .eql) [vn 6, vv (.int .i32 65533)] (.br (vn 10) (t95_19 inf) (t95_23 inf)))))))
def t95_34 : N := .op (.next true) [vn 1] (.op (.ext 0) [vn 3] (.br (vn 4) (t95_30 inf) (.fin 2 [vn 2])))
def t95_37 : N := .sw 2 2 (.fin 1 [vn 3]) .bad
def t95 : N := .op (.range true) [vn 0] (.loop [vv (.slice none 0 0)] (t95_34 inf) t95_37)
def t56_3 : N := .op (.idxA 4) [vn 1, vn 3] (.op (.fld 1) [vn 9] (.op (.load none) [vn 10] (.fin 1 [vn 11, vn 3])))
def t56_5 : N := .op (.bin .add) [vn 3, vv (.int .i64 1)] (.fin 0 [vn 2, vn 9])
def t56_9 : N := .op (.idxA 4) [vn 1, vn 3] (.op (.fld 3) [vn 6] (.op (.load none) [vn 7] (.br (vn 8) t56_3 t56_5)))
def t56_13 : N := .op .lenL [vn 1] (.op (.bin .lss) [vn 3, vn 4] (.br (vn 5) t56_9 (.fin 2 [vn 2, vn 3])))
def t56_17 : N := .sw 2 2 (.fin 1 [vv (.int .i64 (-1))]) .bad
def t56_18 : N := .sw 2 1 (.fin 1 [vn 3]) t56_17
def t56 : N := .call 95 [vn 0] (.loop [vv (.int .i64 0), vv (.int .i64 0)] t56_13 t56_18)
end Go.AM.PV
namespace Go.AM.PV
open Go Go.AM Go.AM.SX

/-- A tree of the reference. -/
inductive V where
 | mk (k n : Int) (s : ByteArray) (l : List V)
mutual
/-- A value of the program. -/
inductive Val where
 | nil
 | int (n : Int)
 | str (s : ByteArray)
 | bool (b : Bool)
 | list (l : List Val)
 | quot (l : List Itm)
 | box (n : Int)
inductive Itm where
 | nil
 | push (v : Val)
 | call (s : ByteArray)
end
mutual
def V.sz : V → Nat
 | .mk _ _ s l => s.size + V.szs l + 1
def V.szs : List V → Nat
 | [] => 0
 | v :: l => v.sz + V.szs l
end
mutual
def V.val : V → Val
 | .mk k n s l => if k = 1 then .int n else if k = 2 then .str s else if k = 3 then .bool (n != 0) else if k = 4 then .list (V.vals l) else if k = 5 then .quot (V.itms l) else if k = 6 then .box n else .nil
def V.vals : List V → List Val
 | [] => []
 | v :: l => v.val :: V.vals l
def V.itm : V → Itm
 | .mk k n s l => if k = 7 then .call s else if k < 1 then .nil else if k > 6 then .nil else
  .push (if k = 1 then .int n else if k = 2 then .str s else if k = 3 then .bool (n != 0) else if k = 4 then .list (V.vals l) else if k = 5 then .quot (V.itms l) else if k = 6 then .box n else .nil)
def V.itms : List V → List Itm
 | [] => []
 | v :: l => v.itm :: V.itms l
end
theorem V.itm_eq (v : V) : v.itm = match v with | .mk k _ s _ => if k = 7 then .call s else if k < 1 then .nil else if k > 6 then .nil else .push v.val := by
 cases v; simp only [V.itm, V.val]
mutual
def Val.tree : Val → V
 | .nil => .mk 8 0 ⟨#[]⟩ []
 | .int n => .mk 1 n ⟨#[]⟩ []
 | .str s => .mk 2 0 s []
 | .bool b => .mk 3 (if b then 1 else 0) ⟨#[]⟩ []
 | .list l => .mk 4 0 ⟨#[]⟩ (Val.trees l)
 | .quot l => .mk 5 0 ⟨#[]⟩ (Itm.trees l)
 | .box n => .mk 6 n ⟨#[]⟩ []
def Val.trees : List Val → List V
 | [] => []
 | v :: l => v.tree :: Val.trees l
def Itm.tree : Itm → V
 | .nil => .mk 8 0 ⟨#[]⟩ []
 | .push v => v.tree
 | .call s => .mk 7 0 s []
def Itm.trees : List Itm → List V
 | [] => []
 | v :: l => v.tree :: Itm.trees l
end

/-! ### In values without memory -/
abbrev I (n : Int) : P := .c (.int .i64 n)
abbrev Bo (b : Bool) : P := .c (.bool b)
abbrev St (s : ByteArray) : P := .c (.string s)
mutual
/-- The cells of a tree. -/
def V.p : V → List P
 | .mk k n s l => [I k, I n, St s, .sl 4 l.length (V.ps l)]
def V.ps : List V → List P
 | [] => []
 | v :: l => v.p ++ V.ps l
end
abbrev tInt : Nat := 45
abbrev tStr : Nat := 72
abbrev tBool : Nat := 49
abbrev tList : Nat := 52
abbrev tQuot : Nat := 76
abbrev tBox : Nat := 78
abbrev tPush : Nat := 134
abbrev tCall : Nat := 153
abbrev tVal : Nat := 41
abbrev tItm : Nat := 100
abbrev tV : Nat := 35
mutual
def Val.p : Val → P
 | .nil => .c .nilIface
 | .int n => .ifc tInt (.agg [I n])
 | .str s => .ifc tStr (.agg [St s])
 | .bool b => .ifc tBool (.agg [Bo b])
 | .list l => .ifc tList (.agg [.sl 1 l.length (Val.ps l)])
 | .quot l => .ifc tQuot (.agg [.sl 1 l.length (Itm.ps l)])
 | .box n => .ifc tBox (.agg [I n])
def Val.ps : List Val → List P
 | [] => []
 | v :: l => v.p :: Val.ps l
def Itm.p : Itm → P
 | .nil => .c .nilIface
 | .push v => .ifc tPush (.agg [v.p])
 | .call s => .ifc tCall (.agg [St s])
def Itm.ps : List Itm → List P
 | [] => []
 | v :: l => v.p :: Itm.ps l
end
theorem V.p_length (v : V) : v.p.length = 4 := by cases v; rfl
theorem V.ps_length : ∀ l : List V, (V.ps l).length = l.length * 4
 | [] => rfl
 | v :: l => by simp only [V.ps, List.length_append, V.p_length, V.ps_length l, List.length_cons]; omega
theorem V.ps_at : ∀ (l : List V) (i : Nat) (v : V), l[i]? = some v → ((V.ps l).drop (i * 4)).take 4 = v.p
 | [], i, v, h => by simp at h
 | w :: l, 0, v, h => by
  simp only [List.getElem?_cons_zero, Option.some.injEq] at h
  subst h
  simp only [V.ps, Nat.zero_mul, List.drop_zero]
  rw [List.take_append_of_le_length (by rw [V.p_length]; exact Nat.le_refl 4), List.take_of_length_le (by rw [V.p_length]; exact Nat.le_refl 4)]
 | w :: l, i + 1, v, h => by
  simp only [List.getElem?_cons_succ] at h
  simp only [V.ps]
  rw [List.drop_append, List.drop_of_length_le (by rw [V.p_length]; omega), List.nil_append, V.p_length, show (i + 1) * 4 - 4 = i * 4 by omega]
  exact V.ps_at l i v h
theorem V.ps_append : ∀ (l m : List V), V.ps (l ++ m) = V.ps l ++ V.ps m
 | [], _ => rfl
 | v :: l, m => by simp only [V.ps, List.cons_append, V.ps_append l m, List.append_assoc]
theorem Val.ps_map : ∀ l : List Val, Val.ps l = l.map Val.p
 | [] => rfl
 | v :: l => by simp only [Val.ps, List.map_cons, Val.ps_map l]
theorem Itm.ps_map : ∀ l : List Itm, Itm.ps l = l.map Itm.p
 | [] => rfl
 | v :: l => by simp only [Itm.ps, List.map_cons, Itm.ps_map l]
theorem V.vals_map : ∀ l : List V, V.vals l = l.map V.val
 | [] => rfl
 | v :: l => by simp only [V.vals, List.map_cons, V.vals_map l]
theorem V.itms_map : ∀ l : List V, V.itms l = l.map V.itm
 | [] => rfl
 | v :: l => by simp only [V.itms, List.map_cons, V.itms_map l]
theorem Val.trees_map : ∀ l : List Val, Val.trees l = l.map Val.tree
 | [] => rfl
 | v :: l => by simp only [Val.trees, List.map_cons, Val.trees_map l]
theorem Itm.trees_map : ∀ l : List Itm, Itm.trees l = l.map Itm.tree
 | [] => rfl
 | v :: l => by simp only [Itm.trees, List.map_cons, Itm.trees_map l]
mutual
theorem okm_val : ∀ v : Val, okm 0 v.p = true
 | .nil => rfl
 | .int n => rfl
 | .str s => rfl
 | .bool b => rfl
 | .box n => rfl
 | .list l => by simp only [Val.p, okm, okm.okL, okL_vals l, Bool.and_self]
 | .quot l => by simp only [Val.p, okm, okm.okL, okL_itms l, Bool.and_self]
theorem okL_vals : ∀ l : List Val, okm.okL 0 (Val.ps l) = true
 | [] => rfl
 | v :: l => by simp only [Val.ps, okm.okL, okm_val v, okL_vals l, Bool.and_self]
theorem okm_itm : ∀ v : Itm, okm 0 v.p = true
 | .nil => rfl
 | .push v => by simp only [Itm.p, okm, okm.okL, okm_val v, Bool.and_self]
 | .call s => rfl
theorem okL_itms : ∀ l : List Itm, okm.okL 0 (Itm.ps l) = true
 | [] => rfl
 | v :: l => by simp only [Itm.ps, okm.okL, okm_itm v, okL_itms l, Bool.and_self]
end
theorem okL_append (i : Nat) : ∀ l m : List P, okm.okL i (l ++ m) = (okm.okL i l && okm.okL i m)
 | [], m => by simp [okm.okL]
 | p :: l, m => by simp only [List.cons_append, okm.okL, okL_append i l m, Bool.and_assoc]
mutual
theorem okL_v : ∀ v : V, okm.okL 0 v.p = true
 | .mk k n s l => by simp only [V.p, okm, okm.okL, okL_vs l, Bool.and_self]
theorem okL_vs : ∀ l : List V, okm.okL 0 (V.ps l) = true
 | [] => rfl
 | v :: l => by simp only [V.ps, okL_append, okL_v v, okL_vs l, Bool.and_self]
end
theorem pc_val (v : Val) : pcells v.p = [v.p] := by cases v <;> rfl
theorem pc_itm (v : Itm) : pcells v.p = [v.p] := by cases v <;> rfl
theorem one_val (v : Val) : oneP v.p = true := by cases v <;> rfl
theorem one_itm (v : Itm) : oneP v.p = true := by cases v <;> rfl
theorem fz_val (v : Val) : fz v.p = v.p := by cases v <;> rfl
theorem fz_itm (v : Itm) : fz v.p = v.p := by cases v <;> rfl
theorem z_litV {E : Env} {gl : List GRow} {k : N} {m : Nat} {rv : Rv} {d : Bool} {hs : List Nat} {ps : List P} {μ : Mu} {Q : PPost} {xs : List X} {t : TypeId} {v : V} {z : List Value} (h : denF ps xs = some [.agg v.p]) (hz : z.length = 4) (hk : pz E gl k m rv d hs (ps ++ [.lit v.p]) μ Q) : pz E gl (.op (.newSl t z [(0, 4)]) xs k) m rv d hs ps μ Q := by
 refine ⟨_, .lit v.p, μ, h, ?_, hk⟩
 obtain ⟨k, n, s, l⟩ := v
 match z, hz with
 | [a, b, c, d], _ => rfl
end Go.AM.PV
namespace Go.AM.PV
open Go Go.AM Go.AM.SX
attribute [local irreducible] pz LoopP
section
variable {E : Env} {gl : List GRow} {cfg : Cfg} {fuel : Nat}
theorem value_ok (hE : SxEnv E) (h19 : sxFn E cfg fuel 19 1 = some t19) {k n : Int} {s : ByteArray} {l : List V}
  (h12 : k = 4 → ∀ μ, PR E gl 12 [.sl 4 l.length (V.ps l)] μ (.ow tVal 1 (V.vals l).length (Val.ps (V.vals l))) μ)
  (h34 : k = 5 → ∀ μ, PR E gl 34 [.sl 4 l.length (V.ps l)] μ (.ow tItm 1 (V.itms l).length (Itm.ps (V.itms l))) μ) :
  PR E gl 19 [.agg (V.p (.mk k n s l))] [] (V.val (.mk k n s l)).p [] := by
 refine fnZ hE (cfg := cfg) (fuel := fuel) h19 (by kernel_rfl) ?_
 unfold t19
 dsimp only [V.p]
 try refine z_run ?_
 refine z_br rfl (fun hk => ?_) (fun h1 => ?_)
 ·obtain rfl : k = 1 := by simpa using hk
  try refine z_run ?_
  exact z_finD 0 rfl (Nat.le_refl _) rfl rfl ⟨rfl, rfl⟩
 try refine z_run ?_
 refine z_br rfl (fun hk => ?_) (fun h2 => ?_)
 ·obtain rfl : k = 2 := by simpa using hk
  try refine z_run ?_
  exact z_finD 0 rfl (Nat.le_refl _) rfl rfl ⟨rfl, rfl⟩
 try refine z_run ?_
 refine z_br rfl (fun hk => ?_) (fun h3 => ?_)
 ·obtain rfl : k = 3 := by simpa using hk
  try refine z_run ?_
  exact z_finD 0 rfl (Nat.le_refl _) rfl rfl ⟨rfl, rfl⟩
 try refine z_run ?_
 refine z_br rfl (fun hk => ?_) (fun h4 => ?_)
 ·obtain rfl : k = 4 := by simpa using hk
  replace h12 := h12 rfl
  clear h34
  try refine z_run ?_
  exact z_finD 0 rfl (Nat.le_refl _) (by try dsimp only [go_sem]; simp only [okm.okL, okm, okL_vals, Bool.and_self]) rfl ⟨rfl, rfl⟩
 try refine z_run ?_
 refine z_br rfl (fun hk => ?_) (fun h5 => ?_)
 ·obtain rfl : k = 5 := by simpa using hk
  replace h34 := h34 rfl
  clear h12
  try refine z_run ?_
  exact z_finD 0 rfl (Nat.le_refl _) (by try dsimp only [go_sem]; simp only [okm.okL, okm, okL_itms, Bool.and_self]) rfl ⟨rfl, rfl⟩
 try refine z_run ?_
 refine z_br rfl (fun hk => ?_) (fun h6 => ?_)
 ·obtain rfl : k = 6 := by simpa using hk
  try refine z_run ?_
  exact z_finD 0 rfl (Nat.le_refl _) rfl rfl ⟨rfl, rfl⟩
 simp only [decide_eq_false_iff_not] at h1 h2 h3 h4 h5 h6
 refine z_finD 0 rfl (Nat.le_refl _) rfl rfl ⟨?_, rfl⟩
 simp only [V.val, if_neg h1, if_neg h2, if_neg h3, if_neg h4, if_neg h5, if_neg h6]
 rfl
theorem values_ok (hE : SxEnv E) {inf : Nat → TypeInfo} (h12 : sxFn E cfg fuel 12 1 = some (t12 inf)) (hi1 : (inf 41).size = 1) (hi2 : (inf 41).bytes = 16) {l : List V} (hlen : l.length ≤ 1048576)
  (h19 : ∀ v, v ∈ l → PR E gl 19 [.agg v.p] [] v.val.p []) : PR E gl 12 [.sl 4 l.length (V.ps l)] [] (.ow tVal 1 (V.vals l).length (Val.ps (V.vals l))) [] := by
 refine fnZ hE (cfg := cfg) (fuel := fuel) h12 (by kernel_rfl) ?_
 unfold t12
 refine z_loop (fun κ vs ν => ν = [] ∧ ∃ i, κ = l.length - i ∧ i ≤ l.length ∧ vs = [.ow tVal 1 i (Val.ps (V.vals (l.take i))), .c (.int .i64 i)]) rfl l.length
  [.ow tVal 1 0 [], .c (.int .i64 (0 : Nat))] (.cons _ _ _ _ (.nilow _ _) (.cons _ _ _ _ (.refl _) .nil)) ⟨rfl, 0, by omega, by omega, rfl⟩ ?_
 rintro κ vs ν ⟨rfl, i, rfl, hi, rfl⟩
 try dsimp only [go_sem]
 try refine z_run ?_
 refine z_br rfl (fun hlt => ?_) (fun hge => ?_)
 ·have hlt : i < l.length := by have := of_decide_eq_true hlt; omega
  obtain ⟨v, hv⟩ : ∃ v, l[i]? = some v := ⟨l[i], List.getElem?_eq_getElem hlt⟩
  refine zn_idx rfl hlt ?_
  try dsimp only [go_sem]
  refine zn_ldn rfl (by rw [V.ps_length]; omega) ?_
  rw [V.ps_at l i v hv]
  try dsimp only [go_sem]
  refine z_call rfl (h19 v (List.mem_of_getElem? hv)) (Nat.le_refl _) ?_
  try dsimp only [go_sem]
  refine z_lit1 rfl (fz_val _) (pc_val _) (one_val _) ?_
  try dsimp only [go_sem]
  refine z_app1 rfl rfl rfl hi1 rfl rfl rfl rfl (by rw [hi2]; omega) (by omega) ?_
  try dsimp only [go_sem]
  refine z_inc rfl (by omega) ?_
  try dsimp only [go_sem]
  refine z_fin rfl ?_
  try dsimp only [go_sem]
  refine ⟨l.length - (i + 1), by omega, rfl, i + 1, rfl, by omega, ?_⟩
  rw [take_snoc hv, V.vals_map, V.vals_map, Val.ps_map, Val.ps_map]
  simp only [List.map_append, List.map_cons, List.map_nil]
 ·have hge : i = l.length := by have := of_decide_eq_false hge; omega
  subst hge
  refine z_fin rfl ?_
  try dsimp only [go_sem]
  try refine z_run ?_
  refine z_fin rfl ⟨?_, rfl⟩
  rw [List.take_length]
  have : (V.vals l).length = l.length := by rw [V.vals_map, List.length_map]
  rw [this]
  rfl
theorem items_ok (hE : SxEnv E) {inf : Nat → TypeInfo} (h34 : sxFn E cfg fuel 34 1 = some (t34 inf)) (hi1 : (inf 100).size = 1) (hi2 : (inf 100).bytes = 16) {l : List V} (hlen : l.length ≤ 1048576)
  (h58 : ∀ v, v ∈ l → PR E gl 58 [.agg v.p] [] v.itm.p []) : PR E gl 34 [.sl 4 l.length (V.ps l)] [] (.ow tItm 1 (V.itms l).length (Itm.ps (V.itms l))) [] := by
 refine fnZ hE (cfg := cfg) (fuel := fuel) h34 (by kernel_rfl) ?_
 unfold t34
 refine z_loop (fun κ vs ν => ν = [] ∧ ∃ i, κ = l.length - i ∧ i ≤ l.length ∧ vs = [.ow tItm 1 i (Itm.ps (V.itms (l.take i))), .c (.int .i64 i)]) rfl l.length
  [.ow tItm 1 0 [], .c (.int .i64 (0 : Nat))] (.cons _ _ _ _ (.nilow _ _) (.cons _ _ _ _ (.refl _) .nil)) ⟨rfl, 0, by omega, by omega, rfl⟩ ?_
 rintro κ vs ν ⟨rfl, i, rfl, hi, rfl⟩
 try dsimp only [go_sem]
 try refine z_run ?_
 refine z_br rfl (fun hlt => ?_) (fun hge => ?_)
 ·have hlt : i < l.length := by have := of_decide_eq_true hlt; omega
  obtain ⟨v, hv⟩ : ∃ v, l[i]? = some v := ⟨l[i], List.getElem?_eq_getElem hlt⟩
  refine zn_idx rfl hlt ?_
  try dsimp only [go_sem]
  refine zn_ldn rfl (by rw [V.ps_length]; omega) ?_
  rw [V.ps_at l i v hv]
  try dsimp only [go_sem]
  refine z_call rfl (h58 v (List.mem_of_getElem? hv)) (Nat.le_refl _) ?_
  try dsimp only [go_sem]
  refine z_lit1 rfl (fz_itm _) (pc_itm _) (one_itm _) ?_
  try dsimp only [go_sem]
  refine z_app1 rfl rfl rfl hi1 rfl rfl rfl rfl (by rw [hi2]; omega) (by omega) ?_
  try dsimp only [go_sem]
  refine z_inc rfl (by omega) ?_
  try dsimp only [go_sem]
  refine z_fin rfl ?_
  try dsimp only [go_sem]
  refine ⟨l.length - (i + 1), by omega, rfl, i + 1, rfl, by omega, ?_⟩
  rw [take_snoc hv, V.itms_map, V.itms_map, Itm.ps_map, Itm.ps_map]
  simp only [List.map_append, List.map_cons, List.map_nil]
 ·have hge : i = l.length := by have := of_decide_eq_false hge; omega
  subst hge
  refine z_fin rfl ?_
  try dsimp only [go_sem]
  try refine z_run ?_
  refine z_fin rfl ⟨?_, rfl⟩
  rw [List.take_length]
  have : (V.itms l).length = l.length := by rw [V.itms_map, List.length_map]
  rw [this]
  rfl
theorem itemOf_ok (hE : SxEnv E) (h58 : sxFn E cfg fuel 58 1 = some t58) {v : V} (h19 : PR E gl 19 [.agg v.p] [] v.val.p []) : PR E gl 58 [.agg v.p] [] v.itm.p [] := by
 obtain ⟨k, n, s, l⟩ := v
 rw [V.itm_eq]
 refine fnZ hE (cfg := cfg) (fuel := fuel) h58 (by kernel_rfl) ?_
 unfold t58
 dsimp only [V.p] at h19 ⊢
 try refine z_run ?_
 refine z_br rfl (fun hk => ?_) (fun h7 => ?_)
 ·obtain rfl : k = 7 := by simpa using hk
  try refine z_run ?_
  exact z_finD 0 rfl (Nat.le_refl _) rfl rfl ⟨rfl, rfl⟩
 have h7 : k ≠ 7 := by simpa using h7
 try refine z_run ?_
 refine z_br rfl (fun hk => ?_) (fun h1 => ?_)
 ·have hk : k < 1 := of_decide_eq_true hk
  refine z_finD 0 rfl (Nat.le_refl _) rfl rfl ⟨?_, rfl⟩
  simp only [if_neg h7, if_pos hk]
  rfl
 have h1 : ¬ k < 1 := of_decide_eq_false h1
 try refine z_run ?_
 refine z_br rfl (fun hk => ?_) (fun h6 => ?_)
 ·have hk : k > 6 := of_decide_eq_true hk
  refine z_finD 0 rfl (Nat.le_refl _) rfl rfl ⟨?_, rfl⟩
  simp only [if_neg h7, if_neg h1, if_pos hk]
  rfl
 have h6 : ¬ k > 6 := of_decide_eq_false h6
 try refine z_run ?_
 refine z_call rfl (h19.frame ?_ _) (Nat.le_refl _) ?_
 ·simp only [okm.okL, okm, okL_vs, Bool.and_self]
 try dsimp only [go_sem]
 refine z_bld1 rfl (fz_val _) (pc_val _) ?_
 try dsimp only [go_sem]
 refine z_finD 0 rfl (Nat.le_refl _) ?_ rfl ⟨?_, rfl⟩
 ·try dsimp only [go_sem]
  simp only [okm.okL, okm, okm_val, Bool.and_self]
 ·simp only [if_neg h7, if_neg h1, if_neg h6]
  rfl
theorem trees_ok (hE : SxEnv E) {inf : Nat → TypeInfo} (h11 : sxFn E cfg fuel 11 1 = some (t11 inf)) (hi1 : (inf 35).size = 4) (hi2 : (inf 35).bytes = 56) {l : List Val} (hlen : l.length ≤ 1048576)
  (h20 : ∀ v, v ∈ l → PR E gl 20 [v.p] [] (.agg v.tree.p) []) : PR E gl 11 [.sl 1 l.length (Val.ps l)] [] (.ow tV 4 (Val.trees l).length (V.ps (Val.trees l))) [] := by
 refine fnZ hE (cfg := cfg) (fuel := fuel) h11 (by kernel_rfl) ?_
 unfold t11
 refine z_loop (fun κ vs ν => ν = [] ∧ ∃ i, κ = l.length - i ∧ i ≤ l.length ∧ vs = [.ow tV 4 i (V.ps (Val.trees (l.take i))), .c (.int .i64 i)]) rfl l.length
  [.ow tV 4 0 [], .c (.int .i64 (0 : Nat))] (.cons _ _ _ _ (.nilow _ _) (.cons _ _ _ _ (.refl _) .nil)) ⟨rfl, 0, by omega, by omega, rfl⟩ ?_
 rintro κ vs ν ⟨rfl, i, rfl, hi, rfl⟩
 try dsimp only [go_sem]
 try refine z_run ?_
 refine z_br rfl (fun hlt => ?_) (fun hge => ?_)
 ·have hlt : i < l.length := by have := of_decide_eq_true hlt; omega
  obtain ⟨v, hv⟩ : ∃ v, l[i]? = some v := ⟨l[i], List.getElem?_eq_getElem hlt⟩
  refine zn_idx rfl hlt ?_
  try dsimp only [go_sem]
  refine zn_ld1 rfl (p := v.p) (by rw [Val.ps_map, Nat.mul_one, List.getElem?_map, hv]; rfl) ?_
  try dsimp only [go_sem]
  refine z_call (as := [v.p]) (by show some [fz v.p] = some [v.p]; rw [fz_val]) (h20 v (List.mem_of_getElem? hv)) (Nat.le_refl _) ?_
  try dsimp only [go_sem]
  refine z_litV rfl rfl ?_
  try dsimp only [go_sem]
  refine z_app1 rfl rfl rfl hi1 rfl (V.p_length _) rfl rfl (by rw [hi2]; omega) (by omega) ?_
  try dsimp only [go_sem]
  refine z_inc rfl (by omega) ?_
  try dsimp only [go_sem]
  refine z_fin rfl ?_
  try dsimp only [go_sem]
  refine ⟨l.length - (i + 1), by omega, rfl, i + 1, rfl, by omega, ?_⟩
  rw [take_snoc hv, Val.trees_map, Val.trees_map, List.map_append, V.ps_append]
  simp only [List.map_cons, List.map_nil, V.ps, List.append_nil]
 ·have hge : i = l.length := by have := of_decide_eq_false hge; omega
  subst hge
  refine z_fin rfl ?_
  try dsimp only [go_sem]
  try refine z_run ?_
  refine z_fin rfl ⟨?_, rfl⟩
  rw [List.take_length]
  have : (Val.trees l).length = l.length := by rw [Val.trees_map, List.length_map]
  rw [this]
  rfl
theorem itemTrees_ok (hE : SxEnv E) {inf : Nat → TypeInfo} (h35 : sxFn E cfg fuel 35 1 = some (t35 inf)) (hi1 : (inf 35).size = 4) (hi2 : (inf 35).bytes = 56) {l : List Itm} (hlen : l.length ≤ 1048576)
  (h59 : ∀ v, v ∈ l → PR E gl 59 [v.p] [] (.agg v.tree.p) []) : PR E gl 35 [.sl 1 l.length (Itm.ps l)] [] (.ow tV 4 (Itm.trees l).length (V.ps (Itm.trees l))) [] := by
 refine fnZ hE (cfg := cfg) (fuel := fuel) h35 (by kernel_rfl) ?_
 unfold t35
 refine z_loop (fun κ vs ν => ν = [] ∧ ∃ i, κ = l.length - i ∧ i ≤ l.length ∧ vs = [.ow tV 4 i (V.ps (Itm.trees (l.take i))), .c (.int .i64 i)]) rfl l.length
  [.ow tV 4 0 [], .c (.int .i64 (0 : Nat))] (.cons _ _ _ _ (.nilow _ _) (.cons _ _ _ _ (.refl _) .nil)) ⟨rfl, 0, by omega, by omega, rfl⟩ ?_
 rintro κ vs ν ⟨rfl, i, rfl, hi, rfl⟩
 try dsimp only [go_sem]
 try refine z_run ?_
 refine z_br rfl (fun hlt => ?_) (fun hge => ?_)
 ·have hlt : i < l.length := by have := of_decide_eq_true hlt; omega
  obtain ⟨v, hv⟩ : ∃ v, l[i]? = some v := ⟨l[i], List.getElem?_eq_getElem hlt⟩
  refine zn_idx rfl hlt ?_
  try dsimp only [go_sem]
  refine zn_ld1 rfl (p := v.p) (by rw [Itm.ps_map, Nat.mul_one, List.getElem?_map, hv]; rfl) ?_
  try dsimp only [go_sem]
  refine z_call (as := [v.p]) (by show some [fz v.p] = some [v.p]; rw [fz_itm]) (h59 v (List.mem_of_getElem? hv)) (Nat.le_refl _) ?_
  try dsimp only [go_sem]
  refine z_litV rfl rfl ?_
  try dsimp only [go_sem]
  refine z_app1 rfl rfl rfl hi1 rfl (V.p_length _) rfl rfl (by rw [hi2]; omega) (by omega) ?_
  try dsimp only [go_sem]
  refine z_inc rfl (by omega) ?_
  try dsimp only [go_sem]
  refine z_fin rfl ?_
  try dsimp only [go_sem]
  refine ⟨l.length - (i + 1), by omega, rfl, i + 1, rfl, by omega, ?_⟩
  rw [take_snoc hv, Itm.trees_map, Itm.trees_map, List.map_append, V.ps_append]
  simp only [List.map_cons, List.map_nil, V.ps, List.append_nil]
 ·have hge : i = l.length := by have := of_decide_eq_false hge; omega
  subst hge
  refine z_fin rfl ?_
  try dsimp only [go_sem]
  try refine z_run ?_
  refine z_fin rfl ⟨?_, rfl⟩
  rw [List.take_length]
  have : (Itm.trees l).length = l.length := by rw [Itm.trees_map, List.length_map]
  rw [this]
  rfl
theorem tree_ok (hE : SxEnv E) (h20 : sxFn E cfg fuel 20 1 = some t20) {v : Val}
  (h11 : ∀ l, v = .list l → PR E gl 11 [.sl 1 l.length (Val.ps l)] [] (.ow tV 4 (Val.trees l).length (V.ps (Val.trees l))) [])
  (h35 : ∀ l, v = .quot l → PR E gl 35 [.sl 1 l.length (Itm.ps l)] [] (.ow tV 4 (Itm.trees l).length (V.ps (Itm.trees l))) []) :
  PR E gl 20 [v.p] [] (.agg v.tree.p) [] := by
 refine fnZ hE (cfg := cfg) (fuel := fuel) h20 (by kernel_rfl) ?_
 unfold t20
 cases v with
 | nil =>
  dsimp only [Val.p]
  try refine z_run ?_
  exact z_finW 0 rfl (LeL.one (.agg _ _ (.cons _ _ _ _ (.refl _) (.cons _ _ _ _ (.refl _) (.cons _ _ _ _ (.refl _) (.cons _ _ _ _ (.nil 4) .nil)))))) (Nat.le_refl _) rfl rfl ⟨rfl, rfl⟩
 | int n =>
  dsimp only [Val.p]
  try refine z_run ?_
  exact z_finW 0 rfl (LeL.one (.agg _ _ (.cons _ _ _ _ (.refl _) (.cons _ _ _ _ (.refl _) (.cons _ _ _ _ (.refl _) (.cons _ _ _ _ (.nil 4) .nil)))))) (Nat.le_refl _) rfl rfl ⟨rfl, rfl⟩
 | str s =>
  dsimp only [Val.p]
  try refine z_run ?_
  exact z_finW 0 rfl (LeL.one (.agg _ _ (.cons _ _ _ _ (.refl _) (.cons _ _ _ _ (.refl _) (.cons _ _ _ _ (.refl _) (.cons _ _ _ _ (.nil 4) .nil)))))) (Nat.le_refl _) rfl rfl ⟨rfl, rfl⟩
 | bool b =>
  dsimp only [Val.p]
  try refine z_run ?_
  cases b <;> (
   try refine z_run ?_
   exact z_finW 0 rfl (LeL.one (.agg _ _ (.cons _ _ _ _ (.refl _) (.cons _ _ _ _ (.refl _) (.cons _ _ _ _ (.refl _) (.cons _ _ _ _ (.nil 4) .nil)))))) (Nat.le_refl _) rfl rfl ⟨rfl, rfl⟩)
 | box n =>
  dsimp only [Val.p]
  try refine z_run ?_
  exact z_finW 0 rfl (LeL.one (.agg _ _ (.cons _ _ _ _ (.refl _) (.cons _ _ _ _ (.refl _) (.cons _ _ _ _ (.refl _) (.cons _ _ _ _ (.nil 4) .nil)))))) (Nat.le_refl _) rfl rfl ⟨rfl, rfl⟩
 | list l =>
  dsimp only [Val.p]
  replace h11 := fun μ => (h11 l rfl).frame (by simp only [okm.okL, okm, okL_vals, Bool.and_self]) μ
  clear h35
  try refine z_run ?_
  exact z_finD 0 rfl (Nat.le_refl _) (show okm.okL 0 [.agg (Val.list l).tree.p] = true by simp only [okm.okL, okm, okL_v, Bool.and_self]) rfl ⟨rfl, rfl⟩
 | quot l =>
  dsimp only [Val.p]
  replace h35 := fun μ => (h35 l rfl).frame (by simp only [okm.okL, okm, okL_itms, Bool.and_self]) μ
  clear h11
  try refine z_run ?_
  exact z_finD 0 rfl (Nat.le_refl _) (show okm.okL 0 [.agg (Val.quot l).tree.p] = true by simp only [okm.okL, okm, okL_v, Bool.and_self]) rfl ⟨rfl, rfl⟩
theorem itemTree_ok (hE : SxEnv E) (h59 : sxFn E cfg fuel 59 1 = some t59) {v : Itm} (h20 : ∀ w, v = .push w → PR E gl 20 [w.p] [] (.agg w.tree.p) []) : PR E gl 59 [v.p] [] (.agg v.tree.p) [] := by
 refine fnZ hE (cfg := cfg) (fuel := fuel) h59 (by kernel_rfl) ?_
 unfold t59
 cases v with
 | nil =>
  dsimp only [Itm.p]
  try refine z_run ?_
  exact z_finW 0 rfl (LeL.one (.agg _ _ (.cons _ _ _ _ (.refl _) (.cons _ _ _ _ (.refl _) (.cons _ _ _ _ (.refl _) (.cons _ _ _ _ (.nil 4) .nil)))))) (Nat.le_refl _) rfl rfl ⟨rfl, rfl⟩
 | call s =>
  dsimp only [Itm.p]
  try refine z_run ?_
  exact z_finW 0 rfl (LeL.one (.agg _ _ (.cons _ _ _ _ (.refl _) (.cons _ _ _ _ (.refl _) (.cons _ _ _ _ (.refl _) (.cons _ _ _ _ (.nil 4) .nil)))))) (Nat.le_refl _) rfl rfl ⟨rfl, rfl⟩
 | push w =>
  dsimp only [Itm.p]
  try refine z_run ?_
  refine z_store rfl rfl rfl (by show (oneP w.p && true) = true; rw [one_val]; rfl) (by decide) ?_
  try dsimp only [go_sem]
  try refine z_run ?_
  refine z_call (as := [w.p]) (by show some [fz (fz w.p)] = some [w.p]; rw [fz_val, fz_val]) ((h20 w rfl).frame ?_ _) (Nat.le_refl _) ?_
  ·simp only [okm.okL, okm_val, Bool.and_self]
  try dsimp only [go_sem]
  show pz E gl _ _ _ _ _ _ _ (fun _ outs μ1 => outs = [P.agg w.tree.p] ∧ μ1 = [])
  generalize w.tree = t
  obtain ⟨k, n, s, l⟩ := t
  dsimp only [V.p]
  try refine z_run ?_
  refine z_finD 0 rfl (Nat.le_refl _) ?_ rfl ⟨rfl, rfl⟩
  show okm.okL 0 [.agg (V.mk k n s l).p] = true
  simp only [okm.okL, okm, okL_v, Bool.and_self]
/-! ### All of them -/
structure ConvT (E : Env) (inf : Nat → TypeInfo) (cfg : Cfg) (fuel : Nat) : Prop where
 t19 : sxFn E cfg fuel 19 1 = some t19
 t12 : sxFn E cfg fuel 12 1 = some (t12 inf)
 t58 : sxFn E cfg fuel 58 1 = some t58
 t34 : sxFn E cfg fuel 34 1 = some (t34 inf)
 t20 : sxFn E cfg fuel 20 1 = some t20
 t11 : sxFn E cfg fuel 11 1 = some (t11 inf)
 t59 : sxFn E cfg fuel 59 1 = some t59
 t35 : sxFn E cfg fuel 35 1 = some (t35 inf)
 val1 : (inf 41).size = 1
 val2 : (inf 41).bytes = 16
 itm1 : (inf 100).size = 1
 itm2 : (inf 100).bytes = 16
 v1 : (inf 35).size = 4
 v2 : (inf 35).bytes = 56
mutual
def V.small (n : Nat) : V → Prop
 | .mk _ _ s l => l.length ≤ n ∧ V.smalls n l ∧ s.size ≤ n
def V.smalls (n : Nat) : List V → Prop
 | [] => True
 | v :: l => v.small n ∧ V.smalls n l
end
mutual
def Val.small (n : Nat) : Val → Prop
 | .list l => l.length ≤ n ∧ Val.smalls n l
 | .quot l => l.length ≤ n ∧ Itm.smalls n l
 | .str s => s.size ≤ n
 | _ => True
def Val.smalls (n : Nat) : List Val → Prop
 | [] => True
 | v :: l => v.small n ∧ Val.smalls n l
def Itm.small (n : Nat) : Itm → Prop
 | .push v => v.small n
 | .call s => s.size ≤ n
 | _ => True
def Itm.smalls (n : Nat) : List Itm → Prop
 | [] => True
 | v :: l => v.small n ∧ Itm.smalls n l
end
mutual
theorem value_all (hE : SxEnv E) {inf : Nat → TypeInfo} (T : ConvT E inf cfg fuel) : ∀ v : V, v.small 1048576 → PR E gl 19 [.agg v.p] [] v.val.p []
 | .mk k n s l, h => by
  simp only [V.small] at h
  have hv := value_mem hE T l h.2.1
  refine value_ok hE T.t19 (fun _ μ => ?_) (fun _ μ => ?_)
  ·refine PR.frame (values_ok hE T.t12 T.val1 T.val2 h.1 fun v hm => (hv v hm).1) ?_ μ
   simp only [okm.okL, okm, okL_vs, Bool.and_self]
  ·refine PR.frame (items_ok hE T.t34 T.itm1 T.itm2 h.1 fun v hm => (hv v hm).2) ?_ μ
   simp only [okm.okL, okm, okL_vs, Bool.and_self]
theorem value_mem (hE : SxEnv E) {inf : Nat → TypeInfo} (T : ConvT E inf cfg fuel) : ∀ l : List V, V.smalls 1048576 l → ∀ v, v ∈ l → PR E gl 19 [.agg v.p] [] v.val.p [] ∧ PR E gl 58 [.agg v.p] [] v.itm.p []
 | [], _, v, hm => by cases hm
 | w :: l, h, v, hm => by
  simp only [V.smalls] at h
  have hw := value_all hE T w h.1
  rcases List.mem_cons.1 hm with rfl | hm
  ·exact ⟨hw, itemOf_ok hE T.t58 hw⟩
  ·exact value_mem hE T l h.2 v hm
end
mutual
theorem tree_all (hE : SxEnv E) {inf : Nat → TypeInfo} (T : ConvT E inf cfg fuel) : ∀ v : Val, v.small 1048576 → PR E gl 20 [v.p] [] (.agg v.tree.p) []
 | .list l, h => by
  simp only [Val.small] at h
  refine tree_ok hE T.t20 (fun m hm => ?_) (fun m hm => by cases hm)
  cases hm
  exact trees_ok hE T.t11 T.v1 T.v2 h.1 (tree_mem hE T l h.2)
 | .quot l, h => by
  simp only [Val.small] at h
  refine tree_ok hE T.t20 (fun m hm => by cases hm) (fun m hm => ?_)
  cases hm
  exact itemTrees_ok hE T.t35 T.v1 T.v2 h.1 (itree_mem hE T l h.2)
 | .nil, _ => tree_ok hE T.t20 (fun m hm => by cases hm) (fun m hm => by cases hm)
 | .int _, _ => tree_ok hE T.t20 (fun m hm => by cases hm) (fun m hm => by cases hm)
 | .str _, _ => tree_ok hE T.t20 (fun m hm => by cases hm) (fun m hm => by cases hm)
 | .bool _, _ => tree_ok hE T.t20 (fun m hm => by cases hm) (fun m hm => by cases hm)
 | .box _, _ => tree_ok hE T.t20 (fun m hm => by cases hm) (fun m hm => by cases hm)
theorem tree_mem (hE : SxEnv E) {inf : Nat → TypeInfo} (T : ConvT E inf cfg fuel) : ∀ l : List Val, Val.smalls 1048576 l → ∀ v, v ∈ l → PR E gl 20 [v.p] [] (.agg v.tree.p) []
 | [], _, v, hm => by cases hm
 | w :: l, h, v, hm => by
  simp only [Val.smalls] at h
  have hw := tree_all hE T w h.1
  rcases List.mem_cons.1 hm with rfl | hm
  ·exact hw
  ·exact tree_mem hE T l h.2 v hm
theorem itree_all (hE : SxEnv E) {inf : Nat → TypeInfo} (T : ConvT E inf cfg fuel) : ∀ v : Itm, v.small 1048576 → PR E gl 59 [v.p] [] (.agg v.tree.p) []
 | .push v, h => by
  simp only [Itm.small] at h
  refine itemTree_ok hE T.t59 (fun w hw => ?_)
  cases hw
  exact tree_all hE T v h
 | .nil, _ => itemTree_ok hE T.t59 (fun m hm => by cases hm)
 | .call _, _ => itemTree_ok hE T.t59 (fun m hm => by cases hm)
theorem itree_mem (hE : SxEnv E) {inf : Nat → TypeInfo} (T : ConvT E inf cfg fuel) : ∀ l : List Itm, Itm.smalls 1048576 l → ∀ v, v ∈ l → PR E gl 59 [v.p] [] (.agg v.tree.p) []
 | [], _, v, hm => by cases hm
 | w :: l, h, v, hm => by
  simp only [Itm.smalls] at h
  have hw := itree_all hE T w h.1
  rcases List.mem_cons.1 hm with rfl | hm
  ·exact hw
  ·exact itree_mem hE T l h.2 v hm
end
theorem trees_all (hE : SxEnv E) {inf : Nat → TypeInfo} (T : ConvT E inf cfg fuel) {l : List Val} (hl : l.length ≤ 1048576) (h : Val.smalls 1048576 l) : PR E gl 11 [.sl 1 l.length (Val.ps l)] [] (.ow tV 4 (Val.trees l).length (V.ps (Val.trees l))) [] :=
 trees_ok hE T.t11 T.v1 T.v2 hl (tree_mem hE T l h)
end
end Go.AM.PV
namespace Go.AM.PV
open Go Go.AM Go.AM.SX
attribute [local irreducible] pz LoopP

def gate (left nest : Int) (r : Int → Int × Bool × Int) : Int × Bool × Int := if left - 1 < 0 then (0, false, left - 1) else if nest > 32 then (0, false, left - 1) else r (left - 1)
def finM (x : Int × Bool × Int) : Int × Bool × Int := if x.2.1 then (x.1 + 1, decide (x.1 < 32), x.2.2) else (0, false, x.2.2)
section
variable (vs nm : ByteArray → Bool)
mutual
def Val.meas : Val → Int → Int → Int × Bool × Int
 | .nil, left, nest => gate left nest fun lf => (0, false, lf)
 | .int n, left, nest => gate left nest fun lf => (0, decide (n ≥ -1152921504606846976) && decide (n ≤ 1152921504606846975), lf)
 | .str s, left, nest => gate left nest fun lf => (0, decide ((s.size : Int) ≤ 4096) && vs s, lf)
 | .bool _, left, nest => gate left nest fun lf => (0, true, lf)
 | .box n, left, nest => gate left nest fun lf => (0, decide (n ≥ 1) && decide (n ≤ 1048576), lf)
 | .list l, left, nest => gate left nest fun lf => finM (Val.measL l lf (nest + 1) 0)
 | .quot l, left, nest => gate left nest fun lf => finM (Itm.measL l lf (nest + 1) 0)
def Val.measL : List Val → Int → Int → Int → Int × Bool × Int
 | [], lf, _, d => (d, true, lf)
 | v :: l, lf, nest, d => if (v.meas lf nest).2.1 then Val.measL l (v.meas lf nest).2.2 nest (max d (v.meas lf nest).1) else (0, false, (v.meas lf nest).2.2)
def Itm.meas : Itm → Int → Int → Int × Bool × Int
 | .nil, left, _ => (0, false, left - 1)
 | .push v, left, nest => v.meas left nest
 | .call s, left, _ => (0, decide (left - 1 ≥ 0) && nm s, left - 1)
def Itm.measL : List Itm → Int → Int → Int → Int × Bool × Int
 | [], lf, _, d => (d, true, lf)
 | v :: l, lf, nest, d => if (v.meas lf nest).2.1 then Itm.measL l (v.meas lf nest).2.2 nest (max d (v.meas lf nest).1) else (0, false, (v.meas lf nest).2.2)
end
/-- What comes of it is within bounds. -/
def Bnd (left : Int) (x : Int × Bool × Int) : Prop := -1 ≤ x.2.2 ∧ x.2.2 ≤ left ∧ 0 ≤ x.1 ∧ x.1 ≤ 33 ∧ (x.2.1 = true → 0 ≤ x.2.2 ∧ x.1 ≤ 32)
theorem gate_bnd {left nest : Int} {r : Int → Int × Bool × Int} (h : 0 ≤ left) (hr : 0 ≤ left - 1 → Bnd (left - 1) (r (left - 1))) : Bnd left (gate left nest r) := by
 unfold gate
 split
 ·exact ⟨by show -1 ≤ left - 1; omega, by show left - 1 ≤ left; omega, by show (0 : Int) ≤ 0; omega, by show (0 : Int) ≤ 33; omega, fun e => by cases e⟩
 ·split
  ·exact ⟨by show -1 ≤ left - 1; omega, by show left - 1 ≤ left; omega, by show (0 : Int) ≤ 0; omega, by show (0 : Int) ≤ 33; omega, fun e => by cases e⟩
  ·obtain ⟨h1, h2, h3, h4, h5⟩ := hr (by omega)
   exact ⟨h1, by omega, h3, h4, h5⟩
theorem leaf_bnd {left : Int} {b : Bool} (h : 0 ≤ left) : Bnd left (0, b, left) := ⟨by show -1 ≤ left; omega, Int.le_refl _, by show (0 : Int) ≤ 0; omega, by show (0 : Int) ≤ 33; omega, fun _ => ⟨h, by show (0 : Int) ≤ 32; omega⟩⟩
/-- Of many: the depth so far is no more than 32. -/
def BndL (left : Int) (x : Int × Bool × Int) : Prop := -1 ≤ x.2.2 ∧ x.2.2 ≤ left ∧ 0 ≤ x.1 ∧ x.1 ≤ 32 ∧ (x.2.1 = true → 0 ≤ x.2.2)
theorem fin_bnd {left : Int} {x : Int × Bool × Int} (h : BndL left x) : Bnd left (finM x) := by
 obtain ⟨h1, h2, h3, h4, h5⟩ := h
 unfold finM
 split
 ·rename_i hx
  exact ⟨h1, h2, by show 0 ≤ x.1 + 1; omega, by show x.1 + 1 ≤ 33; omega, fun e => ⟨h5 hx, by have : x.1 < 32 := of_decide_eq_true e; show x.1 + 1 ≤ 32; omega⟩⟩
 ·exact ⟨h1, h2, by show (0 : Int) ≤ 0; omega, by show (0 : Int) ≤ 33; omega, fun e => by cases e⟩
mutual
theorem Val.bnd : ∀ (v : Val) {left nest : Int}, 0 ≤ left → Bnd left (v.meas vs nm left nest)
 | .nil, _, _, h => gate_bnd h fun h => leaf_bnd h
 | .int _, _, _, h => gate_bnd h fun h => leaf_bnd h
 | .str _, _, _, h => gate_bnd h fun h => leaf_bnd h
 | .bool _, _, _, h => gate_bnd h fun h => leaf_bnd h
 | .box _, _, _, h => gate_bnd h fun h => leaf_bnd h
 | .list l, _, _, h => gate_bnd h fun h => fin_bnd (Val.bndL l h (Int.le_refl 0) (by omega))
 | .quot l, _, _, h => gate_bnd h fun h => fin_bnd (Itm.bndL l h (Int.le_refl 0) (by omega))
theorem Val.bndL : ∀ (l : List Val) {lf nest d : Int}, 0 ≤ lf → 0 ≤ d → d ≤ 32 → BndL lf (Val.measL vs nm l lf nest d)
 | [], lf, nest, d, h, h0, h1 => ⟨by show -1 ≤ lf; omega, Int.le_refl _, h0, h1, fun _ => h⟩
 | v :: l, lf, nest, d, h, h0, h1 => by
  obtain ⟨b1, b2, b3, b4, b5⟩ := Val.bnd v (nest := nest) h
  simp only [Val.measL]
  split
  ·rename_i hok
   obtain ⟨c1, c2⟩ := b5 hok
   obtain ⟨e1, e2, e3, e4, e5⟩ := Val.bndL l (nest := nest) (d := max d (v.meas vs nm lf nest).1) c1 (by omega) (by omega)
   exact ⟨e1, by omega, e3, e4, e5⟩
  ·exact ⟨b1, b2, by show (0 : Int) ≤ 0; omega, by show (0 : Int) ≤ 32; omega, fun e => by cases e⟩
theorem Itm.bnd : ∀ (v : Itm) {left nest : Int}, 0 ≤ left → Bnd left (v.meas vs nm left nest)
 | .nil, left, _, h => ⟨by show -1 ≤ left - 1; omega, by show left - 1 ≤ left; omega, by show (0 : Int) ≤ 0; omega, by show (0 : Int) ≤ 33; omega, fun e => by cases e⟩
 | .push v, _, _, h => Val.bnd v h
 | .call s, left, _, h => ⟨by show -1 ≤ left - 1; omega, by show left - 1 ≤ left; omega, by show (0 : Int) ≤ 0; omega, by show (0 : Int) ≤ 33; omega, fun e => by
   have e' : (decide (left - 1 ≥ 0) && nm s) = true := e
   rw [Bool.and_eq_true] at e'
   exact ⟨of_decide_eq_true e'.1, by show (0 : Int) ≤ 32; omega⟩⟩
theorem Itm.bndL : ∀ (l : List Itm) {lf nest d : Int}, 0 ≤ lf → 0 ≤ d → d ≤ 32 → BndL lf (Itm.measL vs nm l lf nest d)
 | [], lf, nest, d, h, h0, h1 => ⟨by show -1 ≤ lf; omega, Int.le_refl _, h0, h1, fun _ => h⟩
 | v :: l, lf, nest, d, h, h0, h1 => by
  obtain ⟨b1, b2, b3, b4, b5⟩ := Itm.bnd v (nest := nest) h
  simp only [Itm.measL]
  split
  ·rename_i hok
   obtain ⟨c1, c2⟩ := b5 hok
   obtain ⟨e1, e2, e3, e4, e5⟩ := Itm.bndL l (nest := nest) (d := max d (v.meas vs nm lf nest).1) c1 (by omega) (by omega)
   exact ⟨e1, by omega, e3, e4, e5⟩
  ·exact ⟨b1, b2, by show (0 : Int) ≤ 0; omega, by show (0 : Int) ≤ 32; omega, fun e => by cases e⟩
end
end
theorem hno1 (x : Value) : ∀ p, p ∈ [P.c x] → fz p = p := by
 intro p hp
 simp only [List.mem_singleton] at hp
 subst hp; rfl
theorem wrapI {n : Int} (h0 : -9223372036854775808 ≤ n) (h1 : n ≤ 9223372036854775807) : wrapF .i64 n = n := by
 unfold wrapF
 rw [if_pos ⟨by simp only [lo]; omega, by simp only [hi]; omega⟩]
section
variable {E : Env} {gl : List GRow} {cfg : Cfg} {fuel : Nat} (vs nm : ByteArray → Bool)
/-- What is said of a look at a value, at an item. -/
def MeasV (E : Env) (gl : List GRow) (w : Val) : Prop := ∀ left nest : Int, 0 ≤ left → left ≤ 1024 → 0 ≤ nest → nest ≤ 33 →
 PR E gl 39 [w.p, .lp 0 0, I nest] [.cells [I left]] (.tup [I (w.meas vs nm left nest).1, Bo (w.meas vs nm left nest).2.1]) [.cells [I (w.meas vs nm left nest).2.2]]
def MeasI (E : Env) (gl : List GRow) (w : Itm) : Prop := ∀ left nest : Int, 0 ≤ left → left ≤ 1024 → 0 ≤ nest → nest ≤ 33 →
 PR E gl 65 [w.p, .lp 0 0, I nest] [.cells [I left]] (.tup [I (w.meas vs nm left nest).1, Bo (w.meas vs nm left nest).2.1]) [.cells [I (w.meas vs nm left nest).2.2]]
set_option maxHeartbeats 4000000 in
theorem measure_ok (hE : SxEnv E) (h39 : sxFn E cfg fuel 39 3 = some t39) (hS : ∀ s, s.size ≤ 4096 → PR E gl 64 [St s] [] (Bo (vs s)) []) {v : Val} (hsm : v.small 1048576)
  (hL : ∀ l, v = .list l → ∀ w, w ∈ l → MeasV vs nm E gl w) (hQ : ∀ l, v = .quot l → ∀ w, w ∈ l → MeasI vs nm E gl w) : MeasV vs nm E gl v := by
 intro left nest hl0 hl1 hn0 hn1
 refine fnZ hE (cfg := cfg) (fuel := fuel) h39 (by kernel_rfl) ?_
 unfold t39
 try refine z_run ?_
 try rw [wrapI (n := left - 1) (by omega) (by omega)]
 have gt0 : left - 1 < 0 → v.meas vs nm left nest = (0, false, left - 1) := fun h => by cases v <;> simp only [Val.meas, gate, if_pos h]
 refine z_br rfl (fun h => ?_) (fun h => ?_)
 ·have h := of_decide_eq_true h
  try refine z_run ?_
  refine z_fin rfl ?_
  rw [gt0 h]
  exact ⟨rfl, rfl⟩
 have h1 : ¬ left - 1 < 0 := of_decide_eq_false h
 have gt1 : nest > 32 → v.meas vs nm left nest = (0, false, left - 1) := fun h => by cases v <;> simp only [Val.meas, gate, if_neg h1, if_pos h]
 try refine z_run ?_
 refine z_br rfl (fun h => ?_) (fun h => ?_)
 ·have h := of_decide_eq_true h
  try refine z_run ?_
  refine z_fin rfl ?_
  rw [gt1 h]
  exact ⟨rfl, rfl⟩
 have h2 : ¬ nest > 32 := of_decide_eq_false h
 cases v with
 | nil =>
  simp only [Val.meas, gate, if_neg h1, if_neg h2]
  dsimp only [Val.p]
  try refine z_run ?_
  exact z_finD 1 rfl (Nat.le_refl _) rfl rfl ⟨rfl, rfl⟩
 | bool b =>
  simp only [Val.meas, gate, if_neg h1, if_neg h2]
  dsimp only [Val.p]
  try refine z_run ?_
  exact z_finD 1 rfl (Nat.le_refl _) rfl rfl ⟨rfl, rfl⟩
 | int n =>
  simp only [Val.meas, gate, if_neg h1, if_neg h2]
  dsimp only [Val.p]
  try refine z_run ?_
  refine z_br rfl (fun h => ?_) (fun h => ?_)
  ·have h : decide (n ≥ -1152921504606846976) = true := h
   try refine z_run ?_
   refine z_finD 1 rfl (Nat.le_refl _) rfl rfl ⟨?_, rfl⟩
   rw [h]
   rfl
  ·have h : decide (n ≥ -1152921504606846976) = false := h
   try refine z_run ?_
   refine z_finD 1 rfl (Nat.le_refl _) rfl rfl ⟨?_, rfl⟩
   rw [h]
   rfl
 | str s =>
  simp only [Val.meas, gate, if_neg h1, if_neg h2]
  dsimp only [Val.p]
  try refine z_run ?_
  refine z_br rfl (fun h => ?_) (fun h => ?_)
  ·try refine z_run ?_
   refine z_call rfl ((hS s (by have h' : decide ((s.size : Int) ≤ 4096) = true := h; have := of_decide_eq_true h'; omega)).frame rfl _) (Nat.le_refl _) ?_
   try dsimp only [go_sem]
   try refine z_run ?_
   refine z_finD 1 rfl (Nat.le_refl _) rfl rfl ⟨?_, rfl⟩
   have h : decide ((s.size : Int) ≤ 4096) = true := h
   rw [h]
   rfl
  ·try refine z_run ?_
   refine z_finD 1 rfl (Nat.le_refl _) rfl rfl ⟨?_, rfl⟩
   have h : decide ((s.size : Int) ≤ 4096) = false := h
   rw [h]
   rfl
 | box n =>
  simp only [Val.meas, gate, if_neg h1, if_neg h2]
  dsimp only [Val.p]
  try refine z_run ?_
  refine z_br rfl (fun h => ?_) (fun h => ?_)
  ·have h : decide (n ≥ 1) = true := h
   try refine z_run ?_
   refine z_finD 1 rfl (Nat.le_refl _) rfl rfl ⟨?_, rfl⟩
   rw [h]
   rfl
  ·have h : decide (n ≥ 1) = false := h
   try refine z_run ?_
   refine z_finD 1 rfl (Nat.le_refl _) rfl rfl ⟨?_, rfl⟩
   rw [h]
   rfl
 | list l =>
  have hlen : l.length ≤ 1048576 := by simp only [Val.small] at hsm; exact hsm.1
  have hL := hL l rfl
  simp only [Val.meas, gate, if_neg h1, if_neg h2]
  dsimp only [Val.p]
  try refine z_run ?_
  have hb0 : 0 ≤ left - 1 := by omega
  refine z_loop (fun κ us ν => ∃ (i : Nat) (d lf : Int), κ = l.length - i ∧ i ≤ l.length ∧ us = [Bo false, I d, I i] ∧ ν = [.cells [I lf], .cells [.sl 1 l.length (Val.ps l)]] ∧ 0 ≤ lf ∧ lf ≤ 1024 ∧ 0 ≤ d ∧ d ≤ 32 ∧
   Val.measL vs nm (l.drop i) lf (nest + 1) d = Val.measL vs nm l (left - 1) (nest + 1) 0) rfl l.length _ (LeL.refl _) ⟨0, 0, left - 1, by omega, by omega, rfl, rfl, hb0, by omega, by omega, by omega, rfl⟩ ?_
  rintro κ us ν ⟨i, d, lf, rfl, hi, rfl, rfl, hf0, hf1, hd0, hd1, heq⟩
  try dsimp only [go_sem]
  try refine z_run ?_
  refine z_br rfl (fun hlt => ?_) (fun hge => ?_)
  ·have hlt : i < l.length := by have := of_decide_eq_true hlt; omega
   obtain ⟨w, hw⟩ : ∃ w, l[i]? = some w := ⟨l[i], List.getElem?_eq_getElem hlt⟩
   have hstep : l.drop i = w :: l.drop (i + 1) := by
    rw [List.drop_eq_getElem_cons hlt]
    rw [List.getElem?_eq_getElem hlt] at hw
    cases hw; rfl
   refine zn_idx rfl hlt ?_
   try dsimp only [go_sem]
   refine zn_ld1 rfl (p := w.p) (by rw [Val.ps_map, Nat.mul_one, List.getElem?_map, hw]; rfl) ?_
   try dsimp only [go_sem]
   try refine z_run ?_
   try rw [wrapI (n := nest + 1) (by omega) (by omega)]
   refine z_call (as := [w.p, .lp 0 0, I (nest + 1)]) (by show some [fz w.p, _, _] = some [w.p, _, _]; rw [fz_val]; rfl) (PR.frame1 (hL w (List.mem_of_getElem? hw) lf (nest + 1) hf0 hf1 (by omega) (by omega))
    (.cons _ _ _ _ (.no _ (okm_val w)) (.cons _ _ _ _ (.lp 0) (.cons _ _ _ _ (.no _ rfl) .nil))) rfl rfl rfl (hno1 _) (hno1 _) rfl) (Nat.le_refl _) ?_
   obtain ⟨b1, b2, b3, b4, b5⟩ := Val.bnd vs nm w (nest := nest + 1) hf0
   have hm : Val.measL vs nm (l.drop i) lf (nest + 1) d = if (w.meas vs nm lf (nest + 1)).2.1 then Val.measL vs nm (l.drop (i + 1)) (w.meas vs nm lf (nest + 1)).2.2 (nest + 1) (max d (w.meas vs nm lf (nest + 1)).1) else (0, false, (w.meas vs nm lf (nest + 1)).2.2) := by
    rw [hstep]; rfl
   rw [hm] at heq
   generalize w.meas vs nm lf (nest + 1) = x at heq b1 b2 b3 b4 b5
   obtain ⟨d', ok, lf'⟩ := x
   try dsimp only [go_sem]
   try refine z_run ?_
   cases ok with
   | false =>
    try refine z_run ?_
    refine z_fin rfl ?_
    try dsimp only [go_sem]
    try refine z_run ?_
    rw [← heq]
    exact z_finD 1 rfl (Nat.le_refl _) rfl rfl ⟨rfl, rfl⟩
   | true =>
    try refine z_run ?_
    try rw [wrapI (n := (i : Int) + 1) (by omega) (by omega)]
    refine z_fin rfl ?_
    obtain ⟨c1, c2⟩ := b5 rfl
    dsimp only at b1 b2 b3 b4 c1 c2
    refine ⟨l.length - (i + 1), by omega, i + 1, max d d', lf', rfl, by omega, ?_, rfl, c1, by omega, by omega, by omega, heq⟩
    show [_, P.c (.int .i64 (if d' > d then d' else d)), _] = _
    rw [show (if d' > d then d' else d) = max d d' by rw [Int.max_def]; split <;> split <;> omega]
    rfl
  ·have hge : i = l.length := by have := of_decide_eq_false hge; omega
   subst hge
   rw [List.drop_length] at heq
   refine z_fin rfl ?_
   try dsimp only [go_sem]
   try refine z_run ?_
   try rw [wrapI (n := d + 1) (by omega) (by omega)]
   rw [← heq]
   exact z_finD 1 rfl (Nat.le_refl _) rfl rfl ⟨rfl, rfl⟩
 | quot l =>
  have hlen : l.length ≤ 1048576 := by simp only [Val.small] at hsm; exact hsm.1
  have hL := hQ l rfl
  simp only [Val.meas, gate, if_neg h1, if_neg h2]
  dsimp only [Val.p]
  try refine z_run ?_
  have hb0 : 0 ≤ left - 1 := by omega
  refine z_loop (fun κ us ν => ∃ (i : Nat) (d lf : Int), κ = l.length - i ∧ i ≤ l.length ∧ us = [Bo false, I d, I i] ∧ ν = [.cells [I lf], .cells [.sl 1 l.length (Itm.ps l)]] ∧ 0 ≤ lf ∧ lf ≤ 1024 ∧ 0 ≤ d ∧ d ≤ 32 ∧
   Itm.measL vs nm (l.drop i) lf (nest + 1) d = Itm.measL vs nm l (left - 1) (nest + 1) 0) rfl l.length _ (LeL.refl _) ⟨0, 0, left - 1, by omega, by omega, rfl, rfl, hb0, by omega, by omega, by omega, rfl⟩ ?_
  rintro κ us ν ⟨i, d, lf, rfl, hi, rfl, rfl, hf0, hf1, hd0, hd1, heq⟩
  try dsimp only [go_sem]
  try refine z_run ?_
  refine z_br rfl (fun hlt => ?_) (fun hge => ?_)
  ·have hlt : i < l.length := by have := of_decide_eq_true hlt; omega
   obtain ⟨w, hw⟩ : ∃ w, l[i]? = some w := ⟨l[i], List.getElem?_eq_getElem hlt⟩
   have hstep : l.drop i = w :: l.drop (i + 1) := by
    rw [List.drop_eq_getElem_cons hlt]
    rw [List.getElem?_eq_getElem hlt] at hw
    cases hw; rfl
   refine zn_idx rfl hlt ?_
   try dsimp only [go_sem]
   refine zn_ld1 rfl (p := w.p) (by rw [Itm.ps_map, Nat.mul_one, List.getElem?_map, hw]; rfl) ?_
   try dsimp only [go_sem]
   try refine z_run ?_
   try rw [wrapI (n := nest + 1) (by omega) (by omega)]
   refine z_call (as := [w.p, .lp 0 0, I (nest + 1)]) (by show some [fz w.p, _, _] = some [w.p, _, _]; rw [fz_itm]; rfl) (PR.frame1 (hL w (List.mem_of_getElem? hw) lf (nest + 1) hf0 hf1 (by omega) (by omega))
    (.cons _ _ _ _ (.no _ (okm_itm w)) (.cons _ _ _ _ (.lp 0) (.cons _ _ _ _ (.no _ rfl) .nil))) rfl rfl rfl (hno1 _) (hno1 _) rfl) (Nat.le_refl _) ?_
   obtain ⟨b1, b2, b3, b4, b5⟩ := Itm.bnd vs nm w (nest := nest + 1) hf0
   have hm : Itm.measL vs nm (l.drop i) lf (nest + 1) d = if (w.meas vs nm lf (nest + 1)).2.1 then Itm.measL vs nm (l.drop (i + 1)) (w.meas vs nm lf (nest + 1)).2.2 (nest + 1) (max d (w.meas vs nm lf (nest + 1)).1) else (0, false, (w.meas vs nm lf (nest + 1)).2.2) := by
    rw [hstep]; rfl
   rw [hm] at heq
   generalize w.meas vs nm lf (nest + 1) = x at heq b1 b2 b3 b4 b5
   obtain ⟨d', ok, lf'⟩ := x
   try dsimp only [go_sem]
   try refine z_run ?_
   cases ok with
   | false =>
    try refine z_run ?_
    refine z_fin rfl ?_
    try dsimp only [go_sem]
    try refine z_run ?_
    rw [← heq]
    exact z_finD 1 rfl (Nat.le_refl _) rfl rfl ⟨rfl, rfl⟩
   | true =>
    try refine z_run ?_
    try rw [wrapI (n := (i : Int) + 1) (by omega) (by omega)]
    refine z_fin rfl ?_
    obtain ⟨c1, c2⟩ := b5 rfl
    dsimp only at b1 b2 b3 b4 c1 c2
    refine ⟨l.length - (i + 1), by omega, i + 1, max d d', lf', rfl, by omega, ?_, rfl, c1, by omega, by omega, by omega, heq⟩
    show [_, P.c (.int .i64 (if d' > d then d' else d)), _] = _
    rw [show (if d' > d then d' else d) = max d d' by rw [Int.max_def]; split <;> split <;> omega]
    rfl
  ·have hge : i = l.length := by have := of_decide_eq_false hge; omega
   subst hge
   rw [List.drop_length] at heq
   refine z_fin rfl ?_
   try dsimp only [go_sem]
   try refine z_run ?_
   try rw [wrapI (n := d + 1) (by omega) (by omega)]
   rw [← heq]
   exact z_finD 1 rfl (Nat.le_refl _) rfl rfl ⟨rfl, rfl⟩
theorem itm_ok (hE : SxEnv E) (h65 : sxFn E cfg fuel 65 3 = some t65) (hN : ∀ s, s.size ≤ 1048576 → PR E gl 102 [St s] [] (Bo (nm s)) []) {v : Itm} (hsm : v.small 1048576)
  (hV : ∀ w, v = .push w → MeasV vs nm E gl w) : MeasI vs nm E gl v := by
 intro left nest hl0 hl1 hn0 hn1
 refine fnZ hE (cfg := cfg) (fuel := fuel) h65 (by kernel_rfl) ?_
 unfold t65
 cases v with
 | push w =>
  have hV := hV w rfl left nest hl0 hl1 hn0 hn1
  simp only [Itm.meas]
  dsimp only [Itm.p]
  try refine z_run ?_
  refine z_store rfl rfl rfl (by show (oneP w.p && true) = true; rw [one_val]; rfl) (by decide) ?_
  try dsimp only [go_sem]
  try refine z_run ?_
  refine z_call (as := [w.p, .lp 0 0, I nest]) (by show some [fz (fz w.p), _, _] = some [w.p, _, _]; rw [fz_val, fz_val]; rfl) (PR.frame1 hV
    (.cons _ _ _ _ (.no _ (okm_val w)) (.cons _ _ _ _ (.lp 0) (.cons _ _ _ _ (.no _ rfl) .nil))) rfl rfl rfl (hno1 _) (hno1 _) rfl) (Nat.le_refl _) ?_
  try dsimp only [go_sem]
  try refine z_run ?_
  exact z_finD 1 rfl (Nat.le_refl _) rfl rfl ⟨rfl, rfl⟩
 | nil =>
  simp only [Itm.meas]
  dsimp only [Itm.p]
  try refine z_run ?_
  try rw [wrapI (n := left - 1) (by omega) (by omega)]
  exact z_finD 1 rfl (Nat.le_refl _) rfl rfl ⟨rfl, rfl⟩
 | call s =>
  simp only [Itm.meas]
  dsimp only [Itm.p]
  try refine z_run ?_
  try rw [wrapI (n := left - 1) (by omega) (by omega)]
  refine z_br rfl (fun h => ?_) (fun h => ?_)
  ·have h : decide (left - 1 ≥ 0) = true := h
   try refine z_run ?_
   refine z_call rfl ((hN s (by simpa only [Itm.small] using hsm)).frame rfl _) (Nat.le_refl _) ?_
   try dsimp only [go_sem]
   try refine z_run ?_
   refine z_finD 1 rfl (Nat.le_refl _) rfl rfl ⟨?_, rfl⟩
   rw [h]
   rfl
  ·have h : decide (left - 1 ≥ 0) = false := h
   try refine z_run ?_
   refine z_finD 1 rfl (Nat.le_refl _) rfl rfl ⟨?_, rfl⟩
   rw [h]
   rfl
mutual
theorem meas_all (hE : SxEnv E) (h39 : sxFn E cfg fuel 39 3 = some t39) (h65 : sxFn E cfg fuel 65 3 = some t65) (hS : ∀ s, s.size ≤ 4096 → PR E gl 64 [St s] [] (Bo (vs s)) []) (hN : ∀ s, s.size ≤ 1048576 → PR E gl 102 [St s] [] (Bo (nm s)) []) : ∀ v : Val, v.small 1048576 → MeasV vs nm E gl v
 | .nil, h => measure_ok vs nm hE h39 hS h (fun _ e => by cases e) (fun _ e => by cases e)
 | .int _, h => measure_ok vs nm hE h39 hS h (fun _ e => by cases e) (fun _ e => by cases e)
 | .str _, h => measure_ok vs nm hE h39 hS h (fun _ e => by cases e) (fun _ e => by cases e)
 | .bool _, h => measure_ok vs nm hE h39 hS h (fun _ e => by cases e) (fun _ e => by cases e)
 | .box _, h => measure_ok vs nm hE h39 hS h (fun _ e => by cases e) (fun _ e => by cases e)
 | .list l, h => have a := meas_list hE h39 h65 hS hN l (by simp only [Val.small] at h; exact h.2); measure_ok vs nm hE h39 hS h (fun l' e => by cases e; exact a) (fun _ e => by cases e)
 | .quot l, h => have a := meas_items hE h39 h65 hS hN l (by simp only [Val.small] at h; exact h.2); measure_ok vs nm hE h39 hS h (fun _ e => by cases e) (fun l' e => by cases e; exact a)
theorem meas_list (hE : SxEnv E) (h39 : sxFn E cfg fuel 39 3 = some t39) (h65 : sxFn E cfg fuel 65 3 = some t65) (hS : ∀ s, s.size ≤ 4096 → PR E gl 64 [St s] [] (Bo (vs s)) []) (hN : ∀ s, s.size ≤ 1048576 → PR E gl 102 [St s] [] (Bo (nm s)) []) : ∀ l : List Val, Val.smalls 1048576 l → ∀ w, w ∈ l → MeasV vs nm E gl w
 | [], _ => fun _ hw => by cases hw
 | v :: l, h => have h' : v.small 1048576 ∧ Val.smalls 1048576 l := by simpa only [Val.smalls] using h
  have a := meas_all hE h39 h65 hS hN v h'.1; have b := meas_list hE h39 h65 hS hN l h'.2
  fun w hw => by
   rcases List.mem_cons.mp hw with hw | hw
   ·subst hw; exact a
   ·exact b w hw
theorem meas_items (hE : SxEnv E) (h39 : sxFn E cfg fuel 39 3 = some t39) (h65 : sxFn E cfg fuel 65 3 = some t65) (hS : ∀ s, s.size ≤ 4096 → PR E gl 64 [St s] [] (Bo (vs s)) []) (hN : ∀ s, s.size ≤ 1048576 → PR E gl 102 [St s] [] (Bo (nm s)) []) : ∀ l : List Itm, Itm.smalls 1048576 l → ∀ w, w ∈ l → MeasI vs nm E gl w
 | [], _ => fun _ hw => by cases hw
 | v :: l, h => have h' : v.small 1048576 ∧ Itm.smalls 1048576 l := by simpa only [Itm.smalls] using h
  have a := meas_item hE h39 h65 hS hN v h'.1; have b := meas_items hE h39 h65 hS hN l h'.2
  fun w hw => by
   rcases List.mem_cons.mp hw with hw | hw
   ·subst hw; exact a
   ·exact b w hw
theorem meas_item (hE : SxEnv E) (h39 : sxFn E cfg fuel 39 3 = some t39) (h65 : sxFn E cfg fuel 65 3 = some t65) (hS : ∀ s, s.size ≤ 4096 → PR E gl 64 [St s] [] (Bo (vs s)) []) (hN : ∀ s, s.size ≤ 1048576 → PR E gl 102 [St s] [] (Bo (nm s)) []) : ∀ v : Itm, v.small 1048576 → MeasI vs nm E gl v
 | .nil, h => itm_ok vs nm hE h65 hN h fun _ e => by cases e
 | .push w, h => have a := meas_all hE h39 h65 hS hN w (by simpa only [Itm.small] using h); itm_ok vs nm hE h65 hN h fun w' e => by cases e; exact a
 | .call _, h => itm_ok vs nm hE h65 hN h fun _ e => by cases e
end
/-- Whether a value is sound: 0 or 1. -/
def Val.chk (v : Val) : Int := if (v.meas vs nm 1024 0).2.1 then 0 else 1
theorem check_ok (hE : SxEnv E) (h24 : sxFn E cfg fuel 24 1 = some t24) (h39 : sxFn E cfg fuel 39 3 = some t39) (h65 : sxFn E cfg fuel 65 3 = some t65) (hS : ∀ s, s.size ≤ 4096 → PR E gl 64 [St s] [] (Bo (vs s)) []) (hN : ∀ s, s.size ≤ 1048576 → PR E gl 102 [St s] [] (Bo (nm s)) [])
  (v : Val) (hv : v.small 1048576) : PR E gl 24 [v.p] [] (I (v.chk vs nm)) [] := by
 refine fnZ hE (cfg := cfg) (fuel := fuel) h24 (by kernel_rfl) ?_
 unfold t24
 try refine z_run ?_
 have hm := meas_all vs nm hE h39 h65 hS hN v hv 1024 0 (by omega) (by omega) (by omega) (by omega)
 refine z_call (as := [v.p, .lp 0 0, I 0]) (by show some [fz v.p, _, _] = some [v.p, _, _]; rw [fz_val]; rfl) hm (Nat.le_refl _) ?_
 unfold Val.chk
 generalize v.meas vs nm 1024 0 = x
 obtain ⟨d, ok, lf⟩ := x
 try dsimp only [go_sem]
 cases ok with
 | true =>
  try refine z_run ?_
  exact z_finD 0 rfl (Nat.zero_le _) rfl rfl ⟨rfl, rfl⟩
 | false =>
  try refine z_run ?_
  exact z_finD 0 rfl (Nat.zero_le _) rfl rfl ⟨rfl, rfl⟩
end
end Go.AM.PV
