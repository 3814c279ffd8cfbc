/- The symbolic evaluator is right: every operation. -/
import Derived.Test.YtkhgbpokoaklpaaGreatDoorSxOk
namespace Go.AM.SX
open Go
section
variable {E : Env} {σ : Sg} {sf : SF} {fr : Fr} {o : Oper}

theorem binC_ok (hE : SxEnv E) {op : BinOp} {t u : TypeId} {x y : Operand} {a b : X} {r : X} (ho : o.op = .binOp op t x y u) (hx : evalO fr x = a.den σ) (hy : evalO fr y = b.den σ) (h : binC a b op = some r) (A : St) :
    r.good σ ∧ xBinOp E A (evalO fr) o op t x y = some (.val (r.den σ), A) := by
  unfold binC at h
  split at h
  · rename_i v w
    split at h
    · rename_i v' hb
      split at h
      · cases h
        refine ⟨vv_good σ _, ?_⟩
        refine bin_ok hE.sl ho ?_
        rw [hx, hy]
        exact hb
      · cases h
    · cases h
  · cases h

theorem trBin_ok (hE : SxEnv E) {op : BinOp} {t u : TypeId} {x y : Operand} {a b : X} {ac : Act} (ho : o.op = .binOp op t x y u) (hl : litsOk E o = true) (hx : evalO fr x = a.den σ) (hy : evalO fr y = b.den σ)
    (h : trBin E op t y a b = some ac) : ActOk E σ fr o ac := by
  have hX : ∀ A, opX E A (evalO fr) o = xBinOp E A (evalO fr) o op t x y := by
    intro A
    rw [opX_of hl]
    unfold opD
    rw [ho]
  unfold trBin at h
  split at h
  · rename_i r hr
    cases h
    refine ⟨(binC_ok (E := E) hE ho hx hy hr { next := 0, h := .nil, g := .nil }).1, fun A => ?_⟩
    rw [hX]
    exact (binC_ok hE ho hx hy hr A).2
  · split at h
    · rename_i hc
      rw [Bool.and_eq_true] at hc
      split at h <;> first
        | (cases h; done)
        | (have hd := ‹E.und t = some _›
           cases h
           intro A v A' hr
           simp only [denL, List.map_cons, List.map_nil, semR] at hr
           split at hr
           · rename_i bb hbb
             cases hr
             rw [hX]
             rw [← hx, ← hy] at hbb
             have := eqn_ok (A := A) (ρ := evalO fr) hE ho (by first | exact .inl rfl | exact .inr rfl) hc.1 hd hbb
             rw [this]
             cases bb <;> rfl
           · cases hr)
    · have binCase : ActOk E σ fr o (.op (.bin op) [a, b]) := by
        intro A v A' hr
        simp only [denL, List.map_cons, List.map_nil, semR] at hr
        split at hr
        · rename_i w hw
          cases hr
          rw [hX]
          refine bin_ok hE.sl ho ?_
          rw [hx, hy]
          exact hw
        · cases hr
      have boolCase : ∀ neg : Bool, (op = if neg then .neq else .eql) → E.und t = some .bool → ActOk E σ fr o (.op (.beq neg) [a, b]) := by
        intro neg hop hd A v A' hr
        simp only [denL, List.map_cons, List.map_nil] at hr
        cases ha : a.den σ <;> rw [ha] at hr <;> first
          | (cases hr; done)
          | skip
        cases hb : b.den σ <;> rw [hb] at hr <;> first
          | (cases hr; done)
          | skip
        cases hr
        rw [hX, beq_ok hE ho (by cases neg <;> simp [hop]) hd (hx.trans ha) (hy.trans hb)]
        cases neg <;> simp [hop]
      split at h
      · cases h
        exact boolCase false rfl ‹E.und t = some .bool›
      · cases h
        exact boolCase true rfl ‹E.und t = some .bool›
      · cases h
        exact binCase

theorem un_ok {op : UnOp} {t : TypeId} {x : Operand} {A : St} {v r : Value} (ho : o.op = .unOp op t x) (hl : litsOk E o = true) (hv : evalO fr x = v) (hp : plainV v = true) (hpr : plainV r = true) (hu : Op.unary op v = pure r) :
    opX E A (evalO fr) o = some (.val r, A) := by
  rw [opX_of hl]
  unfold opD
  rw [ho]
  show viaPure E A (evalO fr) o = _
  refine via_of (by unfold pureOp; rw [ho]) (by rw [ho]; show [evalO fr x].all plainV = true; simp [hv, hp]) ?_ hpr
  unfold execOp
  rw [ho]
  show pureRun E.P (Op.unary op (evalO fr x) >>= fun r => (pure (Next.value r) : Sem Next)) = _
  rw [hv, hu]
  rfl

set_option maxHeartbeats 0 in
theorem tr_ok (hE : SxEnv E) (hf : FrRel σ sf fr) {a : Act} (hl : litsOk E o = true) (h : tr E sf o = some a) : ActOk E σ fr o a := by
  have hXD : ∀ A, opX E A (evalO fr) o = opD E A (evalO fr) o := fun A => opX_of hl
  unfold tr at h
  cases ho : o.op <;> rw [ho] at h <;> simp only at h <;> first
    | (cases h; done)
    | skip
  case move x =>
    cases hx : evalS sf x with
    | none => rw [hx] at h; cases h
    | some y =>
      rw [hx] at h; cases h
      obtain ⟨h1, h2⟩ := evalS_ok hf hx
      refine ⟨h1, fun A => ?_⟩
      rw [hXD]; unfold opD; rw [ho]; simp only [h2]
  case assign x =>
    cases hx : evalS sf x with
    | none => rw [hx] at h; cases h
    | some y =>
      rw [hx] at h; cases h
      obtain ⟨h1, h2⟩ := evalS_ok hf hx
      refine ⟨h1, fun A => ?_⟩
      rw [hXD]; unfold opD; rw [ho]; simp only [h2]
  case pick c x y =>
    split at h
    · rename_i t x' y' hc hx hy
      cases h
      obtain ⟨_, c2⟩ := evalS_ok hf hc
      obtain ⟨x1, x2⟩ := evalS_ok hf hx
      obtain ⟨y1, y2⟩ := evalS_ok hf hy
      refine ⟨by cases t <;> assumption, fun A => ?_⟩
      rw [hXD]; unfold opD; rw [ho]; simp only [xPick, c2, x2, y2, X.den, At.den]
      cases t <;> rfl
    · rename_i k x' y' hc hx hy
      cases h
      obtain ⟨_, c2⟩ := evalS_ok hf hc
      obtain ⟨x1, x2⟩ := evalS_ok hf hx
      obtain ⟨y1, y2⟩ := evalS_ok hf hy
      refine ⟨x1, y1, fun A t hk => ?_⟩
      have c3 : evalO fr c = .bool t := c2.trans hk
      rw [hXD]; unfold opD; rw [ho]; simp only [xPick, c3, x2, y2]
    · cases h
  case alloc t =>
    split at h
    · rename_i z hz
      cases h
      intro A v A' hr
      simp only [denL, List.map_nil, semR, Option.some.injEq, Prod.mk.injEq] at hr
      obtain ⟨rfl, rfl⟩ := hr
      rw [hXD]; unfold opD; rw [ho]; simp only [xAlloc, hz]
      rfl
    · cases h
  case box t x =>
    split at h
    · rename_i x' hx
      cases h
      intro A v A' hr
      obtain ⟨_, x2⟩ := evalS_ok hf hx
      simp only [denL, List.map_cons, List.map_nil, semR, Option.some.injEq, Prod.mk.injEq] at hr
      obtain ⟨rfl, rfl⟩ := hr
      rw [hXD]; unfold opD; rw [ho]; simp only [xBox, x2]
      rfl
    · cases h
  case build t parts => exact build_ok hf (parts := parts.toList) ho hl h
  case buildSlice t len parts => exact buildSlice_ok hf (parts := parts.toList) ho hl h
  case load t x =>
    split at h
    · rename_i n x' ha hs hx
      cases h
      obtain ⟨_, x2⟩ := evalS_ok hf hx
      intro A v A' hr
      simp only [denL, List.map_cons, List.map_nil] at hr
      rw [← x2] at hr
      rw [hXD]; unfold opD; rw [ho]; simp only [xLoad]
      cases hv : evalO fr x <;> rw [hv] at hr <;> first
        | (simp only [semR] at hr; cases hr; done)
        | skip
      rename_i p
      cases p with
      | none => simp only [semR] at hr; cases hr
      | some ad =>
        simp only [semR] at hr
        simp only [loadV, ha, hs]
        split at hr
        · rename_i vs hvs
          cases hr
          rw [hvs]
        · cases hr
    · rename_i x' ha hx
      cases h
      obtain ⟨_, x2⟩ := evalS_ok hf hx
      intro A v A' hr
      simp only [denL, List.map_cons, List.map_nil] at hr
      rw [← x2] at hr
      rw [hXD]; unfold opD; rw [ho]; simp only [xLoad]
      cases hv : evalO fr x <;> rw [hv] at hr <;> first
        | (simp only [semR] at hr; cases hr; done)
        | skip
      rename_i p
      cases p with
      | none => simp only [semR] at hr; cases hr
      | some ad =>
        simp only [semR] at hr
        simp only [loadV, ha]
        split at hr
        · rename_i w hvs
          cases hr
          rw [hvs]
        · cases hr
    · cases h
  case store t x y =>
    split at h
    · rename_i n x' y' hs hx hy
      cases h
      obtain ⟨_, x2⟩ := evalS_ok hf hx
      obtain ⟨_, y2⟩ := evalS_ok hf hy
      intro A v A' hr
      simp only [denL, List.map_cons, List.map_nil] at hr
      rw [← x2, ← y2] at hr
      rw [hXD]; unfold opD; rw [ho]; simp only [xStore]
      cases hv : evalO fr x <;> rw [hv] at hr <;> first
        | (simp only [semR] at hr; cases hr; done)
        | skip
      rename_i p
      cases p with
      | none => simp only [semR] at hr; cases hr
      | some ad =>
        simp only [semR] at hr
        simp only [storeV, hs]
        split at hr
        · rename_i hc
          rw [if_pos hc]
          split at hr
          · rename_i A'' hst
            cases hr
            rw [hst]
          · cases hr
        · cases hr
    · cases h
  case nilCheck x =>
    split at h
    · rename_i f cs hx
      cases h
      obtain ⟨x1, x2⟩ := evalS_ok hf hx
      refine ⟨x1, fun A => ?_⟩
      rw [hXD]; unfold opD; rw [ho]; simp only [xNilCheck, x2, X.den]
    · rename_i t a' hx
      cases h
      obtain ⟨x1, x2⟩ := evalS_ok hf hx
      refine ⟨x1, fun A => ?_⟩
      rw [hXD]; unfold opD; rw [ho]; simp only [xNilCheck, x2, X.den]
    · rename_i x' hx
      cases h
      obtain ⟨_, x2⟩ := evalS_ok hf hx
      intro A v A' hr
      simp only [denL, List.map_cons, List.map_nil, semR] at hr
      rw [← x2] at hr
      rw [hXD]; unfold opD; rw [ho]; simp only [xNilCheck]
      cases hv : evalO fr x <;> rw [hv] at hr <;> first
        | (cases hr; rfl)
        | (rename_i p; cases p <;> first
            | (cases hr; rfl)
            | (cases hr; done))
        | (rename_i fn f c; cases fn <;> first
            | (cases hr; rfl)
            | (cases hr; done))
        | (cases hr; done)
    · cases h
  case binOp op t x y u =>
    split at h
    · rename_i a' b' hx hy
      exact trBin_ok hE ho hl (evalS_ok hf hx).2 (evalS_ok hf hy).2 h
    · cases h
  case unOp op t x =>
    split at h
    · rename_i a' hx
      obtain ⟨_, x2⟩ := evalS_ok hf hx
      split at h
      · rename_i b
        cases h
        exact ⟨vv_good σ _, fun A => un_ok ho hl x2 rfl rfl rfl⟩
      · cases h
        intro A v A' hr
        simp only [denL, List.map_cons, List.map_nil] at hr
        rw [← x2] at hr
        cases hv : evalO fr x <;> rw [hv] at hr <;> simp only [semR] at hr <;> first
          | (cases hr; done)
          | (cases hr; exact un_ok ho hl hv rfl rfl rfl)
    · rename_i a' hx
      obtain ⟨_, x2⟩ := evalS_ok hf hx
      cases h
      intro A v A' hr
      simp only [denL, List.map_cons, List.map_nil] at hr
      rw [← x2] at hr
      cases hv : evalO fr x <;> rw [hv] at hr <;> simp only [semR] at hr <;> first
        | (cases hr; done)
        | (cases hr; exact un_ok ho hl hv rfl rfl rfl)
    · cases h
  case convert src dst x => exact convert_ok hE hf ho hl h
  case makeInterface t x =>
    split at h
    · cases h
    · rename_i d a' hn hu hx
      cases h
      obtain ⟨x1, x2⟩ := evalS_ok hf hx
      refine ⟨⟨x1.1, trivial⟩, fun A => ?_⟩
      rw [hXD]; unfold opD; rw [ho]; simp only [xMakeInterface, hu]
      cases d <;> first
        | exact (hn _ rfl).elim
        | (rw [x2]; rfl)
    · cases h
  case makeFunc fn first captured =>
    cases fn with
    | func f =>
      simp only at h
      split at h
      · rename_i xs hfst hxs
        split at h
        · rename_i l hat
          cases h
          obtain ⟨g1, g2⟩ := evalS_map hf hxs
          obtain ⟨k1, k2⟩ := atomicL_ok hat g1
          refine ⟨⟨k1, trivial⟩, fun A => ?_⟩
          rw [hXD]; unfold opD; rw [ho]; simp only [xMakeFunc, X.den]
          have e1 : first.map (evalO fr) = #[] := by
            have : first = #[] := by simpa using hfst
            rw [this]; simp
          have e2 : captured.map (evalO fr) = (l.map (·.den σ)).toArray := by
            rw [← k2, ← g2]
            apply Array.ext'
            simp
          rw [e1, e2]
        · cases h
      · cases h
    | _ => simp only at h; cases h
  case makeMap t r =>
    cases r with
    | none =>
      simp only at h
      cases h
      intro A v A' hr
      simp only [denL, List.map_nil, semR, Option.some.injEq, Prod.mk.injEq] at hr
      obtain ⟨rfl, rfl⟩ := hr
      rw [hXD]; unfold opD; rw [ho]; simp only [xMakeMap]
      rfl
    | some _ => simp only at h; cases h
  case makeSlice t l c =>
    split at h
    · rename_i e x' y' hu hx hy
      split at h
      · rename_i i z hi hz
        split at h
        · rename_i hc
          cases h
          obtain ⟨_, x2⟩ := evalS_ok hf hx
          obtain ⟨_, y2⟩ := evalS_ok hf hy
          intro A v A' hr
          simp only [denL, List.map_cons, List.map_nil] at hr
          rw [← x2, ← y2] at hr
          rw [hXD]; unfold opD; rw [ho]; simp only [xMakeSlice]
          cases hv : evalO fr l <;> rw [hv] at hr <;> first
            | (simp only [semR] at hr; cases hr; done)
            | skip
          cases hw : evalO fr c <;> rw [hw] at hr <;> first
            | (simp only [semR] at hr; cases hr; done)
            | skip
          simp only [semR] at hr
          split at hr
          · rename_i hb
            simp only [Option.some.injEq, Prod.mk.injEq] at hr
            obtain ⟨rfl, rfl⟩ := hr
            rw [hu]
            simp only [hi, hz]
            rw [if_pos ⟨hb.1, hb.2.1, hb.2.2.1, hb.2.2.2, hc.1, hc.2⟩]
            rfl
          · cases hr
        · cases h
      · cases h
    · cases h
  case slice t x lo hi mx => exact slice_ok hf ho hl h
  case fieldAddr s x f =>
    split at h
    · rename_i fs a' hu hx
      split at h
      · rename_i fd hfd
        split at h
        · rename_i n hn
          split at h
          · cases h
          · rename_i hz
            cases h
            obtain ⟨_, x2⟩ := evalS_ok hf hx
            intro A v A' hr
            simp only [denL, List.map_cons, List.map_nil] at hr
            rw [← x2] at hr
            rw [hXD]; unfold opD; rw [ho]; simp only [xFieldAddr, hu]
            cases hv : evalO fr x <;> rw [hv] at hr <;> first
              | (simp only [semR] at hr; cases hr; done)
              | skip
            rename_i p
            cases p with
            | none => simp only [semR] at hr; cases hr
            | some ad =>
              simp only [semR] at hr
              cases hr
              simp only [hfd, hn]
              rw [if_neg hz]
        · cases h
      · cases h
    · cases h
  case field t x f =>
    split at h
    · rename_i fs a' hu hx
      split at h
      · rename_i fd hfd
        obtain ⟨_, x2⟩ := evalS_ok hf hx
        split at h
        · rename_i n ha hn
          cases h
          intro A v A' hr
          simp only [denL, List.map_cons, List.map_nil] at hr
          rw [← x2] at hr
          rw [hXD]; unfold opD; rw [ho]; simp only [xField, hu]
          cases hv : evalO fr x <;> rw [hv] at hr <;> first
            | (simp only [semR] at hr; cases hr; done)
            | skip
          simp only [semR] at hr
          cases hr
          simp only [hfd, getPart, ha, hn]
        · rename_i ha
          cases h
          intro A v A' hr
          simp only [denL, List.map_cons, List.map_nil] at hr
          rw [← x2] at hr
          rw [hXD]; unfold opD; rw [ho]; simp only [xField, hu]
          cases hv : evalO fr x <;> rw [hv] at hr <;> first
            | (simp only [semR] at hr; cases hr; done)
            | skip
          simp only [semR] at hr
          split at hr
          · rename_i w hw
            cases hr
            simp only [hfd, getPart, ha, hw]
          · cases hr
        · cases h
      · cases h
    · cases h
  case indexAddr t x ix =>
    split at h
    · rename_i e a' i' hu hx hi
      split at h
      · rename_i s hs
        split at h
        · cases h
        · rename_i hz
          cases h
          obtain ⟨_, x2⟩ := evalS_ok hf hx
          obtain ⟨_, i2⟩ := evalS_ok hf hi
          intro A v A' hr
          simp only [denL, List.map_cons, List.map_nil] at hr
          rw [← x2, ← i2] at hr
          rw [hXD]; unfold opD; rw [ho]; simp only [xIndexAddr, hu]
          cases hv : evalO fr x <;> rw [hv] at hr <;> first
            | (simp only [semR] at hr; cases hr; done)
            | skip
          rename_i p len cap
          cases p with
          | none => simp only [semR] at hr; cases hr
          | some ad =>
            cases hw : evalO fr ix <;> rw [hw] at hr <;> first
              | (simp only [semR] at hr; cases hr; done)
              | skip
            simp only [semR] at hr
            split at hr
            · rename_i hc
              cases hr
              simp only [hs]
              rw [if_pos ⟨hc.1, hc.2, hz⟩]
            · cases hr
      · cases h
    · rename_i len e a' i' hu hx hi
      split at h
      · rename_i s hs
        split at h
        · cases h
        · rename_i hz
          cases h
          obtain ⟨_, x2⟩ := evalS_ok hf hx
          obtain ⟨_, i2⟩ := evalS_ok hf hi
          intro A v A' hr
          simp only [denL, List.map_cons, List.map_nil] at hr
          rw [← x2, ← i2] at hr
          rw [hXD]; unfold opD; rw [ho]; simp only [xIndexAddr, hu]
          cases hv : evalO fr x <;> rw [hv] at hr <;> first
            | (simp only [semR] at hr; cases hr; done)
            | skip
          rename_i p
          cases p with
          | none => simp only [semR] at hr; cases hr
          | some ad =>
            cases hw : evalO fr ix <;> rw [hw] at hr <;> first
              | (simp only [semR] at hr; cases hr; done)
              | skip
            simp only [semR] at hr
            split at hr
            · rename_i hc
              cases hr
              simp only [hs]
              rw [if_pos ⟨hc.1, hc.2, hz⟩]
            · cases hr
      · cases h
    · cases h
  case index t x ix =>
    split at h
    · rename_i a' i' hu hx hi
      cases h
      obtain ⟨_, x2⟩ := evalS_ok hf hx
      obtain ⟨_, i2⟩ := evalS_ok hf hi
      intro A v A' hr
      simp only [denL, List.map_cons, List.map_nil] at hr
      rw [← x2, ← i2] at hr
      rw [hXD]; unfold opD; rw [ho]; simp only [xIndex, hu]
      cases hv : evalO fr x <;> rw [hv] at hr <;> first
        | (simp only [semR] at hr; cases hr; done)
        | skip
      cases hw : evalO fr ix <;> rw [hw] at hr <;> first
        | (simp only [semR] at hr; cases hr; done)
        | skip
      simp only [semR] at hr
      split at hr
      · rename_i hc
        simp only [if_pos hc]
        split at hr
        · rename_i b hb
          cases hr
          rw [hb]
        · cases hr
      · cases hr
    · cases h
  case lookup t m ix ok =>
    split at h
    · rename_i kt et a' i' hu hx hi
      split at h
      · rename_i kd z hkd hz
        cases h
        obtain ⟨_, x2⟩ := evalS_ok hf hx
        obtain ⟨_, i2⟩ := evalS_ok hf hi
        intro A v A' hr
        simp only [denL, List.map_cons, List.map_nil] at hr
        rw [← x2, ← i2] at hr
        rw [hXD]; unfold opD; rw [ho]; simp only [xLookup, hu, hkd, hz]
        simp only [semR] at hr
        split at hr
        · rename_i hk
          rw [if_pos hk]
          have fin : ∀ es, (match findE (evalO fr ix) es 0 with
              | some (some (_, v)) => some (if ok then .tuple #[v, .bool true] else v, A)
              | some none => some (if ok then .tuple #[z, .bool false] else z, A)
              | none => none : Option (Value × St)) = some (v, A') → (match findE (evalO fr ix) es 0 with
              | some (some (_, v)) => some (Nx.val (if ok then .tuple #[v, .bool true] else v), A)
              | some none => some (Nx.val (if ok then .tuple #[z, .bool false] else z), A)
              | none => none : Option (Nx × St)) = some (.val v, A') := by
            intro es he
            split at he
            · rename_i i w hfe
              cases he; first | rfl | rw [hfe]
            · rename_i hfe
              cases he; first | rfl | rw [hfe]
            · cases he
          cases hv : evalO fr m <;> rw [hv] at hr <;> first
            | (simp only at hr; cases hr; done)
            | skip
          rename_i r
          cases r with
          | none => exact fin [] hr
          | some r =>
            simp only at hr ⊢
            cases hg : A.h.get r with
            | none => rw [hg] at hr; cases hr
            | some ob =>
              rw [hg] at hr
              cases ob <;> first
                | (simp only at hr; cases hr; done)
                | (rename_i es c; exact fin es hr)
        · cases hr
      · cases h
    · cases h
  case mapUpdate t m k x =>
    split at h
    · rename_i kt et a' k' x' hu hm hk hx
      split at h
      · rename_i kd hkd
        cases h
        obtain ⟨_, m2⟩ := evalS_ok hf hm
        obtain ⟨_, k2⟩ := evalS_ok hf hk
        obtain ⟨_, x2⟩ := evalS_ok hf hx
        intro A v A' hr
        simp only [denL, List.map_cons, List.map_nil] at hr
        rw [← x2, ← m2, ← k2] at hr
        rw [hXD]; unfold opD; rw [ho]; simp only [xMapUpdate, hu]
        cases hv : evalO fr m <;> rw [hv] at hr <;> first
          | (simp only [semR] at hr; cases hr; done)
          | skip
        rename_i r
        cases r with
        | none => simp only [semR] at hr; cases hr
        | some r =>
          simp only [semR] at hr
          simp only [hkd]
          split at hr
          · rename_i es c hg
            rw [hg]; simp only
            split at hr
            · rename_i hko
              rw [if_pos hko]
              split at hr
              · rename_i es' c' hp
                rw [hp]
                cases hr; rfl
              · cases hr
            · cases hr
          · cases hr
      · cases h
    · cases h
  case insert t m k x =>
    split at h
    · rename_i kt et a' k' x' hu hm hk hx
      split at h
      · rename_i kd hkd
        cases h
        obtain ⟨_, m2⟩ := evalS_ok hf hm
        obtain ⟨_, k2⟩ := evalS_ok hf hk
        obtain ⟨_, x2⟩ := evalS_ok hf hx
        intro A v A' hr
        simp only [denL, List.map_cons, List.map_nil] at hr
        rw [← x2, ← m2, ← k2] at hr
        rw [hXD]; unfold opD; rw [ho]; simp only [xMapUpdate, hu]
        cases hv : evalO fr m <;> rw [hv] at hr <;> first
          | (simp only [semR] at hr; cases hr; done)
          | skip
        rename_i r
        cases r with
        | none => simp only [semR] at hr; cases hr
        | some r =>
          simp only [semR] at hr
          simp only [hkd]
          split at hr
          · rename_i es c hg
            rw [hg]; simp only
            split at hr
            · rename_i hko
              rw [if_pos hko]
              split at hr
              · rename_i es' c' hp
                rw [hp]
                cases hr; rfl
              · cases hr
            · cases hr
          · cases hr
      · cases h
    · cases h
  case mapEntry t m k =>
    split at h
    · rename_i kt et a' k' hu hm hk
      split at h
      · rename_i kd z hkd hz
        cases h
        obtain ⟨_, m2⟩ := evalS_ok hf hm
        obtain ⟨_, k2⟩ := evalS_ok hf hk
        intro A v A' hr
        simp only [denL, List.map_cons, List.map_nil] at hr
        rw [← m2, ← k2] at hr
        rw [hXD]; unfold opD; rw [ho]; simp only [xMapEntry, hu]
        cases hv : evalO fr m <;> rw [hv] at hr <;> first
          | (simp only [semR] at hr; cases hr; done)
          | skip
        rename_i r
        cases r with
        | none => simp only [semR] at hr; cases hr
        | some r =>
          simp only [semR] at hr
          simp only [hkd, hz]
          split at hr
          · rename_i es c hg
            rw [hg]; simp only
            split at hr
            · rename_i hko
              rw [if_pos hko]
              split at hr
              · rename_i i w hfe
                rw [hfe]; simp only
                split at hr
                · rename_i e he
                  rw [he]
                  cases hr; rfl
                · cases hr
              · rename_i hfe
                rw [hfe]
                cases hr; rfl
              · cases hr
            · cases hr
          · cases hr
      · cases h
    · cases h
  case entryStore t m s x =>
    split at h
    · rename_i a' b' c' hm hs hx
      cases h
      obtain ⟨_, m2⟩ := evalS_ok hf hm
      obtain ⟨_, s2⟩ := evalS_ok hf hs
      obtain ⟨_, x2⟩ := evalS_ok hf hx
      intro A v A' hr
      simp only [denL, List.map_cons, List.map_nil] at hr
      rw [← m2, ← s2, ← x2] at hr
      rw [hXD]; unfold opD; rw [ho]; simp only [xEntryStore]
      cases hv : evalO fr m <;> rw [hv] at hr <;> first
        | (simp only [semR] at hr; cases hr; done)
        | skip
      rename_i r
      cases r with
      | none => simp only [semR] at hr; cases hr
      | some r =>
        cases hw : evalO fr s <;> rw [hw] at hr <;> first
          | (simp only [semR] at hr; cases hr; done)
          | skip
        simp only [semR] at hr
        split at hr
        · rename_i es c hg
          simp only [hg]
          split at hr
          · rename_i i hi
            rw [hi]
            cases hr; rfl
          · cases hr
        · cases hr
    · cases h
  case range t x =>
    split at h
    · rename_i a' hu hx
      cases h
      obtain ⟨_, x2⟩ := evalS_ok hf hx
      intro A v A' hr
      simp only [denL, List.map_cons, List.map_nil] at hr
      rw [← x2] at hr
      rw [hXD]; unfold opD; rw [ho]; simp only [xRange, hu]
      cases hv : evalO fr x <;> rw [hv] at hr <;> simp only [semR] at hr <;> first
        | (cases hr; done)
        | (cases hr; rfl)
    · rename_i kt et a' hu hx
      cases h
      obtain ⟨_, x2⟩ := evalS_ok hf hx
      intro A v A' hr
      simp only [denL, List.map_cons, List.map_nil] at hr
      rw [← x2] at hr
      rw [hXD]; unfold opD; rw [ho]; simp only [xRange, hu]
      cases hv : evalO fr x <;> rw [hv] at hr <;> first
        | (simp only [semR] at hr; cases hr; done)
        | skip
      rename_i r
      cases r with
      | none => simp only [semR] at hr; cases hr; rfl
      | some r =>
        simp only [semR] at hr
        split at hr
        · rename_i es c hg
          cases hr
          simp only [hg]
          rfl
        · cases hr
    · cases h
  case next it str =>
    split at h
    · rename_i a' hx
      cases h
      obtain ⟨_, x2⟩ := evalS_ok hf hx
      intro A v A' hr
      simp only [denL, List.map_cons, List.map_nil] at hr
      rw [← x2] at hr
      rw [hXD]; unfold opD; rw [ho]; simp only [xNext]
      cases hv : evalO fr it <;> rw [hv] at hr <;> first
        | (cases str <;> simp only [semR] at hr <;> cases hr; done)
        | skip
      rename_i p
      cases p with
      | none => cases str <;> simp only [semR] at hr <;> cases hr
      | some ad =>
        obtain ⟨b, off, spot⟩ := ad
        cases off with
        | succ n => cases str <;> simp only [semR] at hr <;> cases hr
        | zero =>
          cases spot with
          | some s => cases str <;> simp only [semR] at hr <;> cases hr
          | none =>
            cases str with
            | true =>
              simp only [semR] at hr
              split at hr
              · rename_i s pos hg
                simp only [hg]
                split at hr
                · rename_i hc
                  rw [if_pos hc]
                  cases hr; rfl
                · rename_i hc
                  rw [if_neg hc]
                  cases hr; rfl
              · cases hr
            | false =>
              simp only [semR] at hr
              split at hr
              · rename_i hg
                simp only [hg]
                cases hr; rfl
              · rename_i m since seen stepped hg
                simp only [hg]
                split at hr
                · rename_i es c hg2
                  simp only [hg2]
                  split at hr
                  · rename_i hc
                    rw [if_pos hc]
                    split at hr
                    · rename_i hfl
                      rw [hfl]
                      cases hr; rfl
                    · rename_i e hfl
                      rw [hfl]
                      cases hr; rfl
                    · cases hr
                  · cases hr
                · cases hr
              · cases hr
    · cases h
  case typeAssert x xt t ok =>
    split at h
    · cases h
    · rename_i d a' z hn hu hx hz
      cases h
      obtain ⟨_, x2⟩ := evalS_ok hf hx
      intro A v A' hr
      simp only [denL, List.map_cons, List.map_nil] at hr
      rw [← x2] at hr
      rw [hXD]; unfold opD; rw [ho]; simp only [xTypeAssert, hu, hz]
      cases hv : evalO fr x <;> rw [hv] at hr <;> first
        | (simp only [semR] at hr; cases hr; done)
        | skip
      · simp only [semR] at hr
        cases d <;> first
          | exact (hn _ rfl).elim
          | (simp only
             split at hr
             · rename_i hc; rw [if_pos hc]; cases hr; rfl
             · rename_i hc; rw [if_neg hc]
               split at hr
               · rename_i hc2; rw [if_pos hc2]; cases hr; rfl
               · cases hr)
      · simp only [semR] at hr
        cases d <;> first
          | exact (hn _ rfl).elim
          | (simp only
             split at hr
             · rename_i hc; rw [if_pos hc]; cases hr; rfl
             · cases hr)
    · cases h
  case extract t i =>
    split at h
    · rename_i a' hx
      cases h
      obtain ⟨_, x2⟩ := evalS_ok hf hx
      intro A v A' hr
      simp only [denL, List.map_cons, List.map_nil] at hr
      rw [← x2] at hr
      rw [hXD]; unfold opD; rw [ho]; simp only [xExtract]
      cases hv : evalO fr t <;> rw [hv] at hr <;> first
        | (simp only [semR] at hr; cases hr; done)
        | skip
      simp only [semR] at hr
      split at hr
      · rename_i w hw
        cases hr
        simp only [hw]
      · cases hr
    · cases h
  case call c => exact call_ok hf ho hl h
end
end Go.AM.SX
