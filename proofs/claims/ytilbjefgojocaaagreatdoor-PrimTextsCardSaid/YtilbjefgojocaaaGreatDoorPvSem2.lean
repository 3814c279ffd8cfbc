/- What stands for a value: the steps that change nothing, all. -/
import Derived.Test.YtilbjefgojocaaaGreatDoorSxOk2
namespace Go.AM.SX
open Go
theorem tL : ∀ (cs : List Value) (k off : Nat) (a : Array Value), ((cs.zipIdx k).foldl (fun (a : Array Value) (p : Value × Nat) => a.setIfInBounds (off + p.2) p.1) a) = (setFrom a.toList (off + k) cs).toArray
 | [], k, off, a => by simp [setFrom]
 | c :: cs, k, off, a => by
  simp only [List.zipIdx_cons, List.foldl_cons]
  rw [tL cs (k + 1) off]
  simp [setFrom, Nat.add_assoc]
theorem Oq (cs a : Array Value) (off : Nat) : (cs.zipIdx.foldl (fun cs (c, j) => cs.setIfInBounds (off + j) c) a) = (setFrom a.toList off cs.toList).toArray := by
 have := tL cs.toList 0 off a
 rw [<- Array.foldl_toList]
 simpa using this
theorem kq {place : Nat -> Option (Nat × Nat)} : ∀ {is : List Nat} {pl : List (Nat × Nat)} {vs l cs : List Value} (_ : is.map place = pl.map some) (_ : de pl vs l = some cs),
  Instr.fill place l.toArray (is.zip vs) = some cs.toArray
 | [], [], [], l, cs, _, h => by simp only [de, Option.some.injEq] at h; subst h; rfl
 | [], [], v :: vs, l, cs, _, h => by simp [de] at h
 | i :: is, [], vs, l, cs, hp, h => by simp at hp
 | [], p :: pl, vs, l, cs, hp, h => by simp at hp
 | i :: is, p :: pl, [], l, cs, hp, h => by simp [de] at h
 | i :: is, (off, size) :: pl, v :: vs, l, cs, hp, h => by
  simp only [List.map_cons, List.cons.injEq] at hp
  simp only [de] at h
  split at h
  ·rename_i hc
   simp only [List.zip_cons_cons, Instr.fill, hp.1]
   rw [if_neg (by simp; omega)]
   rw [Oq]
   exact kq hp.2 h
  ·cases h
section
variable {E : Env} {σ : Sg} {sf : SF} {fr : Fr} {o : Oper}
theorem tM {pl : List (Nat × Nat)} : ∀ {is : List Nat} {ps : List (Nat × Nat)}, lK pl is = some ps -> is.map (fun i => pl.toArray[i]?) = ps.map some
 | [], ps, h => by cases h; rfl
 | i :: is, ps, h => by
  simp only [lK] at h
  split at h
  ·rename_i p ps' h1 h2
   cases h
   simp only [List.map_cons]
   rw [tM h2]
   simp [h1]
  ·cases h
theorem Ot {α : Type} (parts : List (Nat × α)) (g : α -> Value) : (parts.map (·.1)).zip (parts.map fun p => g p.2) = parts.map fun p => (p.1, g p.2) := by
 induction parts with
 | nil => rfl
 | cons p ps ih => simp [ih]
theorem ni (hf : FrRel σ sf fr) {parts : List (Nat × Operand)} {xs : List X} (h : fG sf (parts.map (·.2)) = some xs) : (parts.map fun p => (p.1, aD fr p.2)) = (parts.map (·.1)).zip (denL σ xs) := by
 have h2 := (lR hf h).2
 rw [<- h2, List.map_map]
 exact (Ot parts (aD fr)).symm
theorem Ou (hf : FrRel σ sf fr) {t : TypeId} {parts : List (Nat × Operand)} {a : Act} (ho : o.op = .build t parts.toArray) (hl : bn E o = true) (h : o6 E sf t parts = some a) : dL E σ fr o a := by
 unfold o6 at h
 split at h
 ·rename_i fs z xs hu hz hx
  split at h
  ·rename_i pl hpl
   split at h
   ·rename_i pl' hnp
    cases h
    intro A v A' hs
    simp only [aB] at hs
    split at hs
    ·rename_i cs hc
     cases hs
     rw [eL hl]
     unfold opD
     rw [ho]
     show eQ E A (aD fr) t parts.toArray = _
     unfold eQ
     rw [hu, hz]
     simp only [hpl]
     rw [ni hf hx]
     have := kq (tM hnp) hc
     rw [show z.cells.toList.toArray = z.cells from rfl] at this
     rw [this]
    ·cases hs
   ·cases h
  ·cases h
 ·rename_i x1 e z xs hu hz hx
  split at h
  ·rename_i s hsz
   cases h
   intro A v A' hs
   simp only [aB] at hs
   split at hs
   ·rename_i cs hc
    cases hs
    rw [eL hl]
    unfold opD
    rw [ho]
    show eQ E A (aD fr) t parts.toArray = _
    unfold eQ
    rw [hu, hz]
    simp only [hsz]
    rw [ni hf hx]
    have := kq (place := fun i => some (i * s, s)) (is := parts.map (·.1)) (by simp) hc
    rw [show z.cells.toList.toArray = z.cells from rfl] at this
    rw [this]
   ·cases hs
  ·cases h
 ·cases h
theorem Ov (hf : FrRel σ sf fr) {t : TypeId} {len : Nat} {parts : List (Nat × Operand)} {a : Act} (ho : o.op = .buildSlice t len parts.toArray) (hl : bn E o = true) (h : o7 E sf t len parts = some a) : dL E σ fr o a := by
 unfold o7 at h
 split at h
 ·rename_i e xs hu hx
  split at h
  ·rename_i s z hsz hz
   split at h
   ·cases h
   ·rename_i hn
    cases h
    intro A v A' hs
    simp only [aB] at hs
    split at hs
    ·rename_i cs hc
     cases hs
     rw [eL hl]
     unfold opD
     rw [ho]
     show _ /\ iR E A (aD fr) t len parts.toArray = _
     unfold iR
     rw [hu]
     simp only [hsz, hz]
     rw [if_neg hn, ni hf hx]
     have := kq (place := fun i => some (i * s, s)) (is := parts.map (·.1)) (by simp) hc
     rw [this]
     exact ⟨⟨_, rfl⟩, rfl⟩
    ·cases hs
  ·cases h
 ·cases h
end
end Go.AM.SX
namespace Go.AM.SX
open Go
section
variable {E : Env} {σ : Sg} {sf : SF} {fr : Fr} {o : Oper}
theorem tN (hf : FrRel σ sf fr) {lo hi mx : Option Operand} {xs : List X} (h : iI sf [lo, hi, mx] = some xs) :
  ∃ l : Option Value, lo.map (aD fr) = l /\ denL σ xs = (lo.map (aD fr)).toList ++ (hi.map (aD fr)).toList ++ (mx.map (aD fr)).toList := by
 refine ⟨_, rfl, ?_⟩
 have key : ∀ {os : List (Option Operand)} {xs : List X}, iI sf os = some xs -> denL σ xs = (os.map fun o => (o.map (aD fr)).toList).flatten := by
  intro os
  induction os with
  | nil => intro xs h; cases h; rfl
  | cons o os ih =>
   intro xs h
   cases o with
   | none => exact ih h
   | some o =>
    simp only [iI] at h
    split at h
    ·rename_i x xs' h1 h2
     cases h
     have := (aH hf h1).2
     simp only [denL, List.map_cons, List.flatten_cons, Option.map_some, Option.toList_some]
     rw [this]
     have := ih h2
     simp only [denL] at this
     rw [this]
     rfl
    ·cases h
 rw [key h]
 simp
theorem Ow (hf : FrRel σ sf fr) {t : TypeId} {x : Operand} {lo hi mx : Option Operand} {a : Act} (ho : o.op = .slice t x lo hi mx) (hl : bn E o = true) (h : o8 E sf t x lo hi mx = some a) : dL E σ fr o a := by
 unfold o8 at h
 split at h
 ·cases h
 rename_i hm
 have hgo : ∀ A v, eP E A t (aD fr x) (lo.map (aD fr)) (hi.map (aD fr)) (mx.map (aD fr)) = some v -> opX E A (aD fr) o = some (.val v, A) := by
  intro A v hs
  rw [eL hl]
  unfold opD
  rw [ho]
  show gN E A (aD fr) t x lo hi mx = _
  unfold gN
  rw [hs]
 have hm' : ¬ ((mx.map (aD fr)).isSome && (hi.map (aD fr)).isNone) = true := by simpa using hm
 split at h
 ·rename_i a' xs hu hx hxs
  cases mx with
  | some m => cases h
  | none =>
   cases h
   intro A v A' hs
   obtain ⟨_, _, hd⟩ := tN hf hxs
   have hx' := (aH hf hx).2
   simp only [denL, List.map_cons] at hs
   have hd' : xs.map (·.den σ) = _ := hd
   rw [hd', <- hx'] at hs
   cases hv : aD fr x with
   | string s =>
    rw [hv] at hs
    have hvals : ∃ r, eP E A t (aD fr x) (lo.map (aD fr)) (hi.map (aD fr)) none = some r /\ some (r, A) = some (v, A') := by
     unfold eP
     rw [if_neg (by simp), hu, hv]
     cases lo <;> cases hi <;>
      simp only [aB, Option.map_none, Option.map_some, Option.toList_none, Option.toList_some, List.nil_append, List.append_nil, List.cons_append, Option.isSome_some, Option.isSome_none, if_true, Bool.false_eq_true, if_false, List.head?_cons, List.tail_cons, List.head?_nil] at hs ⊢ <;>
      (split at hs <;> first
       | (cases hs; done)
       | (split at hs <;> first
         | (cases hs; done)
         | (rename_i h1 _ _ h2; rw [h1]; simp only; rw [h2]; exact ⟨_, rfl, hs⟩)))
    obtain ⟨r, hr, he⟩ := hvals
    cases he
    exact hgo A _ hr
   | _ => rw [hv] at hs; simp [aB] at hs
 ·rename_i e a' xs hu hx hxs
  split at h
  ·rename_i sz hsz
   cases h
   intro A v A' hs
   obtain ⟨_, _, hd⟩ := tN hf hxs
   have hx' := (aH hf hx).2
   simp only [denL, List.map_cons] at hs
   have hd' : xs.map (·.den σ) = _ := hd
   rw [hd', <- hx'] at hs
   have hA : A' = A /\ eP E A t (aD fr x) (lo.map (aD fr)) (hi.map (aD fr)) (mx.map (aD fr)) = some v := by
    unfold eP
    rw [if_neg hm', hu]
    simp only [aB] at hs
    have e1 : (if lo.isSome = true then ((lo.map (aD fr)).toList ++ (hi.map (aD fr)).toList ++ (mx.map (aD fr)).toList).head? else none) = lo.map (aD fr) := by cases lo <;> simp
    have e2 : (if lo.isSome = true then ((lo.map (aD fr)).toList ++ (hi.map (aD fr)).toList ++ (mx.map (aD fr)).toList).tail else ((lo.map (aD fr)).toList ++ (hi.map (aD fr)).toList ++ (mx.map (aD fr)).toList)) = (hi.map (aD fr)).toList ++ (mx.map (aD fr)).toList := by cases lo <;> simp
    have e3 : (if hi.isSome = true then ((hi.map (aD fr)).toList ++ (mx.map (aD fr)).toList).head? else none) = hi.map (aD fr) := by cases hi <;> simp
    have e4 : (if hi.isSome = true then ((hi.map (aD fr)).toList ++ (mx.map (aD fr)).toList).tail else ((hi.map (aD fr)).toList ++ (mx.map (aD fr)).toList)) = (mx.map (aD fr)).toList := by cases hi <;> simp
    have e5 : (if mx.isSome = true then ((mx.map (aD fr)).toList).head? else none) = mx.map (aD fr) := by cases mx <;> simp
    rw [e1, e2, e3, e4, e5] at hs
    cases hv : aD fr x with
    | slice base len cap =>
     rw [hv] at hs
     cases base with
     | none =>
      simp only [hsz] at hs ⊢
      split at hs
      ·rename_i hle
       rw [hle]
       simp only
       split at hs <;> first
        | (cases hs; done)
        | skip
       rename_i m hm1
       rw [hm1]; simp only
       split at hs <;> first
        | (cases hs; done)
        | skip
       rename_i hh hh1
       rw [hh1]; simp only
       split at hs <;> first
        | (cases hs; done)
        | skip
       rename_i l hl1
       rw [hl1]
       cases hs
       exact ⟨rfl, rfl⟩
      ·cases hs
     | some ad =>
      simp only [hsz] at hs ⊢
      split at hs <;> first
       | (cases hs; done)
       | skip
      rename_i r hr
      rw [hr]; simp only
      split at hs <;> first
       | (cases hs; done)
       | skip
      rename_i m hm1
      rw [hm1]; simp only
      split at hs <;> first
       | (cases hs; done)
       | skip
      rename_i hh hh1
      rw [hh1]; simp only
      split at hs <;> first
       | (cases hs; done)
       | skip
      rename_i l hl1
      rw [hl1]; simp only
      split at hs
      ·rename_i ho1
       rw [ho1]; simp only
       split at hs
       ·cases hs
       ·rename_i hc
        rw [if_neg (by simpa using hc)]
        cases hs
        exact ⟨rfl, rfl⟩
      ·rename_i ho1
       rw [ho1]
       cases hs
       exact ⟨rfl, rfl⟩
    | _ => rw [hv] at hs; cases hs
   obtain ⟨rfl, hr⟩ := hA
   exact hgo A' _ hr
  ·cases h
 ·cases h
end
end Go.AM.SX
namespace Go.AM.SX
open Go
section
variable {E : Env} {σ : Sg} {sf : SF} {fr : Fr} {o : Oper}
theorem nj {src dst : TypeId} {x : Operand} {A : St} {ρ : Operand -> Value} {v : Value} (ho : o.op = .convert src dst x) 
  (hp : aL (ρ x) = true) (hv : aL v = true) (hc : aP E.P (convert src dst (ρ x)) = some (.ok v)) : cG E A ρ o = some (.val v, A) := by
 refine iJ (by unfold cg; rw [ho]) (by rw [ho]; show [ρ x].all aL = true; simp [hp]) ?_ hv
 unfold execOp
 rw [ho]
 show aP E.P (convert src dst (ρ x) >>= fun r => (pure (Next.value r) : Sem Next)) = _
 rw [c9 hc]
 rfl
theorem nk (hE : SxEnv E) {src dst : TypeId} {ds dd : TypeDesc} (hs : E.und src = some ds) (hd : E.und dst = some dd) {f : TypeDesc -> TypeDesc -> Sem Value} :
  aP E.P (underlying src >>= fun a => underlying dst >>= fun b => f a b) = aP E.P (f ds dd) := by
 rw [c9 (lS (hE.und _ _ hs)), c9 (lS (hE.und _ _ hd))]
theorem Ox (hE : SxEnv E) (hf : FrRel σ sf fr) {src dst : TypeId} {x : Operand} {a : Act} (ho : o.op = .convert src dst x) (hl : bn E o = true) (h : o9 E sf src dst x = some a) : dL E σ fr o a := by
 have hX : ∀ A, opX E A (aD fr) o = dP E A (aD fr) o src dst x := by
  intro A
  rw [eL hl]
  unfold opD
  rw [ho]
 unfold o9 at h
 split at h
 ·rename_i k0 k a' hs hd hx
  have hx' := (aH hf hx).2
  have main : ∀ A j n, aD fr x = .int j n -> opX E A (aD fr) o = some (.val (.int k (k.wrap n)), A) := by
   intro A j n hv
   rw [hX]
   unfold dP
   rw [hs, hd]
   simp only
   refine nj ho (by rw [hv]; rfl) rfl ?_
   rw [hv]
   show aP E.P (underlying src >>= fun a => underlying dst >>= fun b => _) = _
   rw [nk hE hs hd]
   rfl
  split at h
  ·rename_i j n
   cases h
   exact ⟨cO σ _, fun A => main A j n hx'⟩
  ·cases h
   intro A v A' hr
   simp only [denL, List.map_cons, List.map_nil] at hr
   rw [<- hx'] at hr
   cases hv : aD fr x with
   | int j n =>
    rw [hv] at hr
    simp only [aB, Option.some.injEq, Prod.mk.injEq] at hr
    obtain ⟨rfl, rfl⟩ := hr
    exact main A j n hv
   | _ => rw [hv] at hr; simp [aB] at hr
 ·rename_i k0 a' hs hd hx
  cases h
  have hx' := (aH hf hx).2
  intro A v A' hr
  simp only [denL, List.map_cons, List.map_nil] at hr
  rw [<- hx'] at hr
  cases hv : aD fr x with
  | int j n =>
   rw [hv] at hr
   simp only [aB, Option.some.injEq, Prod.mk.injEq] at hr
   obtain ⟨rfl, rfl⟩ := hr
   rw [hX]
   unfold dP
   rw [hs, hd]
   simp only
   refine nj ho (by rw [hv]; rfl) rfl ?_
   rw [hv]
   show aP E.P (underlying src >>= fun a => underlying dst >>= fun b => _) = _
   rw [nk hE hs hd]
   rfl
  | _ => rw [hv] at hr; simp [aB] at hr
 ·rename_i e a' hs hd hx
  split at h
  ·rename_i he
   cases h
   have hx' := (aH hf hx).2
   intro A v A' hr
   simp only [denL, List.map_cons, List.map_nil] at hr
   rw [<- hx'] at hr
   simp only [aB] at hr
   split at hr
   ·rename_i l hb
    cases hr
    rw [hX]
    unfold dP
    rw [hs, hd]
    simp only [he, hb]
   ·cases hr
  ·cases h
 ·rename_i e a' hs hd hx
  split at h
  ·rename_i he
   cases h
   have hx' := (aH hf hx).2
   intro A v A' hr
   simp only [denL, List.map_cons, List.map_nil] at hr
   rw [<- hx'] at hr
   cases hv : aD fr x with
   | string s =>
    rw [hv] at hr
    simp only [aB, Option.some.injEq, Prod.mk.injEq] at hr
    obtain ⟨rfl, rfl⟩ := hr
    rw [hX]
    unfold dP
    rw [hs, hd, hv]
    simp only [he]
   | _ => rw [hv] at hr; simp [aB] at hr
  ·cases h
 ·rename_i a' hs hd hx
  cases h
  have hx' := (aH hf hx).2
  intro A v A' hr
  simp only [denL, List.map_cons, List.map_nil] at hr
  rw [<- hx'] at hr
  cases hv : aD fr x with
  | string s =>
   rw [hv] at hr
   simp only [aB, Option.some.injEq, Prod.mk.injEq] at hr
   obtain ⟨rfl, rfl⟩ := hr
   rw [hX]
   unfold dP
   rw [hs, hd, hv]
   simp only
   refine nj ho (by rw [hv]; rfl) rfl ?_
   rw [hv]
   show aP E.P (underlying src >>= fun a => underlying dst >>= fun b => _) = _
   rw [nk hE hs hd]
   rfl
  | _ => rw [hv] at hr; simp [aB] at hr
 ·cases h
theorem kr {c : Call} (ho : o.op = .call c) (hl : bn E o = true) (A : St) (ρ : Operand -> Value) : opX E A ρ o = dq E A ρ o c := by
 rw [eL hl]
 unfold opD
 rw [ho]
theorem Oy {c : Call} {b : Builtin} (ho : o.op = .call c) (hl : bn E o = true) (hb : c.callee = .builtin b) (A : St) (ρ : Operand -> Value) : opX E A ρ o = bD E A b c.argTypes.toList o.type (c.args.toList.map ρ) := by
 rw [kr ho hl]
 unfold dq dB
 rw [hb]
 simp [dm]
theorem Oz {b : Builtin} {ts : List TypeId} {xs : List X} {a : Act} (hg : ∀ x, x ∈ xs -> x.good σ) (h : oa E b ts xs = some a) (hX : ∀ A, opX E A (aD fr) o = bD E A b ts o.type (denL σ xs)) : dL E σ fr o a := by
 unfold oa at h
 split at h
 ·-- len
  rename_i t ts' x
  simp only [denL, List.map_cons, List.map_nil] at hX
  split at h
  ·rename_i e hu
   split at h
   ·rename_i aa n
    cases h
    refine ⟨cO σ _, fun A => ?_⟩
    rw [hX]
    obtain ⟨p, hp⟩ := (hg _ (List.mem_singleton.2 rfl)).2
    simp only [bD, cf, bC, hu, X.den, hp, slV]
    rfl
   ·rename_i p n q
    cases h
    refine ⟨cO σ _, fun A => ?_⟩
    rw [hX]
    simp only [bD, cf, bC, hu]
    rfl
   ·cases h
    intro A v A' hr
    simp only [denL, List.map_cons, List.map_nil] at hr
    rw [hX]
    cases hv : x.den σ <;> rw [hv] at hr <;> simp only [aB] at hr <;> first
     | (cases hr; done)
     | (cases hr; simp only [bD, cf, bC, hu])
  ·rename_i hu
   split at h
   ·rename_i s
    cases h
    refine ⟨cO σ _, fun A => ?_⟩
    rw [hX]
    simp only [bD, cf, bC, hu]
    rfl
   ·cases h
    intro A v A' hr
    simp only [denL, List.map_cons, List.map_nil] at hr
    rw [hX]
    cases hv : x.den σ <;> rw [hv] at hr <;> simp only [aB] at hr <;> first
     | (cases hr; done)
     | (cases hr; simp only [bD, cf, bC, hu])
  ·rename_i k v hu
   cases h
   intro A v A' hr
   simp only [denL, List.map_cons, List.map_nil] at hr
   rw [hX]
   cases hv : x.den σ <;> rw [hv] at hr <;> first
    | (simp only [aB] at hr; cases hr; done)
    | skip
   rename_i r
   cases r with
   | none => simp only [aB] at hr; cases hr; simp only [bD, cf, bC, hu]
   | some r =>
    simp only [aB] at hr
    split at hr
    ·rename_i es c hg
     cases hr
     simp only [bD, cf, bC, hu, hg]
    ·cases hr
  ·rename_i n e hu
   cases h
   refine ⟨cO σ _, fun A => ?_⟩
   rw [hX]
   simp only [bD, cf, bC, hu]
   rfl
  ·cases h
 ·-- cap
  rename_i t ts' x
  simp only [denL, List.map_cons, List.map_nil] at hX
  split at h
  ·rename_i e hu
   cases h
   intro A v A' hr
   simp only [denL, List.map_cons, List.map_nil] at hr
   rw [hX]
   cases hv : x.den σ <;> rw [hv] at hr <;> first
    | (simp only [aB] at hr; cases hr; done)
    | skip
   rename_i r l c
   cases r with
   | none => simp only [aB] at hr; cases hr; simp only [bD, gJ, bC, hu]
   | some r =>
    simp only [aB] at hr
    split at hr
    ·rename_i rr hg
     split at hr
     ·cases hr
     ·rename_i hc
      cases hr
      simp only [bD, gJ, bC, hu, hg]
      rw [if_neg hc]
    ·cases hr
  ·cases h
 ·-- append
  rename_i t t1 x y
  simp only [denL, List.map_cons, List.map_nil] at hX
  split at h
  ·rename_i e k1 hu hu1
   split at h
   ·rename_i i z hi hz
    cases h
    intro A v A' hr
    simp only [denL, List.map_cons, List.map_nil] at hr
    rw [hX]
    cases hv : x.den σ <;> rw [hv] at hr <;> first
     | (simp only [aB] at hr; cases hr; done)
     | skip
    rename_i base len cap
    cases hw : y.den σ <;> rw [hw] at hr <;> first
     | (simp only [aB] at hr; cases hr; done)
     | skip
    rename_i k2 n
    simp only [aB] at hr
    simp only [bD, iP]
    unfold app
    simp only [hu, hu1, hi, hz]
    split at hr
    ·rename_i hc0
     have hnew : fO E A (.int k1) e i (.int k2 n) = some (n.toNat, zeros z.cells.toList n.toNat) := by
      unfold fO
      simp only [hz]
      rw [if_pos hc0]
     rw [hnew]
     simp only
     split at hr
     ·rename_i hc
      rw [if_pos hc]
      split at hr
      ·rename_i hle
       rw [if_pos hle, hr]
      ·rename_i hle
       rw [if_neg hle, hr]
     ·cases hr
    ·cases hr
   ·cases h
  ·rename_i e d1 hn hu hu1
   split at h
   ·rename_i i z hi hz
    cases h
    intro A v A' hr
    simp only [denL, List.map_cons, List.map_nil] at hr
    rw [hX]
    cases hv : x.den σ <;> rw [hv] at hr <;> first
     | (simp only [aB] at hr; cases hr; done)
     | skip
    rename_i base len cap
    simp only [aB] at hr
    simp only [bD, iP]
    unfold app
    simp only [hu, hu1, hi, hz]
    have hnew : fO E A d1 e i (y.den σ) = df A i.size (y.den σ) := by
     unfold fO df
     cases d1 <;> first
      | rfl
      | exact (hn _ rfl).elim
    rw [hnew]
    split at hr
    ·rename_i n new hm
     rw [hm]
     simp only
     split at hr
     ·rename_i hc
      rw [if_pos hc]
      split at hr
      ·rename_i hle
       rw [if_pos hle, hr]
      ·rename_i hle
       rw [if_neg hle, hr]
     ·cases hr
    ·cases hr
   ·cases h
  ·cases h
 ·-- copy
  rename_i t ts' x y
  simp only [denL, List.map_cons, List.map_nil] at hX
  split at h
  ·rename_i e hu
   split at h
   ·rename_i sz hsz
    cases h
    intro A v A' hr
    simp only [denL, List.map_cons, List.map_nil] at hr
    rw [hX]
    cases hv : x.den σ <;> rw [hv] at hr <;> first
     | (simp only [aB] at hr; cases hr; done)
     | skip
    rename_i base dl cap
    simp only [aB] at hr
    simp only [bD, je, bC, hu, hsz]
    split at hr <;> first
     | (cases hr; done)
     | skip
    rename_i sl hsl
    rw [hsl]; simp only
    split at hr <;> first
     | (cases hr; done)
     | skip
    rename_i cs hcs
    rw [hcs]; simp only
    cases base with
    | none => cases hr; rfl
    | some ad =>
     simp only at hr ⊢
     split at hr
     ·rename_i hc
      rw [if_pos hc]
      cases hr; rfl
     ·rename_i hc
      rw [if_neg hc]
      split at hr
      ·rename_i A'' hst
       rw [hst]
       cases hr; rfl
      ·cases hr
   ·cases h
  ·cases h
 ·-- delete
  rename_i t ts' x y
  simp only [denL, List.map_cons, List.map_nil] at hX
  split at h
  ·rename_i kt vt hu
   split at h
   ·rename_i kd hkd
    cases h
    intro A v A' hr
    simp only [denL, List.map_cons, List.map_nil] at hr
    rw [hX]
    cases hv : x.den σ <;> rw [hv] at hr <;> first
     | (simp only [aB] at hr; cases hr; done)
     | skip
    rename_i r
    cases r with
    | none => simp only [aB] at hr; cases hr
    | some r =>
     simp only [aB] at hr
     simp only [bD, jf, bC, hu, hkd]
     split at hr <;> first
      | (cases hr; done)
      | skip
     rename_i es c hg
     rw [hg]; simp only
     split at hr <;> first
      | (cases hr; done)
      | skip
     rename_i hk
     rw [if_pos hk]
     split at hr
     ·rename_i i v' hfe
      rw [hfe]
      cases hr; rfl
     ·rename_i hfe
      rw [hfe]
      cases hr; rfl
     ·cases hr
   ·cases h
  ·cases h
 ·-- max
  rename_i x y
  cases h
  intro A v A' hr
  simp only [denL, List.map_cons, List.map_nil] at hr hX
  rw [hX]
  cases hv : x.den σ <;> rw [hv] at hr <;> first
   | (simp only [aB] at hr; cases hr; done)
   | skip
  cases hw : y.den σ <;> rw [hw] at hr <;> first
   | (simp only [aB] at hr; cases hr; done)
   | skip
  simp only [aB] at hr
  cases hr
  rfl
 ·rename_i x y
  cases h
  intro A v A' hr
  simp only [denL, List.map_cons, List.map_nil] at hr hX
  rw [hX]
  cases hv : x.den σ <;> rw [hv] at hr <;> first
   | (simp only [aB] at hr; cases hr; done)
   | skip
  cases hw : y.den σ <;> rw [hw] at hr <;> first
   | (simp only [aB] at hr; cases hr; done)
   | skip
  simp only [aB] at hr
  cases hr
  rfl
 ·cases h
end
end Go.AM.SX
namespace Go.AM.SX
open Go
section
variable {E : Env} {σ : Sg} {sf : SF} {fr : Fr} {o : Oper}
theorem PA (hf : FrRel σ sf fr) {c : Call} {a : Act} (ho : o.op = .call c) (hl : bn E o = true) (h : oc E sf c = some a) : dL E σ fr o a := by
 unfold oc at h
 split at h
 ·cases h
 rename_i xs hxs
 obtain ⟨hgood, hargs⟩ := lR hf hxs
 split at h
 ·rename_i b hb
  refine Oz hgood h fun A => ?_
  rw [Oy ho hl hb, hargs]
 ·rename_i f hc
  split at h
  ·rename_i g cs hg
   obtain ⟨hg1, hg2⟩ := aH hf hg
   have hX : ∀ A, opX E A (aD fr) o = dO E A g (denL σ xs ++ cs.map (·.den σ)) := by
    intro A
    rw [kr ho hl]
    unfold dq dB
    rw [hc]
    simp only [hg2, X.den, dm]
    congr 1
    simp [<- hargs]
   split at h
   ·rename_i fn hfn
    split at h
    ·rename_i body hbody
     cases h
     refine ⟨fun x hx => ?_, fun A => ?_⟩
     ·rcases List.mem_append.1 hx with hx | hx
      ·exact hgood x hx
      ·obtain ⟨at', ha, rfl⟩ := List.mem_map.1 hx
       exact ⟨List.all_eq_true.1 hg1.1 at' ha, trivial⟩
     ·rw [hX]
      unfold dO
      rw [hfn]
      simp only [hbody]
      simp [denL, X.den]
    ·rename_i hbody
     split at h
     ·cases h
      intro A v A' hr
      rw [hX]
      unfold dO
      rw [hfn]
      simp only [hbody, List.map_nil, List.append_nil]
      simp only [aB] at hr
      rw [hr]
     ·cases h
   ·cases h
  ·rename_i k hg
   cases h
   intro A g fs cs hd hb
   obtain ⟨fn, hfn, hbody⟩ := hb
   obtain ⟨_, hg2⟩ := aH hf hg
   rw [kr ho hl]
   unfold dq dB
   rw [hc]
   have : aD fr f = .func (.func g) fs cs := hg2.trans hd
   simp only [this, dm]
   unfold dO
   rw [hfn]
   obtain ⟨body, hbody⟩ := Option.isSome_iff_exists.1 hbody
   simp only [hbody]
   simp [<- hargs]
  ·cases h
 ·rename_i r name hc
  split at h
  ·rename_i x hx
   cases h
   intro A g as hm
   obtain ⟨_, hx2⟩ := aH hf hx
   rw [kr ho hl]
   unfold dq dB
   rw [hc]
   simp only [dm]
   have : (#[aD fr r] ++ c.args.map (aD fr)).toList = aD fr r :: denL σ xs := by simp [<- hargs]
   rw [this, hx2]
   exact hm
  ·cases h
theorem tO : ∀ {xs : List X} {l : List At}, lL xs = some l -> (∀ x, x ∈ xs -> X.good σ x) -> l.all (·.ok σ.length) = true /\ denL σ xs = l.map (·.den σ)
 | [], l, h, _ => by cases h; exact ⟨rfl, rfl⟩
 | x :: xs, l, h, hg => by
  simp only [lL] at h
  split at h
  ·rename_i a l' h1 h2
   cases h
   have : x = .at a := by cases x <;> simp [atomic] at h1; rw [h1]
   subst this
   obtain ⟨i1, i2⟩ := tO h2 (fun y hy => hg y (List.mem_cons_of_mem _ hy))
   refine ⟨?_, ?_⟩
   ·simp only [List.all_cons, i1, Bool.and_true]
    exact (hg _ (List.mem_cons_self ..)).1
   ·simp only [denL, List.map_cons] at i2 ⊢
    rw [i2]
    rfl
  ·cases h
end
end Go.AM.SX
namespace Go.AM.SX
open Go
section
variable {E : Env} {σ : Sg} {sf : SF} {fr : Fr} {o : Oper}
theorem tP (hE : SxEnv E) {op : BinOp} {t u : TypeId} {x y : Operand} {a b : X} {r : X} (ho : o.op = .binOp op t x y u) (hx : aD fr x = a.den σ) (hy : aD fr y = b.den σ) (h : oZ a b op = some r) (A : St) :
  r.good σ /\ cj E A (aD fr) o op t x y = some (.val (r.den σ), A) := by
 unfold oZ at h
 split at h
 ·rename_i v w
  split at h
  ·rename_i v' hb
   split at h
   ·cases h
    refine ⟨cO σ _, ?_⟩
    refine ue hE.sl ho ?_
    rw [hx, hy]
    exact hb
   ·cases h
  ·cases h
 ·cases h
theorem PB (hE : SxEnv E) {op : BinOp} {t u : TypeId} {x y : Operand} {a b : X} {ac : Act} (ho : o.op = .binOp op t x y u) (hl : bn E o = true) (hx : aD fr x = a.den σ) (hy : aD fr y = b.den σ)
  (h : o5 E op t y a b = some ac) : dL E σ fr o ac := by
 have hX : ∀ A, opX E A (aD fr) o = cj E A (aD fr) o op t x y := by
  intro A
  rw [eL hl]
  unfold opD
  rw [ho]
 unfold o5 at h
 split at h
 ·rename_i r hr
  cases h
  refine ⟨(tP (E := E) hE ho hx hy hr { next := 0, h := .nil, g := .nil }).1, fun A => ?_⟩
  rw [hX]
  exact (tP hE ho hx hy hr A).2
 ·split at h
  ·rename_i hc
   rw [Bool.and_eq_true] at hc
   split at h <;> first
    | (cases h; done)
    | (have hd := ‹E.und t = some _›
       cases h
       intro A v A' hr
       simp only [denL, List.map_cons, List.map_nil, aB] at hr
       split at hr
       ·rename_i bb hbb
        cases hr
        rw [hX]
        rw [<- hx, <- hy] at hbb
        have := Q6 (A := A) (ρ := aD fr) hE ho (by first | exact .inl rfl | exact .inr rfl) hc.1 hd hbb
        rw [this]
        cases bb <;> rfl
       ·cases hr)
  ·have binCase : dL E σ fr o (.op (.bin op) [a, b]) := by
    intro A v A' hr
    simp only [denL, List.map_cons, List.map_nil, aB] at hr
    split at hr
    ·rename_i w hw
     cases hr
     rw [hX]
     refine ue hE.sl ho ?_
     rw [hx, hy]
     exact hw
    ·cases hr
   have boolCase : ∀ neg : Bool, (op = if neg then .neq else .eql) -> E.und t = some .bool -> dL E σ fr o (.op (.beq neg) [a, b]) := by
    intro neg hop hd A v A' hr
    simp only [denL, List.map_cons, List.map_nil] at hr
    cases ha : a.den σ <;> rw [ha] at hr <;> first
     | (cases hr; done)
     | skip
    cases hb : b.den σ <;> rw [hb] at hr <;> first
     | (cases hr; done)
     | skip
    cases hr
    rw [hX, Q8 hE ho (by cases neg <;> simp [hop]) hd (hx.trans ha) (hy.trans hb)]
    cases neg <;> simp [hop]
   split at h
   ·cases h
    exact boolCase false rfl ‹E.und t = some .bool›
   ·cases h
    exact boolCase true rfl ‹E.und t = some .bool›
   ·cases h
    exact binCase
theorem np {op : UnOp} {t : TypeId} {x : Operand} {A : St} {v r : Value} (ho : o.op = .unOp op t x) (hl : bn E o = true) (hv : aD fr x = v) (hp : aL v = true) (hpr : aL r = true) (hu : Op.unary op v = pure r) :
  opX E A (aD fr) o = some (.val r, A) := by
 rw [eL hl]
 unfold opD
 rw [ho]
 show cG E A (aD fr) o = _
 refine iJ (by unfold cg; rw [ho]) (by rw [ho]; show [aD fr x].all aL = true; simp [hv, hp]) ?_ hpr
 unfold execOp
 rw [ho]
 show aP E.P (Op.unary op (aD fr x) >>= fun r => (pure (Next.value r) : Sem Next)) = _
 rw [hv, hu]
 rfl
set_option maxHeartbeats 0 in
theorem hU (hE : SxEnv E) (hf : FrRel σ sf fr) {a : Act} (hl : bn E o = true) (h : tr E sf o = some a) : dL E σ fr o a := by
 have hXD : ∀ A, opX E A (aD fr) o = opD E A (aD fr) o := fun A => eL hl
 unfold tr at h
 cases ho : o.op <;> rw [ho] at h <;> simp only at h <;> first
  | (cases h; done)
  | skip
 case move x =>
  cases hx : aQ sf x with
  | none => rw [hx] at h; cases h
  | some y =>
   rw [hx] at h; cases h
   obtain ⟨h1, h2⟩ := aH hf hx
   refine ⟨h1, fun A => ?_⟩
   rw [hXD]; unfold opD; rw [ho]; simp only [h2]
 case assign x =>
  cases hx : aQ sf x with
  | none => rw [hx] at h; cases h
  | some y =>
   rw [hx] at h; cases h
   obtain ⟨h1, h2⟩ := aH hf hx
   refine ⟨h1, fun A => ?_⟩
   rw [hXD]; unfold opD; rw [ho]; simp only [h2]
 case pick c x y =>
  split at h
  ·rename_i t x' y' hc hx hy
   cases h
   obtain ⟨_, c2⟩ := aH hf hc
   obtain ⟨x1, x2⟩ := aH hf hx
   obtain ⟨y1, y2⟩ := aH hf hy
   refine ⟨by cases t <;> assumption, fun A => ?_⟩
   rw [hXD]; unfold opD; rw [ho]; simp only [gL, c2, x2, y2, X.den, At.den]
   cases t <;> rfl
  ·rename_i k x' y' hc hx hy
   cases h
   obtain ⟨_, c2⟩ := aH hf hc
   obtain ⟨x1, x2⟩ := aH hf hx
   obtain ⟨y1, y2⟩ := aH hf hy
   refine ⟨x1, y1, fun A t hk => ?_⟩
   have c3 : aD fr c = .bool t := c2.trans hk
   rw [hXD]; unfold opD; rw [ho]; simp only [gL, c3, x2, y2]
  ·cases h
 case alloc t =>
  split at h
  ·rename_i z hz
   cases h
   intro A v A' hr
   simp only [denL, List.map_nil, aB, Option.some.injEq, Prod.mk.injEq] at hr
   obtain ⟨rfl, rfl⟩ := hr
   rw [hXD]; unfold opD; rw [ho]; simp only [ji, hz]
   rfl
  ·cases h
 case box t x =>
  split at h
  ·rename_i x' hx
   cases h
   intro A v A' hr
   obtain ⟨_, x2⟩ := aH hf hx
   simp only [denL, List.map_cons, List.map_nil, aB, Option.some.injEq, Prod.mk.injEq] at hr
   obtain ⟨rfl, rfl⟩ := hr
   rw [hXD]; unfold opD; rw [ho]; simp only [jj, x2]
   rfl
  ·cases h
 case build t parts => exact Ou hf (parts := parts.toList) ho hl h
 case buildSlice t len parts => exact Ov hf (parts := parts.toList) ho hl h
 case load t x =>
  split at h
  ·rename_i n x' ha hs hx
   cases h
   obtain ⟨_, x2⟩ := aH hf hx
   intro A v A' hr
   simp only [denL, List.map_cons, List.map_nil] at hr
   rw [<- x2] at hr
   rw [hXD]; unfold opD; rw [ho]; simp only [gM]
   cases hv : aD fr x <;> rw [hv] at hr <;> first
    | (simp only [aB] at hr; cases hr; done)
    | skip
   rename_i p
   cases p with
   | none => simp only [aB] at hr; cases hr
   | some ad =>
    simp only [aB] at hr
    simp only [cd, ha, hs]
    split at hr
    ·rename_i vs hvs
     cases hr
     rw [hvs]
    ·cases hr
  ·rename_i x' ha hx
   cases h
   obtain ⟨_, x2⟩ := aH hf hx
   intro A v A' hr
   simp only [denL, List.map_cons, List.map_nil] at hr
   rw [<- x2] at hr
   rw [hXD]; unfold opD; rw [ho]; simp only [gM]
   cases hv : aD fr x <;> rw [hv] at hr <;> first
    | (simp only [aB] at hr; cases hr; done)
    | skip
   rename_i p
   cases p with
   | none => simp only [aB] at hr; cases hr
   | some ad =>
    simp only [aB] at hr
    simp only [cd, ha]
    split at hr
    ·rename_i w hvs
     cases hr
     rw [hvs]
    ·cases hr
  ·cases h
 case store t x y =>
  split at h
  ·rename_i n x' y' hs hx hy
   cases h
   obtain ⟨_, x2⟩ := aH hf hx
   obtain ⟨_, y2⟩ := aH hf hy
   intro A v A' hr
   simp only [denL, List.map_cons, List.map_nil] at hr
   rw [<- x2, <- y2] at hr
   rw [hXD]; unfold opD; rw [ho]; simp only [jk]
   cases hv : aD fr x <;> rw [hv] at hr <;> first
    | (simp only [aB] at hr; cases hr; done)
    | skip
   rename_i p
   cases p with
   | none => simp only [aB] at hr; cases hr
   | some ad =>
    simp only [aB] at hr
    simp only [jd, hs]
    split at hr
    ·rename_i hc
     rw [if_pos hc]
     split at hr
     ·rename_i A'' hst
      cases hr
      rw [hst]
     ·cases hr
    ·cases hr
  ·cases h
 case nilCheck x =>
  split at h
  ·rename_i f cs hx
   cases h
   obtain ⟨x1, x2⟩ := aH hf hx
   refine ⟨x1, fun A => ?_⟩
   rw [hXD]; unfold opD; rw [ho]; simp only [fP, x2, X.den]
  ·rename_i t a' hx
   cases h
   obtain ⟨x1, x2⟩ := aH hf hx
   refine ⟨x1, fun A => ?_⟩
   rw [hXD]; unfold opD; rw [ho]; simp only [fP, x2, X.den]
  ·rename_i x' hx
   cases h
   obtain ⟨_, x2⟩ := aH hf hx
   intro A v A' hr
   simp only [denL, List.map_cons, List.map_nil, aB] at hr
   rw [<- x2] at hr
   rw [hXD]; unfold opD; rw [ho]; simp only [fP]
   cases hv : aD fr x <;> rw [hv] at hr <;> first
    | (cases hr; rfl)
    | (rename_i p; cases p <;> first
      | (cases hr; rfl)
      | (cases hr; done))
    | (rename_i fn f c; cases fn <;> first
      | (cases hr; rfl)
      | (cases hr; done))
    | (cases hr; done)
  ·cases h
 case binOp op t x y u =>
  split at h
  ·rename_i a' b' hx hy
   exact PB hE ho hl (aH hf hx).2 (aH hf hy).2 h
  ·cases h
 case unOp op t x =>
  split at h
  ·rename_i a' hx
   obtain ⟨_, x2⟩ := aH hf hx
   split at h
   ·rename_i b
    cases h
    exact ⟨cO σ _, fun A => np ho hl x2 rfl rfl rfl⟩
   ·cases h
    intro A v A' hr
    simp only [denL, List.map_cons, List.map_nil] at hr
    rw [<- x2] at hr
    cases hv : aD fr x <;> rw [hv] at hr <;> simp only [aB] at hr <;> first
     | (cases hr; done)
     | (cases hr; exact np ho hl hv rfl rfl rfl)
  ·rename_i a' hx
   obtain ⟨_, x2⟩ := aH hf hx
   cases h
   intro A v A' hr
   simp only [denL, List.map_cons, List.map_nil] at hr
   rw [<- x2] at hr
   cases hv : aD fr x <;> rw [hv] at hr <;> simp only [aB] at hr <;> first
    | (cases hr; done)
    | (cases hr; exact np ho hl hv rfl rfl rfl)
  ·cases h
 case convert src dst x => exact Ox hE hf ho hl h
 case makeInterface t x =>
  split at h
  ·cases h
  ·rename_i d a' hn hu hx
   cases h
   obtain ⟨x1, x2⟩ := aH hf hx
   refine ⟨⟨x1.1, trivial⟩, fun A => ?_⟩
   rw [hXD]; unfold opD; rw [ho]; simp only [iS, hu]
   cases d <;> first
    | exact (hn _ rfl).elim
    | (rw [x2]; rfl)
  ·cases h
 case makeFunc fn first captured =>
  cases fn with
  | func f =>
   simp only at h
   split at h
   ·rename_i xs hfst hxs
    split at h
    ·rename_i l hat
     cases h
     obtain ⟨g1, g2⟩ := lR hf hxs
     obtain ⟨k1, k2⟩ := tO hat g1
     refine ⟨⟨k1, trivial⟩, fun A => ?_⟩
     rw [hXD]; unfold opD; rw [ho]; simp only [js, X.den]
     have e1 : first.map (aD fr) = #[] := by
      have : first = #[] := by simpa using hfst
      rw [this]; simp
     have e2 : captured.map (aD fr) = (l.map (·.den σ)).toArray := by
      rw [<- k2, <- g2]
      apply Array.ext'
      simp
     rw [e1, e2]
    ·cases h
   ·cases h
  | _ => simp only at h; cases h
 case makeMap t r =>
  cases r with
  | none =>
   simp only at h
   cases h
   intro A v A' hr
   simp only [denL, List.map_nil, aB, Option.some.injEq, Prod.mk.injEq] at hr
   obtain ⟨rfl, rfl⟩ := hr
   rw [hXD]; unfold opD; rw [ho]; simp only [jl]
   rfl
  | some _ => simp only at h; cases h
 case makeSlice t l c =>
  split at h
  ·rename_i e x' y' hu hx hy
   split at h
   ·rename_i i z hi hz
    split at h
    ·rename_i hc
     cases h
     obtain ⟨_, x2⟩ := aH hf hx
     obtain ⟨_, y2⟩ := aH hf hy
     intro A v A' hr
     simp only [denL, List.map_cons, List.map_nil] at hr
     rw [<- x2, <- y2] at hr
     rw [hXD]; unfold opD; rw [ho]; simp only [jm]
     cases hv : aD fr l <;> rw [hv] at hr <;> first
      | (simp only [aB] at hr; cases hr; done)
      | skip
     cases hw : aD fr c <;> rw [hw] at hr <;> first
      | (simp only [aB] at hr; cases hr; done)
      | skip
     simp only [aB] at hr
     split at hr
     ·rename_i hb
      simp only [Option.some.injEq, Prod.mk.injEq] at hr
      obtain ⟨rfl, rfl⟩ := hr
      rw [hu]
      simp only [hi, hz]
      rw [if_pos ⟨hb.1, hb.2.1, hb.2.2.1, hb.2.2.2, hc.1, hc.2⟩]
      rfl
     ·cases hr
    ·cases h
   ·cases h
  ·cases h
 case slice t x lo hi mx => exact Ow hf ho hl h
 case fieldAddr s x f =>
  split at h
  ·rename_i fs a' hu hx
   split at h
   ·rename_i fd hfd
    split at h
    ·rename_i n hn
     split at h
     ·cases h
     ·rename_i hz
      cases h
      obtain ⟨_, x2⟩ := aH hf hx
      intro A v A' hr
      simp only [denL, List.map_cons, List.map_nil] at hr
      rw [<- x2] at hr
      rw [hXD]; unfold opD; rw [ho]; simp only [iT, hu]
      cases hv : aD fr x <;> rw [hv] at hr <;> first
       | (simp only [aB] at hr; cases hr; done)
       | skip
      rename_i p
      cases p with
      | none => simp only [aB] at hr; cases hr
      | some ad =>
       simp only [aB] at hr
       cases hr
       simp only [hfd, hn]
       rw [if_neg hz]
    ·cases h
   ·cases h
  ·cases h
 case field t x f =>
  split at h
  ·rename_i fs a' hu hx
   split at h
   ·rename_i fd hfd
    obtain ⟨_, x2⟩ := aH hf hx
    split at h
    ·rename_i n ha hn
     cases h
     intro A v A' hr
     simp only [denL, List.map_cons, List.map_nil] at hr
     rw [<- x2] at hr
     rw [hXD]; unfold opD; rw [ho]; simp only [gO, hu]
     cases hv : aD fr x <;> rw [hv] at hr <;> first
      | (simp only [aB] at hr; cases hr; done)
      | skip
     simp only [aB] at hr
     cases hr
     simp only [hfd, gG, ha, hn]
    ·rename_i ha
     cases h
     intro A v A' hr
     simp only [denL, List.map_cons, List.map_nil] at hr
     rw [<- x2] at hr
     rw [hXD]; unfold opD; rw [ho]; simp only [gO, hu]
     cases hv : aD fr x <;> rw [hv] at hr <;> first
      | (simp only [aB] at hr; cases hr; done)
      | skip
     simp only [aB] at hr
     split at hr
     ·rename_i w hw
      cases hr
      simp only [hfd, gG, ha, hw]
     ·cases hr
    ·cases h
   ·cases h
  ·cases h
 case indexAddr t x ix =>
  split at h
  ·rename_i e a' i' hu hx hi
   split at h
   ·rename_i s hs
    split at h
    ·cases h
    ·rename_i hz
     cases h
     obtain ⟨_, x2⟩ := aH hf hx
     obtain ⟨_, i2⟩ := aH hf hi
     intro A v A' hr
     simp only [denL, List.map_cons, List.map_nil] at hr
     rw [<- x2, <- i2] at hr
     rw [hXD]; unfold opD; rw [ho]; simp only [gP, hu]
     cases hv : aD fr x <;> rw [hv] at hr <;> first
      | (simp only [aB] at hr; cases hr; done)
      | skip
     rename_i p len cap
     cases p with
     | none => simp only [aB] at hr; cases hr
     | some ad =>
      cases hw : aD fr ix <;> rw [hw] at hr <;> first
       | (simp only [aB] at hr; cases hr; done)
       | skip
      simp only [aB] at hr
      split at hr
      ·rename_i hc
       cases hr
       simp only [hs]
       rw [if_pos ⟨hc.1, hc.2, hz⟩]
      ·cases hr
   ·cases h
  ·rename_i len e a' i' hu hx hi
   split at h
   ·rename_i s hs
    split at h
    ·cases h
    ·rename_i hz
     cases h
     obtain ⟨_, x2⟩ := aH hf hx
     obtain ⟨_, i2⟩ := aH hf hi
     intro A v A' hr
     simp only [denL, List.map_cons, List.map_nil] at hr
     rw [<- x2, <- i2] at hr
     rw [hXD]; unfold opD; rw [ho]; simp only [gP, hu]
     cases hv : aD fr x <;> rw [hv] at hr <;> first
      | (simp only [aB] at hr; cases hr; done)
      | skip
     rename_i p
     cases p with
     | none => simp only [aB] at hr; cases hr
     | some ad =>
      cases hw : aD fr ix <;> rw [hw] at hr <;> first
       | (simp only [aB] at hr; cases hr; done)
       | skip
      simp only [aB] at hr
      split at hr
      ·rename_i hc
       cases hr
       simp only [hs]
       rw [if_pos ⟨hc.1, hc.2, hz⟩]
      ·cases hr
   ·cases h
  ·cases h
 case index t x ix =>
  split at h
  ·rename_i a' i' hu hx hi
   cases h
   obtain ⟨_, x2⟩ := aH hf hx
   obtain ⟨_, i2⟩ := aH hf hi
   intro A v A' hr
   simp only [denL, List.map_cons, List.map_nil] at hr
   rw [<- x2, <- i2] at hr
   rw [hXD]; unfold opD; rw [ho]; simp only [iU, hu]
   cases hv : aD fr x <;> rw [hv] at hr <;> first
    | (simp only [aB] at hr; cases hr; done)
    | skip
   cases hw : aD fr ix <;> rw [hw] at hr <;> first
    | (simp only [aB] at hr; cases hr; done)
    | skip
   simp only [aB] at hr
   split at hr
   ·rename_i hc
    simp only [if_pos hc]
    split at hr
    ·rename_i b hb
     cases hr
     rw [hb]
    ·cases hr
   ·cases hr
  ·cases h
 case lookup t m ix ok =>
  split at h
  ·rename_i kt et a' i' hu hx hi
   split at h
   ·rename_i kd z hkd hz
    cases h
    obtain ⟨_, x2⟩ := aH hf hx
    obtain ⟨_, i2⟩ := aH hf hi
    intro A v A' hr
    simp only [denL, List.map_cons, List.map_nil] at hr
    rw [<- x2, <- i2] at hr
    rw [hXD]; unfold opD; rw [ho]; simp only [iV, hu, hkd, hz]
    simp only [aB] at hr
    split at hr
    ·rename_i hk
     rw [if_pos hk]
     have fin : ∀ es, (match bO (aD fr ix) es 0 with
       | some (some (_, v)) => some (if ok then .tuple #[v, .bool true] else v, A)
       | some none => some (if ok then .tuple #[z, .bool false] else z, A)
       | none => none : Option (Value × St)) = some (v, A') -> (match bO (aD fr ix) es 0 with
       | some (some (_, v)) => some (Nx.val (if ok then .tuple #[v, .bool true] else v), A)
       | some none => some (Nx.val (if ok then .tuple #[z, .bool false] else z), A)
       | none => none : Option (Nx × St)) = some (.val v, A') := by
      intro es he
      split at he
      ·rename_i i w hfe
       cases he; first | rfl | rw [hfe]
      ·rename_i hfe
       cases he; first | rfl | rw [hfe]
      ·cases he
     cases hv : aD fr m <;> rw [hv] at hr <;> first
      | (simp only at hr; cases hr; done)
      | skip
     rename_i r
     cases r with
     | none => exact fin [] hr
     | some r =>
      simp only at hr ⊢
      cases hg : A.h.get r with
      | none => rw [hg] at hr; cases hr
      | some ob =>
       rw [hg] at hr
       cases ob <;> first
        | (simp only at hr; cases hr; done)
        | (rename_i es c; exact fin es hr)
    ·cases hr
   ·cases h
  ·cases h
 case mapUpdate t m k x =>
  split at h
  ·rename_i kt et a' k' x' hu hm hk hx
   split at h
   ·rename_i kd hkd
    cases h
    obtain ⟨_, m2⟩ := aH hf hm
    obtain ⟨_, k2⟩ := aH hf hk
    obtain ⟨_, x2⟩ := aH hf hx
    intro A v A' hr
    simp only [denL, List.map_cons, List.map_nil] at hr
    rw [<- x2, <- m2, <- k2] at hr
    rw [hXD]; unfold opD; rw [ho]; simp only [iW, hu]
    cases hv : aD fr m <;> rw [hv] at hr <;> first
     | (simp only [aB] at hr; cases hr; done)
     | skip
    rename_i r
    cases r with
    | none => simp only [aB] at hr; cases hr
    | some r =>
     simp only [aB] at hr
     simp only [hkd]
     split at hr
     ·rename_i es c hg
      rw [hg]; simp only
      split at hr
      ·rename_i hko
       rw [if_pos hko]
       split at hr
       ·rename_i es' c' hp
        rw [hp]
        cases hr; rfl
       ·cases hr
      ·cases hr
     ·cases hr
   ·cases h
  ·cases h
 case insert t m k x =>
  split at h
  ·rename_i kt et a' k' x' hu hm hk hx
   split at h
   ·rename_i kd hkd
    cases h
    obtain ⟨_, m2⟩ := aH hf hm
    obtain ⟨_, k2⟩ := aH hf hk
    obtain ⟨_, x2⟩ := aH hf hx
    intro A v A' hr
    simp only [denL, List.map_cons, List.map_nil] at hr
    rw [<- x2, <- m2, <- k2] at hr
    rw [hXD]; unfold opD; rw [ho]; simp only [iW, hu]
    cases hv : aD fr m <;> rw [hv] at hr <;> first
     | (simp only [aB] at hr; cases hr; done)
     | skip
    rename_i r
    cases r with
    | none => simp only [aB] at hr; cases hr
    | some r =>
     simp only [aB] at hr
     simp only [hkd]
     split at hr
     ·rename_i es c hg
      rw [hg]; simp only
      split at hr
      ·rename_i hko
       rw [if_pos hko]
       split at hr
       ·rename_i es' c' hp
        rw [hp]
        cases hr; rfl
       ·cases hr
      ·cases hr
     ·cases hr
   ·cases h
  ·cases h
 case mapEntry t m k =>
  split at h
  ·rename_i kt et a' k' hu hm hk
   split at h
   ·rename_i kd z hkd hz
    cases h
    obtain ⟨_, m2⟩ := aH hf hm
    obtain ⟨_, k2⟩ := aH hf hk
    intro A v A' hr
    simp only [denL, List.map_cons, List.map_nil] at hr
    rw [<- m2, <- k2] at hr
    rw [hXD]; unfold opD; rw [ho]; simp only [jn, hu]
    cases hv : aD fr m <;> rw [hv] at hr <;> first
     | (simp only [aB] at hr; cases hr; done)
     | skip
    rename_i r
    cases r with
    | none => simp only [aB] at hr; cases hr
    | some r =>
     simp only [aB] at hr
     simp only [hkd, hz]
     split at hr
     ·rename_i es c hg
      rw [hg]; simp only
      split at hr
      ·rename_i hko
       rw [if_pos hko]
       split at hr
       ·rename_i i w hfe
        rw [hfe]; simp only
        split at hr
        ·rename_i e he
         rw [he]
         cases hr; rfl
        ·cases hr
       ·rename_i hfe
        rw [hfe]
        cases hr; rfl
       ·cases hr
      ·cases hr
     ·cases hr
   ·cases h
  ·cases h
 case entryStore t m s x =>
  split at h
  ·rename_i a' b' c' hm hs hx
   cases h
   obtain ⟨_, m2⟩ := aH hf hm
   obtain ⟨_, s2⟩ := aH hf hs
   obtain ⟨_, x2⟩ := aH hf hx
   intro A v A' hr
   simp only [denL, List.map_cons, List.map_nil] at hr
   rw [<- m2, <- s2, <- x2] at hr
   rw [hXD]; unfold opD; rw [ho]; simp only [jo]
   cases hv : aD fr m <;> rw [hv] at hr <;> first
    | (simp only [aB] at hr; cases hr; done)
    | skip
   rename_i r
   cases r with
   | none => simp only [aB] at hr; cases hr
   | some r =>
    cases hw : aD fr s <;> rw [hw] at hr <;> first
     | (simp only [aB] at hr; cases hr; done)
     | skip
    simp only [aB] at hr
    split at hr
    ·rename_i es c hg
     simp only [hg]
     split at hr
     ·rename_i i hi
      rw [hi]
      cases hr; rfl
     ·cases hr
    ·cases hr
  ·cases h
 case range t x =>
  split at h
  ·rename_i a' hu hx
   cases h
   obtain ⟨_, x2⟩ := aH hf hx
   intro A v A' hr
   simp only [denL, List.map_cons, List.map_nil] at hr
   rw [<- x2] at hr
   rw [hXD]; unfold opD; rw [ho]; simp only [iX, hu]
   cases hv : aD fr x <;> rw [hv] at hr <;> simp only [aB] at hr <;> first
    | (cases hr; done)
    | (cases hr; rfl)
  ·rename_i kt et a' hu hx
   cases h
   obtain ⟨_, x2⟩ := aH hf hx
   intro A v A' hr
   simp only [denL, List.map_cons, List.map_nil] at hr
   rw [<- x2] at hr
   rw [hXD]; unfold opD; rw [ho]; simp only [iX, hu]
   cases hv : aD fr x <;> rw [hv] at hr <;> first
    | (simp only [aB] at hr; cases hr; done)
    | skip
   rename_i r
   cases r with
   | none => simp only [aB] at hr; cases hr; rfl
   | some r =>
    simp only [aB] at hr
    split at hr
    ·rename_i es c hg
     cases hr
     simp only [hg]
     rfl
    ·cases hr
  ·cases h
 case next it str =>
  split at h
  ·rename_i a' hx
   cases h
   obtain ⟨_, x2⟩ := aH hf hx
   intro A v A' hr
   simp only [denL, List.map_cons, List.map_nil] at hr
   rw [<- x2] at hr
   rw [hXD]; unfold opD; rw [ho]; simp only [jq]
   cases hv : aD fr it <;> rw [hv] at hr <;> first
    | (cases str <;> simp only [aB] at hr <;> cases hr; done)
    | skip
   rename_i p
   cases p with
   | none => cases str <;> simp only [aB] at hr <;> cases hr
   | some ad =>
    obtain ⟨b, off, spot⟩ := ad
    cases off with
    | succ n => cases str <;> simp only [aB] at hr <;> cases hr
    | zero =>
     cases spot with
     | some s => cases str <;> simp only [aB] at hr <;> cases hr
     | none =>
      cases str with
      | true =>
       simp only [aB] at hr
       split at hr
       ·rename_i s pos hg
        simp only [hg]
        split at hr
        ·rename_i hc
         rw [if_pos hc]
         cases hr; rfl
        ·rename_i hc
         rw [if_neg hc]
         cases hr; rfl
       ·cases hr
      | false =>
       simp only [aB] at hr
       split at hr
       ·rename_i hg
        simp only [hg]
        cases hr; rfl
       ·rename_i m since seen stepped hg
        simp only [hg]
        split at hr
        ·rename_i es c hg2
         simp only [hg2]
         split at hr
         ·rename_i hc
          rw [if_pos hc]
          split at hr
          ·rename_i hfl
           rw [hfl]
           cases hr; rfl
          ·rename_i e hfl
           rw [hfl]
           cases hr; rfl
          ·cases hr
         ·cases hr
        ·cases hr
       ·cases hr
  ·cases h
 case typeAssert x xt t ok =>
  split at h
  ·cases h
  ·rename_i d a' z hn hu hx hz
   cases h
   obtain ⟨_, x2⟩ := aH hf hx
   intro A v A' hr
   simp only [denL, List.map_cons, List.map_nil] at hr
   rw [<- x2] at hr
   rw [hXD]; unfold opD; rw [ho]; simp only [iY, hu, hz]
   cases hv : aD fr x <;> rw [hv] at hr <;> first
    | (simp only [aB] at hr; cases hr; done)
    | skip
   ·simp only [aB] at hr
    cases d <;> first
     | exact (hn _ rfl).elim
     | (simp only
        split at hr
        ·rename_i hc; rw [if_pos hc]; cases hr; rfl
        ·rename_i hc; rw [if_neg hc]
         split at hr
         ·rename_i hc2; rw [if_pos hc2]; cases hr; rfl
         ·cases hr)
   ·simp only [aB] at hr
    cases d <;> first
     | exact (hn _ rfl).elim
     | (simp only
        split at hr
        ·rename_i hc; rw [if_pos hc]; cases hr; rfl
        ·cases hr)
  ·cases h
 case extract t i =>
  split at h
  ·rename_i a' hx
   cases h
   obtain ⟨_, x2⟩ := aH hf hx
   intro A v A' hr
   simp only [denL, List.map_cons, List.map_nil] at hr
   rw [<- x2] at hr
   rw [hXD]; unfold opD; rw [ho]; simp only [iZ]
   cases hv : aD fr t <;> rw [hv] at hr <;> first
    | (simp only [aB] at hr; cases hr; done)
    | skip
   simp only [aB] at hr
   split at hr
   ·rename_i w hw
    cases hr
    simp only [hw]
   ·cases hr
  ·cases h
 case call c => exact PA hf ho hl h
end
end Go.AM.SX
namespace Go.AM.SX
open Go
structure Le (r s : Rec) : Prop where
 code : ∀ nt c fr A x, r.code nt c fr A = some x -> s.code nt c fr A = some x
 callR : ∀ f as A x, r.callR f as A = some x -> s.callR f as A = some x
 callD : ∀ f as m A x, r.callD f as m A = some x -> s.callD f as m A = some x
theorem Le.call {r s : Rec} (h : Le r s) {f : FuncId} {as : List Value} {A : St} {x : Value × St} (hx : r.call f as A = some x) : s.call f as A = some x := by
 unfold Rec.call at hx ⊢
 cases hc : r.callR f as A with
 | none => rw [hc] at hx; cases hx
 | some y => rw [hc] at hx; rw [h.callR _ _ _ _ hc]; exact hx
section
variable {E : Env} {r s : Rec}
theorem PC (h : Le r s) {nt : Nat} {fr : Fr} {d : Option Tmp} {f : FuncId} {as : List Value} {A : St} {x : Fr × St} (hx : dR r nt fr d f as A = some x) : dR s nt fr d f as A = some x := by
 unfold dR at hx ⊢
 cases hc : r.call f as A with
 | none => rw [hc] at hx; cases hx
 | some v => rw [hc] at hx; rw [h.call hc]; exact hx
theorem PD (h : Le r s) {nt : Nat} {fr : Fr} {d : Option Tmp} {nx : Nx} {A : St} {x : Fr × St} (hx : bp r nt fr d nx A = some x) : bp s nt fr d nx A = some x := by
 cases nx <;> first
  | exact hx
  | exact PC h hx
theorem nq (h : Le r s) {nt : Nat} {o : Oper} {fr : Fr} {A : St} {x : Fr × St} (hx : bE E r nt o fr A = some x) : bE E s nt o fr A = some x := by
 unfold bE at hx ⊢
 split at hx
 ·cases hx
 ·rename_i nx A1 h1
  exact PD h hx
theorem PF (h : Le r s) {nt : Nat} {o : Oper} {fr : Fr} {A : St} {x : OpR} (hx : opR E r nt o fr A = some x) : opR E s nt o fr A = some x := by
 unfold opR at hx ⊢
 split at hx
 ·cases hx
 ·rename_i nx A1 h1
  split at hx <;> first
   | exact hx
   | skip
  rename_i f as
  cases hc : r.callR f as A1 with
  | none => rw [hc] at hx; cases hx
  | some y => rw [hc] at hx; rw [h.callR _ _ _ _ hc]; exact hx
theorem jN (h : Le r s) {nt : Nat} {ops : Array Oper} : ∀ {os : List Oper} {fr : Fr} {A : St} {x : Out × Fr × St}, bZ E r nt ops os fr A = some x -> bZ E s nt ops os fr A = some x
 | [], _, _, _, hx => hx
 | o :: os, fr, A, x, hx => by
  unfold bZ at hx ⊢
  split at hx
  ·rename_i hg
   rw [if_pos hg]
   cases h1 : opR E r nt o fr A with
   | none => rw [h1] at hx; cases hx
   | some y =>
    rw [h1] at hx
    rw [PF h h1]
    cases y with
    | ok fr1 A1 => exact jN h hx
    | pan ch A1 => exact hx
  ·rename_i hg
   rw [if_neg hg]
   cases h1 : Fr.put nt fr o.dst undef with
   | none => rw [h1] at hx; cases hx
   | some y =>
    rw [h1] at hx
    exact jN h hx
theorem hY (h : Le r s) {nt : Nat} {ops : Array Oper} {befs : List Nat} : ∀ {os : List (Oper × Nat)} {i rid : Nat} {fr : Fr} {A : St} {log : List Ent} {Hs : List (Nat × St)} {ks : List Nat} {x : Fr × St},
  az E r nt ops befs os i rid fr A log Hs ks = some x -> az E s nt ops befs os i rid fr A log Hs ks = some x
 | [], _, _, _, _, _, _, _, _, hx => hx
 | (o, b) :: os, i, rid, fr, A, log, Hs, ks, x, hx => by
  unfold az at hx ⊢
  split at hx
  ·rename_i hg
   rw [if_pos hg]
   split at hx
   ·rename_i hfl
    rw [if_pos hfl]
    split at hx
    ·rename_i v A1 h1
     split at hx
     ·rename_i fr1 h2
      exact hY h hx
     ·cases hx
    ·cases hx
   ·rename_i hfl
    rw [if_neg hfl]
    split at hx
    ·rename_i hal
     rw [if_pos hal]
     split at hx
     ·rename_i v A1 h1
      split at hx
      ·rename_i fr1 h2
       exact hY h hx
      ·cases hx
     ·cases hx
    ·rename_i hal
     rw [if_neg hal]
     cases h1 : bE E r nt o fr A with
     | none => rw [h1] at hx; cases hx
     | some y =>
      rw [h1] at hx
      rw [nq h h1]
      exact hY h hx
  ·rename_i hg
   rw [if_neg hg]
   cases h1 : Fr.put nt fr o.dst undef with
   | none => rw [h1] at hx; cases hx
   | some y =>
    rw [h1] at hx
    exact hY h hx
theorem PG (h : Le r s) {nt : Nat} {ops : Array Oper} {fr : Fr} {A : St} {x : Fr × St} (hx : eT E r nt ops fr A = some x) : eT E s nt ops fr A = some x := by
 unfold eT gS at hx ⊢
 split at hx
 ·rename_i hc
  rw [if_pos hc]
  exact hY h hx
 ·cases hx
theorem PH (h : Le r s) {f : Operand} {fr : Fr} {A : St} {x : Out × Fr × St} (hx : fR E r f fr A = some x) : fR E s f fr A = some x := by
 by_cases hl : dQ E f = true
 ·simp only [fR, if_pos hl] at hx ⊢
  split at hx
  ·cases hx
  ·split at hx
   ·rename_i g as A2 hi
    cases hc : r.call g as A2 with
    | none => rw [hc] at hx; cases hx
    | some y =>
     rw [hc] at hx
     rw [h.call hc]
     exact hx
   ·cases hx
 ·simp only [fR, if_neg hl] at hx
  cases hx
theorem tQ (h : Le r s) {nt : Nat} {b : Code} {z : Out × Fr × St} : ∀ {n : Nat} {x y : Option (Out × Fr × St)}, (∀ q, x = some q -> y = some q) -> b7 r nt b n x = some z -> b7 s nt b n y = some z := by
 intro n
 induction n with
 | zero =>
  intro x y hxy hx
  rcases x with _ | ⟨o, fr, A⟩
  ·cases hx
  ·rw [hxy _ rfl]
   cases o <;> simp only [b7] at hx ⊢ <;> first
    | exact hx
    | (split at hx
       ·rename_i hl; simp only [hl]; exact hx
       ·cases hx)
    | (split at hx
       ·exact hx
       ·cases hx)
 | succ n ih =>
  intro x y hxy hx
  rcases x with _ | ⟨o, fr, A⟩
  ·cases hx
  ·rw [hxy _ rfl]
   cases o <;> simp only [b7] at hx ⊢ <;> first
    | exact hx
    | (split at hx
       ·rename_i hl; simp only [hl]; exact hx
       ·rename_i rest hl
        simp only [hl]
        exact ih (fun q hq => h.code _ _ _ _ _ hq) hx)
    | (split at hx
       ·exact hx
       ·exact ih (fun q hq => h.code _ _ _ _ _ hq) hx)
theorem PI (h : Le r s) {nt : Nat} {c : Code} {fr : Fr} {A : St} {x : Out × Fr × St} (hx : aZ E r nt c fr A = some x) : aZ E s nt c fr A = some x := by
 cases c <;> simp only [aZ] at hx ⊢ <;> first
  | (exfalso; cases hx; done)
  | exact hx
  | exact h.code _ _ _ _ _ hx
  | exact PH h hx
  | skip
 case region i ops draw =>
  cases draw with
  | true =>
   simp only [if_true] at hx ⊢
   cases h1 : eT E r nt ops fr A with
   | none => rw [h1] at hx; cases hx
   | some y => rw [h1] at hx; rw [PG h h1]; exact hx
  | false =>
   simp only [Bool.false_eq_true, if_false] at hx ⊢
   exact jN h hx
 case seq a b =>
  cases h1 : r.code nt a fr A with
  | none => simp only [h1] at hx; cases hx
  | some y =>
   simp only [h1] at hx
   simp only [h.code _ _ _ _ _ h1]
   obtain ⟨o, fr1, A1⟩ := y
   cases o <;> first
    | exact h.code _ _ _ _ _ hx
    | exact hx
 case cond c t e =>
  split at hx
  ·rename_i hc; exact h.code _ _ _ _ _ hx
  ·rename_i hc; exact h.code _ _ _ _ _ hx
  ·cases hx
 case block id b =>
  cases h1 : r.code nt b fr A with
  | none => simp only [h1] at hx; cases hx
  | some y =>
   simp only [h1] at hx
   simp only [h.code _ _ _ _ _ h1]
   exact hx
 case scope b => exact tQ h (fun q hq => h.code _ _ _ _ _ hq) hx
 case loop b =>
  cases h1 : r.code nt b fr A with
  | none => simp only [h1] at hx; cases hx
  | some y =>
   simp only [h1] at hx
   simp only [h.code _ _ _ _ _ h1]
   obtain ⟨o, fr1, A1⟩ := y
   cases o <;> first
    | exact h.code _ _ _ _ _ hx
    | exact hx
theorem nr (h : Le r s) : ∀ {ds : List DI} {m : Mode} {A : St} {x : Mode × St}, leave r ds m A = some x -> leave s ds m A = some x
 | [], _, _, _, hx => hx
 | .mark b :: ds, m, A, x, hx => by
  unfold leave at hx ⊢
  split at hx
  ·exact nr h hx
  ·cases hx
 | .fn g cap args :: ds, m, A, x, hx => by
  unfold leave at hx ⊢
  cases hc : r.callD g (args ++ cap) m A with
  | none => rw [hc] at hx; cases hx
  | some y =>
   rw [hc] at hx
   rw [h.callD _ _ _ _ _ hc]
   exact nr h hx
theorem PJ (h : Le r s) {f : FuncId} {as : List Value} {A : St} {x : Func × Fr × Mode × St} (hx : cR E r f as A = some x) : cR E s f as A = some x := by
 unfold cR at hx ⊢
 split at hx
 ·cases hx
 ·rename_i fn hfn
  split at hx
  ·cases hx
  ·rename_i c hb
   split at hx
   ·rename_i hle
    rw [if_pos hle]
    cases h1 : r.code fn.ntmps c { tm := T.ofList as, marks := [] } A with
    | none => rw [h1] at hx; cases hx
    | some y =>
     rw [h1] at hx
     rw [h.code _ _ _ _ _ h1]
     obtain ⟨out, fr, A1⟩ := y
     simp only at hx ⊢
     cases hm : jw out with
     | none => rw [hm] at hx; cases hx
     | some m =>
      rw [hm] at hx
      simp only at hx ⊢
      cases hl : leave r fr.marks m A1 with
      | none => rw [hl] at hx; cases hx
      | some z => rw [hl] at hx; rw [nr h hl]; exact hx
   ·cases hx
theorem PK (h : Le r s) {f : FuncId} {as : List Value} {A : St} {x : Res × St} (hx : callR E r f as A = some x) : callR E s f as A = some x := by
 unfold callR at hx ⊢
 cases hk : knw E f as with
 | some k => rw [hk] at hx; exact hx
 | none =>
  rw [hk] at hx
  simp only at hx ⊢
  cases hc : cR E r f as A with
  | none => rw [hc] at hx; cases hx
  | some y => rw [hc] at hx; rw [PJ h hc]; exact hx
theorem PL (h : Le r s) {f : FuncId} {as : List Value} {m : Mode} {A : St} {x : Mode × St} (hx : callD E r f as m A = some x) : callD E s f as m A = some x := by
 unfold callD at hx ⊢
 split at hx
 ·cases hx
 split at hx
 case h_2 => cases hx
 split at hx
 case h_2 => cases hx
 rename_i o ho
 split at hx
 case h_2 => cases hx
 rename_i h1 h2
 split at hx
 case isFalse => cases hx
 rename_i hle
 rw [if_pos hle]
 split at hx
 case h_2 => cases hx
 rename_i fr hp
 split at hx
 case h_2 => cases hx
 rename_i hr
 rw [jN h hr]
 simp only
 split at hx
 case h_2 => cases hx
 rename_i hc
 simp only [h.code _ _ _ _ _ hc]
 exact hx
end
theorem tR {f : FuncId} {as : List Value} : ∀ {ks : List Known}, ks.any (fun k => Nat.beq k.f f) = false -> cS f as ks = none
 | [], _ => rfl
 | k :: ks, h => by
  simp only [List.any_cons, Bool.or_eq_false_iff] at h
  simp only [cS]
  rw [h.1]
  exact tR h.2
theorem PM {E : Env} {f : FuncId} {as : List Value} (h : (E.known.any (fun k => Nat.beq k.f f) || E.xf.any (Nat.beq f)) = false) : knw E f as = none := by
 rw [Bool.or_eq_false_iff] at h
 unfold knw
 rw [tR h.1, h.2]
 rfl
theorem tS {E : Env} {f : FuncId} {as : List Value} {k : Known} (h1 : cS f as E.known = none) (h2 : E.xf.any (Nat.beq f) = true) (h3 : E.xt f as = some k) : knw E f as = some k := by
 unfold knw
 rw [h1, h2]
 exact h3
theorem PN {E : Env} {f : FuncId} {as : List Value} {A : St} {k : Known} (hk : knw E f as = some k) (hl : (k.looks.all fun r => Nat.blt r.g E.ng && bQ A r) = true) :
  dJ E f as A (aw A.next 8 k.v) { A with next := A.next + k.cnt, h := dC A.next A.h k.objs } := ⟨1, by
 show Rec.call { code := aZ E (big E 0), callR := callR E (big E 0), callD := callD E (big E 0) } f as A = _
 rw [mL]
 unfold gV
 rw [hk]
 simp only
 rw [if_pos hl]⟩
theorem cK (E : Env) : ∀ {n m : Nat}, n <= m -> Le (big E n) (big E m)
 | 0, _, _ => ⟨fun _ _ _ _ _ h => (by cases h), fun _ _ _ _ h => (by cases h), fun _ _ _ _ _ h => (by cases h)⟩
 | n + 1, 0, h => by omega
 | n + 1, m + 1, h => ⟨fun _ _ _ _ _ hx => PI (cK E (Nat.le_of_succ_le_succ h)) hx, fun _ _ _ _ hx => PK (cK E (Nat.le_of_succ_le_succ h)) hx, fun _ _ _ _ _ hx => PL (cK E (Nat.le_of_succ_le_succ h)) hx⟩
end Go.AM.SX
namespace Go.AM.SX
open Go
def outN : Nat -> Out
 | 0 => .norm
 | 1 => .ret
 | n + 2 => match Nat.blt n gotoB with
  | true => .exit n
  | false => .goto (n - gotoB)
section
variable {E : Env} {cfg : Cfg} {rec_ : SRec} {Q : bW} {σ : Sg} {H : List St} {sf : SF} {fr : Fr} {A : St} {T : N} {nt : Nat} {o : Oper}
def KGood (E : Env) (Q : bW) (σ : Sg) (H : List St) (k : K) (fr : Fr) (A : St) : Prop :=
 ∃ σ' H' sf' T', FrRel (σ ++ σ') sf' fr /\ k sf' (σ ++ σ').length (H ++ H').length = some T' /\ wp E T' (σ ++ σ') (H ++ H') A Q
def XGood (E : Env) (Q : bW) (σ : Sg) (H : List St) (k : KX) (v : Value) (A : St) : Prop :=
 ∃ σ' H' x T', X.good (σ ++ σ') x /\ x.den (σ ++ σ') = v /\ k x (σ ++ σ').length (H ++ H').length = some T' /\ wp E T' (σ ++ σ') (H ++ H') A Q
theorem KGood.here {k : K} (hf : FrRel σ sf fr) (h : k sf σ.length H.length = some T) (hw : wp E T σ H A Q) : KGood E Q σ H k fr A :=
 ⟨[], [], sf, T, by simpa using hf, by simpa using h, by simpa using hw⟩
theorem KGood.more {k : K} {τ : Sg} {I : List St} (h : KGood E Q (σ ++ τ) (H ++ I) k fr A) : KGood E Q σ H k fr A := by
 obtain ⟨σ', H', sf', T', h1, h2, h3⟩ := h
 exact ⟨τ ++ σ', I ++ H', sf', T', by rw [<- List.append_assoc]; exact h1, by rw [<- List.append_assoc, <- List.append_assoc]; exact h2, by rw [<- List.append_assoc, <- List.append_assoc]; exact h3⟩
theorem XGood.here {k : KX} {x : X} (hx : x.good σ) (h : k x σ.length H.length = some T) (hw : wp E T σ H A Q) : XGood E Q σ H k (x.den σ) A :=
 ⟨[], [], x, T, by simpa using hx, by simp, by simpa using h, by simpa using hw⟩
theorem XGood.more {k : KX} {τ : Sg} {I : List St} {v : Value} (h : XGood E Q (σ ++ τ) (H ++ I) k v A) : XGood E Q σ H k v A := by
 obtain ⟨σ', H', sf', T', h1, h1', h2, h3⟩ := h
 exact ⟨τ ++ σ', I ++ H', sf', T', by rw [<- List.append_assoc]; exact h1, by rw [<- List.append_assoc]; exact h1', by rw [<- List.append_assoc, <- List.append_assoc]; exact h2, by rw [<- List.append_assoc, <- List.append_assoc]; exact h3⟩
structure RecOk (E : Env) (rec_ : SRec) : Prop where
 code : ∀ {f nt : Nat} {c : Code} {sf : SF} {fr : Fr} {σ : Sg} {H : List St} {A : St} {T : N} {Q : bW} {k : KO}, FrRel σ sf fr -> rec_.code f nt c sf σ.length H.length k = some T -> wp E T σ H A Q ->
  ∃ n o fr' A', (big E n).code nt c fr A = some (outN o, fr', A') /\ fr'.marks = fr.marks /\ KGood E Q σ H (k o) fr' A'
 call : ∀ {f : Nat} {args : List X} {σ : Sg} {H : List St} {A : St} {T : N} {Q : bW} {k : KX}, (∀ x, x ∈ args -> X.good σ x) -> rec_.call f args σ.length H.length k = some T -> wp E T σ H A Q ->
  ∃ n v A', (big E n).call f (denL σ args) A = some (v, A') /\ XGood E Q σ H k v A'
def nu (r : Rec) (nx : Nx) (A : St) : Option (Value × St) :=
 match nx with
 | .val v => some (v, A)
 | .skip => some (undef, A)
 | .enter f as => r.call f as A
 | _ => none
theorem PO {r : Rec} {nx : Nx} {d : Option Tmp} {v : Value} {A' : St} (h : nu r nx A = some (v, A')) : bp r nt fr d nx A = cH nt fr d v A' := by
 cases nx <;> simp only [nu] at h <;> first
  | (cases h; done)
  | (cases h; rfl)
  | (simp only [bp, dR, h])
theorem fk {r : R} {args : List X} {n : Option N} (h : nOp r args n = some T) : ∃ n', n = some n' /\ T = .op r args n' := by
 cases n with
 | none => cases h
 | some n => cases h; exact ⟨_, rfl, rfl⟩
theorem PP {f : Nat} {args : List X} {n : Option N} (h : u0 f args n = some T) : ∃ n', n = some n' /\ T = .call f args n' := by
 cases n with
 | none => cases h
 | some n => cases h; exact ⟨_, rfl, rfl⟩
theorem PQ {f : X} {args : List X} {n : Option N} (h : u3 f args n = some T) : ∃ n', n = some n' /\ T = .callv f args n' := by
 cases n with
 | none => cases h
 | some n => cases h; exact ⟨_, rfl, rfl⟩
theorem PS {x : X} {name : String} {args : List X} {n : Option N} (h : u4 x name args n = some T) : ∃ n', n = some n' /\ T = .callm x name args n' := by
 cases n with
 | none => cases h
 | some n => cases h; exact ⟨_, rfl, rfl⟩
theorem tT {b off : Nat} {r : R} {args : List X} {n : Option N} (h : oe b off r args n = some T) : ∃ n', n = some n' /\ T = .opAt b off r args n' := by
 cases n with
 | none => cases h
 | some n => cases h; exact ⟨_, rfl, rfl⟩
theorem tU {n : Option N} (h : lM n = some T) : ∃ n', n = some n' /\ T = .save n' := by
 cases n with
 | none => cases h
 | some n => cases h; exact ⟨_, rfl, rfl⟩
theorem PT {m : Nat} {n : Option N} (h : u5 m n = some T) : ∃ n', n = some n' /\ T = .bump m n' := by
 cases n with
 | none => cases h
 | some n => cases h; exact ⟨_, rfl, rfl⟩
theorem fo {j : Nat} {a b : Option N} (h : fH j a b = some T) : ∃ a' b', a = some a' /\ b = some b' /\ T = .br (vn j) a' b' := by
 cases a with
 | none => cases h
 | some a => cases b with
  | none => cases h
  | some b => cases h; exact ⟨_, _, rfl, rfl, rfl⟩
theorem XGood.one {k : KX} {v : Value} {x : X} (hx : x.good (σ ++ [v])) {u : Value} (hu : x.den (σ ++ [v]) = u) (h : k x (σ.length + 1) H.length = some T) (hw : wp E T (σ ++ [v]) H A Q) : XGood E Q σ H k u A :=
 ⟨[v], [], x, T, hx, hu, by simpa using h, by simpa using hw⟩
theorem bU (σ : Sg) (v : Value) : (vn σ.length).good (σ ++ [v]) /\ (vn σ.length).den (σ ++ [v]) = v := ⟨lQ (by simp), fK σ v⟩
theorem PU (hR : RecOk E rec_) {a : Act} {k : KX} (ha : dL E σ fr o a) (h : lN cfg rec_ a σ.length H.length k = some T) (hw : wp E T σ H A Q) :
  ∃ n v A' nx A1, opX E A (aD fr) o = some (nx, A1) /\ nu (big E n) nx A1 = some (v, A') /\ XGood E Q σ H k v A' := by
 cases a with
 | st x => exact ⟨0, _, A, _, _, ha.2 A, rfl, .here ha.1 h hw⟩
 | op r args =>
  obtain ⟨T', h1, rfl⟩ := fk h
  obtain ⟨v, A', hs, hw'⟩ := hw
  exact ⟨0, v, A', _, _, ha A v A' hs, rfl, .one (bU σ v).1 (bU σ v).2 h1 hw'⟩
 | opSl r args len =>
  obtain ⟨T', h1, rfl⟩ := fk h
  obtain ⟨v, A', hs, hw'⟩ := hw
  obtain ⟨⟨p, hp⟩, h2⟩ := ha A v A' hs
  refine ⟨0, slV v len, A', _, _, h2, rfl, .one (x := .sl (.n σ.length) len) ⟨oz (by simp), ⟨p, ?_⟩⟩ ?_ h1 hw'⟩
  ·rw [<- hp]; exact fK σ v
  ·show slV (look _ _) len = _
   rw [fK]
 | eff r args =>
  obtain ⟨T', h1, rfl⟩ := fk h
  obtain ⟨v, A', hs, hw'⟩ := hw
  exact ⟨0, undef, A', _, _, ha A v A' hs, rfl, .one (cO _ _) rfl h1 hw'⟩
 | call f args =>
  simp only [lN] at h
  split at h
  ·obtain ⟨n, v, A', hc, hx⟩ := hR.call ha.1 h hw
   exact ⟨n, v, A', _, _, ha.2 A, hc, hx⟩
  ·obtain ⟨T', h1, rfl⟩ := PP h
   obtain ⟨v, A', ⟨n, hc⟩, hw'⟩ := hw
   exact ⟨n, v, A', _, _, ha.2 A, hc, .one (bU σ v).1 (bU σ v).2 h1 hw'⟩
 | callv f args =>
  obtain ⟨T', h1, rfl⟩ := PQ h
  obtain ⟨g, fs, cs, v, A', hd, hb, ⟨n, hc⟩, hw'⟩ := hw
  exact ⟨n, v, A', _, _, ha A g fs cs hd hb, hc, .one (bU σ v).1 (bU σ v).2 h1 hw'⟩
 | callm x name args =>
  obtain ⟨T', h1, rfl⟩ := PS h
  obtain ⟨g, as, v, A', hm, ⟨n, hc⟩, hw'⟩ := hw
  exact ⟨n, v, A', _, _, ha A g as hm, hc, .one (bU σ v).1 (bU σ v).2 h1 hw'⟩
 | pick j a b => cases h
theorem hZ (hf : FrRel σ sf fr) {d : Option Tmp} {x : X} (hx : x.good σ) {sf1 : SF} (h : od nt sf d x = some sf1) : ∃ fr', Fr.put nt fr d (x.den σ) = some fr' /\ fr'.marks = fr.marks /\ FrRel σ sf1 fr' := by
 cases d with
 | none => cases h; exact ⟨fr, rfl, rfl, hf⟩
 | some d =>
  simp only [od] at h
  split at h
  ·rename_i hlt
   cases h
   refine ⟨{ fr with tm := fr.tm.set d (x.den σ) }, ?_, rfl, hf.put hx⟩
   simp only [Fr.put, hlt]
  ·cases h
theorem tW (hf : FrRel σ sf fr) {d : Option Tmp} {k : K} {v : Value} (h : XGood E Q σ H (aq nt sf d k) v A) : ∃ fr', Fr.put nt fr d v = some fr' /\ fr'.marks = fr.marks /\ KGood E Q σ H k fr' A := by
 obtain ⟨σ', H', x, T', h1, h2, h3, h4⟩ := h
 simp only [aq] at h3
 split at h3
 ·rename_i sf1 hs
  obtain ⟨fr', p1, p2, p3⟩ := hZ (hf.append σ') h1 hs
  rw [h2] at p1
  exact ⟨fr', p1, p2, σ', H', sf1, T', p3, h3, h4⟩
 ·cases h3
theorem nz (hf : FrRel σ sf fr) {d : Option Tmp} {k : K} {x : X} (hx : x.good σ) (h : aq nt sf d k x σ.length H.length = some T) (hw : wp E T σ H A Q) : ∃ fr', Fr.put nt fr d (x.den σ) = some fr' /\ fr'.marks = fr.marks /\ KGood E Q σ H k fr' A :=
 tW hf (.here hx h hw)
theorem tX (hE : SxEnv E) (hR : RecOk E rec_) (hf : FrRel σ sf fr) {k : K} (h : fI E cfg rec_ nt o sf σ.length H.length k = some T) (hw : wp E T σ H A Q) :
  ∃ n fr' A', bE E (big E n) nt o fr A = some (fr', A') /\ fr'.marks = fr.marks /\ KGood E Q σ H k fr' A' := by
 unfold fI at h
 split at h
 ·rename_i hl
  cases ht : tr E sf o with
  | none =>
   rw [ht] at h
   dsimp only at h
   split at h
   ·cases h
    exact hw.elim
   ·cases h
  | some act =>
   rw [ht] at h
   have hact := hU hE hf hl ht
   by_cases hp : ∃ j a b, act = .pick j a b
   ·obtain ⟨j, a, b, rfl⟩ := hp
    obtain ⟨ga, gb, hpick⟩ := hact
    obtain ⟨ta, tb, h1, h2, rfl⟩ := fo h
    obtain ⟨t, hj, hwt, hwf⟩ := hw
    have hj' : look σ j = .bool t := hj
    have hX := hpick A t hj'
    cases t with
    | true =>
     obtain ⟨fr', p1, p2, p3⟩ := nz (hf.learn hj') (X.learn_ok ga) h1 (hwt rfl)
     rw [X.learn_den hj'] at p1
     refine ⟨0, fr', A, ?_, p2, p3⟩
     unfold bE
     rw [hX]
     simp only [bp, cH, if_true]
     rw [p1]
    | false =>
     obtain ⟨fr', p1, p2, p3⟩ := nz (hf.learn hj') (X.learn_ok gb) h2 (hwf rfl)
     rw [X.learn_den hj'] at p1
     refine ⟨0, fr', A, ?_, p2, p3⟩
     unfold bE
     rw [hX]
     simp only [bp, cH, Bool.false_eq_true, if_false]
     rw [p1]
   ·have h' : lN cfg rec_ act σ.length H.length (aq nt sf o.dst k) = some T := by
     cases act <;> first
      | exact h
      | exact absurd ⟨_, _, _, rfl⟩ hp
    obtain ⟨n, v, A', nx, A1, e1, e2, e3⟩ := PU hR hact h' hw
    obtain ⟨fr', p1, p2, p3⟩ := tW hf e3
    refine ⟨n, fr', A', ?_, p2, p3⟩
    unfold bE
    rw [e1]
    simp only
    rw [PO e2]
    simp only [cH, p1]
 ·cases h
theorem tY {ops : Array Oper} (hf : FrRel σ sf fr) (h : gd ops o sf = .yes) : ay ops o fr = true := by
 unfold gd at h
 unfold ay
 split at h
 ·rename_i hg; rw [hg]
 ·rename_i j want hg
  rw [hg]
  simp only
  cases hd : (ops[j]?).bind (·.dst) with
  | none => rw [hd] at h; cases h
  | some d =>
   rw [hd] at h
   simp only [Option.bind_some] at h ⊢
   split at h
   ·rename_i b hb
    obtain ⟨_, h2⟩ := hf _ _ hb
    rw [h2]
    simp only [X.den, At.den]
    split at h
    ·assumption
    ·cases h
   ·cases h
   ·cases h
   ·cases h
theorem tZ {ops : Array Oper} (hf : FrRel σ sf fr) (h : gd ops o sf = .no) : ay ops o fr = false := by
 unfold gd at h
 unfold ay
 split at h
 ·cases h
 ·rename_i j want hg
  rw [hg]
  simp only
  cases hd : (ops[j]?).bind (·.dst) with
  | none => rw [hd] at h; cases h
  | some d =>
   rw [hd] at h
   simp only [Option.bind_some] at h ⊢
   split at h
   ·rename_i b hb
    obtain ⟨_, h2⟩ := hf _ _ hb
    rw [h2]
    simp only [X.den, At.den]
    split at h
    ·cases h
    ·rename_i hc; simpa using hc
   ·rename_i v hn hv
    obtain ⟨_, h2⟩ := hf _ _ hv
    rw [h2]
    simp only [X.den, At.den]
    cases v <;> first
     | rfl
     | exact (hn _ rfl).elim
   ·cases h
   ·cases h
theorem fA {ops : Array Oper} (hf : FrRel σ sf fr) {k : Nat} {want t : Bool} (h : gd ops o sf = .sym k want) (hk : look σ k = .bool t) : ay ops o fr = (t == want) := by
 unfold gd at h
 unfold ay
 split at h
 ·cases h
 ·rename_i j w hg
  rw [hg]
  simp only
  cases hd : (ops[j]?).bind (·.dst) with
  | none => rw [hd] at h; cases h
  | some d =>
   rw [hd] at h
   simp only [Option.bind_some] at h ⊢
   split at h
   ·split at h <;> cases h
   ·cases h
   ·rename_i j' hv
    cases h
    obtain ⟨_, h2⟩ := hf _ _ hv
    rw [h2]
    simp only [X.den, At.den, hk]
   ·cases h
theorem PW {r : Rec} {x : Fr × St} (h : bE E r nt o fr A = some x) : ck E r nt o fr A = some x := by
 unfold ck
 rw [h]
theorem oA (hE : SxEnv E) (hR : RecOk E rec_) {ops : Array Oper} {k : K} : ∀ {os : List Oper} {σ : Sg} {H : List St} {sf : SF} {fr : Fr} {A : St} {T : N}, FrRel σ sf fr -> dK E cfg rec_ nt ops os sf σ.length H.length k = some T -> wp E T σ H A Q ->
  ∃ n fr' A', bZ E (big E n) nt ops os fr A = some (.norm, fr', A') /\ fr'.marks = fr.marks /\ KGood E Q σ H k fr' A'
 | [], σ, H, sf, fr, A, T, hf, h, hw => ⟨0, fr, A, rfl, rfl, .here hf h hw⟩
 | o :: os, σ, H, sf, fr, A, T, hf, h, hw => by
  have step : ∀ {sf : SF} {T : N}, FrRel σ sf fr -> ay ops o fr = true -> fI E cfg rec_ nt o sf σ.length H.length (fun sf nv nh => dK E cfg rec_ nt ops os sf nv nh k) = some T -> wp E T σ H A Q ->
    ∃ n fr' A', bZ E (big E n) nt ops (o :: os) fr A = some (.norm, fr', A') /\ fr'.marks = fr.marks /\ KGood E Q σ H k fr' A' := by
   intro sf T hf hg h hw
   obtain ⟨n, fr1, A1, d1, d2, ⟨σ', H', sf', T', g1, g2, g3⟩⟩ := tX hE hR hf h hw
   obtain ⟨m, fr2, A2, e1, e2, e3⟩ := oA hE hR g1 g2 g3
   refine ⟨max n m, fr2, A2, ?_, e2.trans d2, e3.more⟩
   unfold bZ
   rw [if_pos hg, vu (PW (nq (cK E (Nat.le_max_left n m)) d1))]
   exact jN (cK E (Nat.le_max_right n m)) e1
  have skip : ∀ {sf : SF} {T : N}, FrRel σ sf fr -> ay ops o fr = false -> aq nt sf o.dst (fun sf nv nh => dK E cfg rec_ nt ops os sf nv nh k) (vv undef) σ.length H.length = some T -> wp E T σ H A Q ->
    ∃ n fr' A', bZ E (big E n) nt ops (o :: os) fr A = some (.norm, fr', A') /\ fr'.marks = fr.marks /\ KGood E Q σ H k fr' A' := by
   intro sf T hf hg h hw
   obtain ⟨fr1, d1, d2, ⟨σ', H', sf', T', g1, g2, g3⟩⟩ := nz hf (cO σ undef) h hw
   obtain ⟨m, fr2, A2, e1, e2, e3⟩ := oA hE hR g1 g2 g3
   refine ⟨m, fr2, A2, ?_, e2.trans d2, e3.more⟩
   have d1' : Fr.put nt fr o.dst undef = some fr1 := d1
   unfold bZ
   rw [if_neg (by rw [hg]; decide), d1']
   exact e1
  unfold dK at h
  split at h
  ·rename_i hg
   exact step hf (tY hf hg) h hw
  ·rename_i hg
   exact skip hf (tZ hf hg) h hw
  ·rename_i j hg
   obtain ⟨ta, tb, h1, h2, rfl⟩ := fo h
   obtain ⟨t, hj, hwt, hwf⟩ := hw
   have hj' : look σ j = .bool t := hj
   cases t with
   | true => exact step (hf.learn hj') (fA hf hg hj') h1 (hwt rfl)
   | false => exact skip (hf.learn hj') (fA hf hg hj') h2 (hwf rfl)
  ·rename_i j hg
   obtain ⟨ta, tb, h1, h2, rfl⟩ := fo h
   obtain ⟨t, hj, hwt, hwf⟩ := hw
   have hj' : look σ j = .bool t := hj
   cases t with
   | true => exact skip (hf.learn hj') (fA hf hg hj') h1 (hwt rfl)
   | false => exact step (hf.learn hj') (fA hf hg hj') h2 (hwf rfl)
  ·cases h
end
end Go.AM.SX
namespace Go.AM.SX
open Go
section
variable {E : Env} {cfg : Cfg} {rec_ : SRec} {Q : bW} {nt : Nat}
inductive F2 {α β : Type} (P : α -> β -> Prop) : List α -> List β -> Prop where
 | nil : F2 P [] []
 | cons {a : α} {b : β} {l : List α} {m : List β} : P a b -> F2 P l m -> F2 P (a :: l) (b :: m)
structure EntRel (E : Env) (σ : Sg) (se : SEnt) (e : Ent) : Prop where
 kind : se.kind = e.kind
 bef : se.bef = e.bef
 val : se.kind = 1 -> e.v = se.x.den σ /\ se.x.ok σ.length = true
 known : se.kind = 1 -> se.r = none -> ∀ A, opX E A (aD e.fr) e.o = some (.val e.v, A)
 asked : se.kind = 1 -> ∀ r args, se.r = some (r, args) -> args.all (·.ok σ.length) = true /\ ∀ B v A', aB r (denL σ args) B = some (v, A') -> opX E B (aD e.fr) e.o = some (.val v, A')
theorem EntRel.append {σ : Sg} {se : SEnt} {e : Ent} (h : EntRel E σ se e) (τ : Sg) : EntRel E (σ ++ τ) se e where
 kind := h.kind
 bef := h.bef
 val := fun hk => ⟨by rw [X.den_append τ (h.val hk).2]; exact (h.val hk).1, X.ok_mono (by simp) (h.val hk).2⟩
 known := h.known
 asked := fun hk r args hr => by
  obtain ⟨h1, h2⟩ := h.asked hk r args hr
  have h1' := List.all_eq_true.1 h1
  refine ⟨List.all_eq_true.2 fun x hx => X.ok_mono (by simp) (h1' x hx), fun B v A' hs => ?_⟩
  rw [fL τ h1'] at hs
  exact h2 B v A' hs
def LogRel (E : Env) (σ : Sg) (sl : List SEnt) (l : List Ent) : Prop := F2 (EntRel E σ) sl l
def HsRel (H : List St) (sl : List (Nat × Nat)) (l : List (Nat × St)) : Prop := F2 (fun p q => p.1 = q.1 /\ H[p.2]? = some q.2) sl l
theorem oB {α β : Type} {P R : α -> β -> Prop} (h : ∀ a b, P a b -> R a b) : ∀ {l : List α} {m : List β}, F2 P l m -> F2 R l m
 | _, _, .nil => .nil
 | _, _, .cons a b => .cons (h _ _ a) (oB h b)
theorem LogRel.append {σ : Sg} {sl : List SEnt} {l : List Ent} (h : LogRel E σ sl l) (τ : Sg) : LogRel E (σ ++ τ) sl l := oB (fun _ _ h => h.append τ) h
theorem HsRel.append {H : List St} {sl : List (Nat × Nat)} {l : List (Nat × St)} (h : HsRel H sl l) (I : List St) : HsRel (H ++ I) sl l :=
 oB (fun p q ⟨h1, h2⟩ => ⟨h1, by
  have hlt := (List.getElem?_eq_some_iff.1 h2).1
  rw [List.getElem?_append_left hlt]; exact h2⟩) h
theorem td {α β : Type} {P : α -> β -> Prop} : ∀ {l l' : List α} {m m' : List β}, F2 P l m -> F2 P l' m' -> F2 P (l ++ l') (m ++ m')
 | _, _, _, _, .nil, h => h
 | _, _, _, _, .cons a b, h => .cons a (td b h)
theorem oC {α β : Type} {P : α -> β -> Prop} : ∀ {l : List α} {m : List β}, F2 P l m -> F2 P l.reverse m.reverse
 | _, _, .nil => .nil
 | _, _, .cons a b => by
  simp only [List.reverse_cons]
  exact td (oC b) (.cons a .nil)
theorem ku {σ : Sg} {H : List St} {A : St} {se : SEnt} {e : Ent} (he : EntRel E σ se e) (hk : se.kind = 1) {i : Nat} {befs ks : List Nat} {n : Option N} : ∀ {sHs : List (Nat × Nat)} {Hs : List (Nat × St)} {T : N}, HsRel H sHs Hs ->
  jY se i befs ks sHs n = some T -> wp E T σ H A Q -> (Hs.all fun p => !allowed i e.bef befs ks p.1 || sameAt E e p.2) = true /\ ∃ T', n = some T' /\ wp E T' σ H A Q
 | _, _, T, .nil, h, hw => ⟨rfl, T, h, hw⟩
 | (k, hh) :: sHs, (k', B) :: Hs, T, .cons ⟨h1, h2⟩ hr, h, hw => by
  have h1' : k = k' := h1
  subst h1'
  simp only [jY] at h
  simp only [List.all_cons, Bool.and_eq_true]
  rw [<- he.bef]
  split at h
  ·rename_i hal
   rw [hal]
   simp only [Bool.not_true, Bool.false_or]
   split at h
   ·rename_i r args n' hr' hn
    cases h
    obtain ⟨⟨B', v, A', b1, b2, b3⟩, hw'⟩ := hw
    have hB : B' = B := by
     have h2' : H[hh]? = some B := h2
     rw [h2'] at b1; cases b1; rfl
    subst hB
    obtain ⟨i1, i2⟩ := ku he hk hr hn hw'
    rw [<- he.bef] at i1
    refine ⟨⟨?_, i1⟩, i2⟩
    unfold sameAt
    rw [(he.asked hk r args hr').2 B' v A' b2]
    simp only
    rw [(he.val hk).1]
    exact b3
   ·rename_i n' hr' hn
    cases h
    obtain ⟨b3, hw'⟩ := hw
    obtain ⟨i1, i2⟩ := ku he hk hr hn hw'
    rw [<- he.bef] at i1
    refine ⟨⟨?_, i1⟩, i2⟩
    unfold sameAt
    rw [he.known hk hr' B]
    simp only
    rw [(he.val hk).1]
    exact b3
   ·cases h
  ·rename_i hal
   obtain ⟨i1, i2⟩ := ku he hk hr h hw
   rw [<- he.bef] at i1
   refine ⟨⟨?_, i1⟩, i2⟩
   have : allowed i se.bef befs ks k = false := by simpa using hal
   rw [this]
   rfl
theorem oD {σ : Sg} {H : List St} {A : St} {befs ks : List Nat} {sHs : List (Nat × Nat)} {Hs : List (Nat × St)} (hH : HsRel H sHs Hs) {n : Option N} : ∀ {sl : List SEnt} {l : List Ent} {i : Nat} {T : N}, LogRel E σ sl l ->
  jZ befs ks sHs sl i n = some T -> wp E T σ H A Q -> dr E befs ks Hs l i = true /\ ∃ T', n = some T' /\ wp E T' σ H A Q
 | _, _, i, T, .nil, h, hw => ⟨rfl, T, h, hw⟩
 | se :: sl, e :: l, i, T, .cons he hr, h, hw => by
  simp only [jZ] at h
  simp only [dr, Bool.and_eq_true]
  split at h
  ·rename_i hk
   obtain ⟨a1, T1, a2, a3⟩ := ku he hk hH h hw
   obtain ⟨b1, b2⟩ := oD hH hr a2 a3
   refine ⟨⟨?_, b1⟩, b2⟩
   unfold fQ
   rw [show e.kind = 1 from he.kind.symm.trans hk]
   exact a1
  ·rename_i hk
   obtain ⟨b1, b2⟩ := oD hH hr h hw
   refine ⟨⟨?_, b1⟩, b2⟩
   unfold fQ
   split
   ·rename_i hk'; exact absurd (he.kind.trans hk') (by simpa using hk)
   ·rfl
theorem oE {σ : Sg} {H : List St} {A : St} {befs ks : List Nat} {n : Option N} : ∀ {sl : List SEnt} {l : List Ent} {i : Nat} {T : N}, LogRel E σ sl l -> (∀ e, e ∈ l -> e.kind = 1 -> ∃ A', opX E A (aD e.fr) e.o = some (.val e.v, A')) ->
  j0 sl n = some T -> wp E T σ H A Q -> dr E befs ks [(0, A)] l i = true /\ ∃ T', n = some T' /\ wp E T' σ H A Q
 | _, _, i, T, .nil, _, h, hw => ⟨rfl, T, h, hw⟩
 | se :: sl, e :: l, i, T, .cons he hr, hl, h, hw => by
  simp only [j0] at h
  simp only [dr, Bool.and_eq_true]
  split at h
  ·rename_i hk
   split at h
   ·rename_i T1 h1
    cases h
    obtain ⟨b3, hw'⟩ := hw
    obtain ⟨b1, b2⟩ := oE hr (fun e' he' => hl e' (List.mem_cons_of_mem _ he')) h1 hw'
    refine ⟨⟨?_, b1⟩, b2⟩
    unfold fQ
    rw [show e.kind = 1 from he.kind.symm.trans hk]
    obtain ⟨A', hx⟩ := hl e (by simp) (he.kind.symm.trans hk)
    simp only [List.all_cons, List.all_nil, Bool.and_true]
    have : sameAt E e A = true := by
     unfold sameAt
     rw [hx]
     simp only
     rw [(he.val hk).1]
     exact b3
    rw [this]; simp
   ·cases h
  ·rename_i hk
   obtain ⟨b1, b2⟩ := oE hr (fun e' he' => hl e' (List.mem_cons_of_mem _ he')) h hw
   refine ⟨⟨?_, b1⟩, b2⟩
   unfold fQ
   split
   ·rename_i hk'; exact absurd (he.kind.trans hk') (by simpa using hk)
   ·rfl
theorem PX (hE : SxEnv E) {o : Oper} {bf : Nat} {σ : Sg} {H : List St} {sf : SF} {fr : Fr} {A : St} {T : N} {k : SF -> Nat -> Nat -> SEnt -> Option N} (hfl : bq E o = true) (hf : FrRel σ sf fr) (h : lO E nt o bf sf σ.length H.length k = some T) (hw : wp E T σ H A Q) :
  ∃ v fr' τ sf' se T', opX E A (aD fr) o = some (.val v, A) /\ Fr.put nt fr o.dst v = some fr' /\ fr'.marks = fr.marks /\ FrRel (σ ++ τ) sf' fr' /\ EntRel E (σ ++ τ) se { o, fr, v, kind := 1, bef := bf } /\ k sf' (σ ++ τ).length H.length se = some T' /\ wp E T' (σ ++ τ) H A Q := by
 have known : ∀ {x : X} {sf0 : SF} {T : N}, FrRel σ sf0 fr -> x.good σ -> (∀ B, opX E B (aD fr) o = some (.val (x.den σ), B)) -> aq nt sf0 o.dst (fun sf nv nh => k sf nv nh { kind := 1, r := none, x, bef := bf }) x σ.length H.length = some T -> wp E T σ H A Q ->
   ∃ v fr' τ sf' se T', opX E A (aD fr) o = some (.val v, A) /\ Fr.put nt fr o.dst v = some fr' /\ fr'.marks = fr.marks /\ FrRel (σ ++ τ) sf' fr' /\ EntRel E (σ ++ τ) se { o, fr, v, kind := 1, bef := bf } /\ k sf' (σ ++ τ).length H.length se = some T' /\ wp E T' (σ ++ τ) H A Q := by
  intro x sf0 T hf hx hX h hw
  simp only [aq] at h
  split at h
  ·rename_i sf1 hs
   obtain ⟨fr', p1, p2, p3⟩ := hZ hf hx hs
   refine ⟨_, fr', [], sf1, _, T, hX A, p1, p2, by simpa using p3, ?_, by simpa using h, by simpa using hw⟩
   exact { kind := rfl, bef := rfl, val := fun _ => ⟨by simp, by simpa using hx.1⟩, known := fun _ _ => hX, asked := fun _ r args hr => by cases hr }
  ·cases h
 unfold lO at h
 split at h
 ·rename_i hl
  split at h
  ·rename_i x ht
   have ha := hU hE hf hl ht
   exact known hf ha.1 ha.2 h hw
  ·rename_i r args ht
   have ha := hU hE hf hl ht
   split at h
   ·rename_i hargs
    obtain ⟨T1, h1, rfl⟩ := fk h
    obtain ⟨v, A', hs, hw'⟩ := hw
    have hX := ha A v A' hs
    have hA : A' = A := pW hfl hX
    subst hA
    simp only [aq] at h1
    split at h1
    ·rename_i sf1 hsf
     obtain ⟨fr', p1, p2, p3⟩ := hZ (hf.append [v]) (bU σ v).1 hsf
     rw [(bU σ v).2] at p1
     refine ⟨v, fr', [v], sf1, _, T1, hX, p1, p2, p3, ?_, by simpa using h1, hw'⟩
     have hargs' := List.all_eq_true.1 hargs
     refine { kind := rfl, bef := rfl, val := fun _ => ⟨(bU σ v).2.symm, (bU σ v).1.1⟩, known := fun _ hr => (by cases hr), asked := ?_ }
     intro _ r' args' hr
     cases hr
     refine ⟨List.all_eq_true.2 fun x hx => X.ok_mono (by simp) (hargs' x hx), fun B u B' hb => ?_⟩
     rw [fL [v] hargs'] at hb
     exact ha B u B' hb
    ·cases h1
   ·cases h
  ·rename_i j a b ht
   obtain ⟨ga, gb, hpick⟩ := hU hE hf hl ht
   obtain ⟨ta, tb, h1, h2, rfl⟩ := fo h
   obtain ⟨t, hj, hwt, hwf⟩ := hw
   have hj' : look σ j = .bool t := hj
   cases t with
   | true => exact known (hf.learn hj') (X.learn_ok ga) (fun B => by rw [X.learn_den hj']; exact hpick B true hj') h1 (hwt rfl)
   | false => exact known (hf.learn hj') (X.learn_ok gb) (fun B => by rw [X.learn_den hj']; exact hpick B false hj') h2 (hwf rfl)
  ·cases h
 ·cases h
theorem PY (hE : SxEnv E) {o : Oper} {bf b i base : Nat} {σ : Sg} {H : List St} {sf : SF} {fr : Fr} {A : St} {T : N} {k : SF -> Nat -> Nat -> SEnt -> Option N} (hb : look σ b = goInt base) (hf : FrRel σ sf fr) (h : lP E nt b i o bf sf σ.length H.length k = some T) (hw : wp E T σ H A Q) :
  ∃ v A1 fr' τ sf' se T', opX E { A with next := base + i } (aD fr) o = some (.val v, A1) /\ Fr.put nt fr o.dst v = some fr' /\ fr'.marks = fr.marks /\ FrRel (σ ++ τ) sf' fr' /\ EntRel E (σ ++ τ) se { o, fr, v, kind := 3, bef := bf } /\ k sf' (σ ++ τ).length H.length se = some T' /\ wp E T' (σ ++ τ) H { A1 with next := A.next } Q := by
 have hbase : cN (look σ b) = base := by rw [hb]; rfl
 have ent : ∀ (τ : Sg) (v : Value), EntRel E τ { kind := 3, r := none, x := vv undef, bef := bf } { o, fr, v, kind := 3, bef := bf } := fun τ v =>
  { kind := rfl, bef := rfl, val := fun hk => (by cases hk), known := fun hk => (by cases hk), asked := fun hk => (by cases hk) }
 unfold lP at h
 split at h
 ·rename_i hl
  split at h
  ·rename_i r args ht
   have ha := hU hE hf hl ht
   obtain ⟨T1, h1, rfl⟩ := tT h
   obtain ⟨v, A', hs, hw'⟩ := hw
   rw [hbase] at hs
   simp only [aq] at h1
   split at h1
   ·rename_i sf1 hsf
    obtain ⟨fr', p1, p2, p3⟩ := hZ (hf.append [v]) (bU σ v).1 hsf
    rw [(bU σ v).2] at p1
    exact ⟨v, A', fr', [v], sf1, _, T1, ha _ v A' hs, p1, p2, p3, ent _ v, by simpa using h1, hw'⟩
   ·cases h1
  ·rename_i r args len ht
   have ha := hU hE hf hl ht
   obtain ⟨T1, h1, rfl⟩ := tT h
   obtain ⟨v, A', hs, hw'⟩ := hw
   rw [hbase] at hs
   obtain ⟨⟨p, hp⟩, hX⟩ := ha _ v A' hs
   simp only [aq] at h1
   split at h1
   ·rename_i sf1 hsf
    have hg : X.good (σ ++ [v]) (.sl (.n σ.length) len) := ⟨oz (by simp), ⟨p, by rw [<- hp]; exact fK σ v⟩⟩
    obtain ⟨fr', p1, p2, p3⟩ := hZ (hf.append [v]) hg hsf
    have hd : X.den (σ ++ [v]) (.sl (.n σ.length) len) = slV v len := by
     show slV (look _ _) len = _
     rw [fK]
    rw [hd] at p1
    exact ⟨slV v len, A', fr', [v], sf1, _, T1, hX, p1, p2, p3, ent _ _, by simpa using h1, hw'⟩
   ·cases h1
  ·cases h
 ·cases h
theorem jO (hE : SxEnv E) (hR : RecOk E rec_) {ops : Array Oper} {befs : List Nat} {b base : Nat} {k : K} : ∀ {os : List (Oper × Nat)} {i : Nat} {σ : Sg} {H : List St} {sf : SF} {fr : Fr} {A : St} {slog : List SEnt} {log : List Ent} {sHs : List (Nat × Nat)} {Hs : List (Nat × St)} {ks : List Nat} {T : N},
  b < σ.length -> look σ b = goInt base -> FrRel σ sf fr -> LogRel E σ slog log -> HsRel H sHs Hs -> 0 < sHs.length -> (calm sHs slog = true -> Hs = [(0, A)] /\ ∀ e, e ∈ log -> e.kind = 1 -> ∃ A', opX E A (aD e.fr) e.o = some (.val e.v, A')) -> cw E cfg rec_ nt ops befs b os i sf σ.length H.length slog sHs ks k = some T -> wp E T σ H A Q ->
  ∃ n fr' A', az E (big E n) nt ops befs os i (base + i) fr A log Hs ks = some (fr', A') /\ fr'.marks = fr.marks /\ KGood E Q σ H k fr' A'
 | [], i, σ, H, sf, fr, A, slog, log, sHs, Hs, ks, T, hb, hbase, hf, hlog, hHs, hne, hcalm, h, hw => by
  simp only [cw] at h
  split at h
  ·rename_i hc
   obtain ⟨rfl, hall⟩ := hcalm hc
   obtain ⟨c1, T', c2, c3⟩ := oE (befs := befs) (ks := ks) (i := 0) (oC hlog) (fun e he => hall e (by simpa using he)) h hw
   refine ⟨0, fr, A, ?_, rfl, .here hf c2 c3⟩
   unfold az
   rw [if_pos c1]
  ·obtain ⟨c1, T', c2, c3⟩ := oD hHs (oC hlog) h hw
   refine ⟨0, fr, A, ?_, rfl, .here hf c2 c3⟩
   unfold az
   rw [if_pos c1]
 | (o, bf) :: os, i, σ, H, sf, fr, A, slog, log, sHs, Hs, ks, T, hb, hbase, hf, hlog, hHs, hne, hcalm, h, hw => by
  have calmOf : ∀ {e : SEnt}, calm sHs (e :: slog) = true -> calm sHs slog = true := by
   intro e he
   simp only [calm, List.all_cons, Bool.and_eq_true] at he ⊢
   exact ⟨he.1, he.2.2⟩
  have fin : ∀ {σ' : Sg} {H' : List St} {n : Nat} {fr1 fr' : Fr} {A' : St} {x : Option (Fr × St)}, fr1.marks = fr.marks -> x = some (fr', A') -> fr'.marks = fr1.marks -> KGood E Q (σ ++ σ') (H ++ H') k fr' A' ->
    (x = some (fr', A') -> az E (big E n) nt ops befs ((o, bf) :: os) i (base + i) fr A log Hs ks = some (fr', A')) ->
    ∃ n fr' A', az E (big E n) nt ops befs ((o, bf) :: os) i (base + i) fr A log Hs ks = some (fr', A') /\ fr'.marks = fr.marks /\ KGood E Q σ H k fr' A' :=
   fun h1 hx h2 hg hd => ⟨_, _, _, hd hx, h2.trans h1, hg.more⟩
  have no : ∀ {sf : SF} {T : N}, FrRel σ sf fr -> ay ops o fr = false -> aq nt sf o.dst (fun sf nv nh => cw E cfg rec_ nt ops befs b os (i + 1) sf nv nh ({ kind := 0, r := none, x := vv undef, bef := bf } :: slog) sHs ks k) (vv undef) σ.length H.length = some T -> wp E T σ H A Q ->
    ∃ n fr' A', az E (big E n) nt ops befs ((o, bf) :: os) i (base + i) fr A log Hs ks = some (fr', A') /\ fr'.marks = fr.marks /\ KGood E Q σ H k fr' A' := by
   intro sf T hf hg h hw
   simp only [aq] at h
   split at h
   ·rename_i sf1 hs
    obtain ⟨fr1, p1, p2, p3⟩ := hZ hf (cO σ undef) hs
    have p1' : Fr.put nt fr o.dst undef = some fr1 := p1
    obtain ⟨n, fr', A', e1, e2, e3⟩ := jO hE hR hb hbase p3 (log := { o, fr, v := undef, kind := 0, bef := bf } :: log) (.cons { kind := rfl, bef := rfl, val := fun hk => (by cases hk), known := fun hk => (by cases hk), asked := fun hk => (by cases hk) } hlog) hHs hne (fun hc => by
      obtain ⟨g1, g2⟩ := hcalm (calmOf hc)
      refine ⟨g1, fun e he hk => ?_⟩
      rcases List.mem_cons.1 he with rfl | he
      ·cases hk
      ·exact g2 e he hk) h hw
    refine ⟨n, fr', A', ?_, e2.trans p2, e3⟩
    unfold az
    rw [if_neg (by rw [hg]; decide), p1']
    exact e1
   ·cases h
  have yes : ∀ {sf : SF} {T : N}, FrRel σ sf fr -> ay ops o fr = true -> (if bq E o then lO E nt o bf sf σ.length H.length fun sf nv nh e => cw E cfg rec_ nt ops befs b os (i + 1) sf nv nh (e :: slog) sHs ks k
   else if bJ o then lP E nt b i o bf sf σ.length H.length fun sf nv nh e => cw E cfg rec_ nt ops befs b os (i + 1) sf nv nh (e :: slog) sHs ks k
   else fI E cfg rec_ nt o sf σ.length H.length fun sf nv nh => lM (cw E cfg rec_ nt ops befs b os (i + 1) sf nv (nh + 1) ({ kind := 2, r := none, x := vv undef, bef := bf } :: slog) ((i + 1, nh) :: sHs) (i :: ks) k)) = some T -> wp E T σ H A Q ->
    ∃ n fr' A', az E (big E n) nt ops befs ((o, bf) :: os) i (base + i) fr A log Hs ks = some (fr', A') /\ fr'.marks = fr.marks /\ KGood E Q σ H k fr' A' := by
   intro sf T hf hg h hw
   split at h
   ·rename_i hfl
    obtain ⟨v, fr1, τ, sf', se, T', d1, d2, d3, d4, d5, d6, d7⟩ := PX hE hfl hf h hw
    obtain ⟨n, fr', A', e1, e2, e3⟩ := jO hE hR (Nat.lt_of_lt_of_le hb (by simp)) ((di σ τ hb).trans hbase) d4 (.cons d5 (hlog.append τ)) hHs hne (fun hc => by
      obtain ⟨g1, g2⟩ := hcalm (calmOf hc)
      refine ⟨g1, fun e he hk => ?_⟩
      rcases List.mem_cons.1 he with rfl | he
      ·exact ⟨A, d1⟩
      ·exact g2 e he hk) d6 d7
    refine ⟨n, fr', A', ?_, e2.trans d3, KGood.more (I := []) (by simpa using e3)⟩
    unfold az
    rw [if_pos hg, if_pos hfl, d1]
    simp only [d2]
    exact e1
   ·rename_i hfl
    split at h
    ·rename_i hal
     obtain ⟨v, A1, fr1, τ, sf', se, T', d1, d2, d3, d4, d5, d6, d7⟩ := PY hE hbase hf h hw
     obtain ⟨n, fr', A', e1, e2, e3⟩ := jO hE hR (Nat.lt_of_lt_of_le hb (by simp)) ((di σ τ hb).trans hbase) d4 (.cons d5 (hlog.append τ)) hHs hne (fun hc => by
       simp only [calm, List.all_cons, Bool.and_eq_true] at hc
       have hk : se.kind = 3 := d5.kind
       rw [hk] at hc
       have := hc.2.1
       simp at this) d6 d7
     refine ⟨n, fr', A', ?_, e2.trans d3, KGood.more (I := []) (by simpa using e3)⟩
     unfold az
     rw [if_pos hg, if_neg hfl, if_pos hal, d1]
     simp only [d2]
     exact e1
    ·rename_i hal
     obtain ⟨n, fr1, A1, d1, d2, ⟨σ', H', sf', T', g1, g2, g3⟩⟩ := tX hE hR hf h hw
     obtain ⟨T2, g4, rfl⟩ := tU g2
     have g3' : wp E T2 (σ ++ σ') ((H ++ H') ++ [A1]) A1 Q := g3
     have hH2 : HsRel ((H ++ H') ++ [A1]) ((i + 1, (H ++ H').length) :: sHs) ((i + 1, A1) :: Hs) := .cons ⟨rfl, by simp⟩ ((hHs.append H').append [A1])
     have hL2 : LogRel E (σ ++ σ') ({ kind := 2, r := none, x := vv undef, bef := bf } :: slog) ({ o, fr, v := mI fr1 o.dst, kind := 2, bef := bf } :: log) :=
      .cons { kind := rfl, bef := rfl, val := fun hk => (by cases hk), known := fun hk => (by cases hk), asked := fun hk => (by cases hk) } (hlog.append σ')
     obtain ⟨m, fr', A', e1, e2, e3⟩ := jO (H := (H ++ H') ++ [A1]) hE hR (Nat.lt_of_lt_of_le hb (by simp)) ((di σ σ' hb).trans hbase) g1 hL2 hH2 (by simp) (fun hc => by
       simp only [calm, Bool.and_eq_true] at hc
       have h1 := Nat.eq_of_beq_eq_true hc.1
       simp only [List.length_cons] at h1
       omega) (by simpa [Nat.add_assoc] using g4) g3'
     refine ⟨max n m, fr', A', ?_, e2.trans d2, KGood.more (I := H' ++ [A1]) (by simpa using e3)⟩
     unfold az
     rw [if_pos hg, if_neg hfl, if_neg hal, nq (cK E (Nat.le_max_left n m)) d1]
     exact hY (cK E (Nat.le_max_right n m)) e1
  simp only [cw] at h
  split at h
  ·rename_i hg
   exact yes hf (tY hf hg) h hw
  ·rename_i hg
   exact no hf (tZ hf hg) h hw
  ·rename_i j hg
   obtain ⟨ta, tb, h1, h2, rfl⟩ := fo h
   obtain ⟨t, hj, hwt, hwf⟩ := hw
   have hj' : look σ j = .bool t := hj
   cases t with
   | true => exact yes (hf.learn hj') (fA hf hg hj') h1 (hwt rfl)
   | false => exact no (hf.learn hj') (fA hf hg hj') h2 (hwf rfl)
  ·rename_i j hg
   obtain ⟨ta, tb, h1, h2, rfl⟩ := fo h
   obtain ⟨t, hj, hwt, hwf⟩ := hw
   have hj' : look σ j = .bool t := hj
   cases t with
   | true => exact no (hf.learn hj') (fA hf hg hj') h1 (hwt rfl)
   | false => exact yes (hf.learn hj') (fA hf hg hj') h2 (hwf rfl)
  ·cases h
theorem PZ (hE : SxEnv E) (hR : RecOk E rec_) {ops : Array Oper} {k : K} {σ : Sg} {H : List St} {sf : SF} {fr : Fr} {A : St} {T : N} (hf : FrRel σ sf fr) (h : og E cfg rec_ nt ops sf σ.length H.length k = some T) (hw : wp E T σ H A Q) :
  ∃ n fr' A', gS E (big E n) nt ops fr A = some (fr', A') /\ fr'.marks = fr.marks /\ KGood E Q σ H k fr' A' := by
 unfold og at h
 split at h
 ·rename_i hreg
  obtain ⟨T1, h1, rfl⟩ := PT h
  obtain ⟨T2, h2, rfl⟩ := tU h1
  have hw' : wp E T2 (σ ++ [goInt A.next]) (H ++ [{ A with next := A.next + ops.size }]) { A with next := A.next + ops.size } Q := hw
  obtain ⟨n, fr', A', e1, e2, e3⟩ := jO (b := σ.length) (base := A.next) (σ := σ ++ [goInt A.next]) (H := H ++ [{ A with next := A.next + ops.size }]) (sHs := [(0, H.length)]) (Hs := [(0, { A with next := A.next + ops.size })]) (log := []) hE hR (by simp) (fK σ _) (hf.append _) .nil (.cons ⟨rfl, by simp⟩ .nil) (by simp) (fun _ => ⟨rfl, fun e he => by cases he⟩) (by simpa using h2) hw'
  refine ⟨n, fr', A', ?_, e2, e3.more⟩
  unfold gS
  rw [if_pos hreg]
  exact e1
 ·cases h
theorem P0 (hE : SxEnv E) (hR : RecOk E rec_) {ops : Array Oper} {k : K} {σ : Sg} {H : List St} {sf : SF} {fr : Fr} {A : St} {T : N} (hf : FrRel σ sf fr) (h : u6 E cfg rec_ nt ops sf σ.length H.length k = some T) (hw : wp E T σ H A Q) :
  ∃ n fr' A', eT E (big E n) nt ops fr A = some (fr', A') /\ fr'.marks = fr.marks /\ KGood E Q σ H k fr' A' := PZ hE hR hf h hw
end
end Go.AM.SX
namespace Go.AM.SX
open Go
theorem te {l : List Nat} {n : Nat} : j4 l n = true <-> n ∈ l := by
 unfold j4
 rw [List.any_eq_true]
 constructor
 ·rintro ⟨m, h1, h2⟩
  have : n = m := Nat.eq_of_beq_eq_true h2
  subst this
  exact h1
 ·intro h
  exact ⟨n, h, Nat.beq_refl n⟩
theorem At.same_eq {a b : At} (h : a.same b = true) : a = b := by
 unfold At.same at h
 split at h
 ·rw [Bool.and_eq_true, decide_eq_true_eq, decide_eq_true_eq] at h
  rw [h.1, h.2]
 ·rw [decide_eq_true_eq] at h; rw [h]
 ·rename_i x y
  rw [decide_eq_true_eq] at h
  obtain ⟨⟨x⟩⟩ := x
  obtain ⟨⟨y⟩⟩ := y
  have h' : x = y := h
  rw [h']
 ·rfl
 ·rfl
 ·rw [Bool.and_eq_true, decide_eq_true_eq, decide_eq_true_eq] at h
  rw [h.1, h.2]
 ·rw [Nat.eq_of_beq_eq_true h]
 ·cases h
theorem tg : ∀ {l m : List At}, lI l m = true -> l = m
 | [], [], _ => rfl
 | [], _ :: _, h => by cases h
 | _ :: _, [], h => by cases h
 | a :: l, b :: m, h => by
  simp only [lI, Bool.and_eq_true] at h
  rw [At.same_eq h.1, tg h.2]
theorem X.same_eq {a b : X} (h : a.same b = true) : a = b := by
 cases a <;> cases b <;> simp only [X.same, Bool.and_eq_true, Bool.false_eq_true] at h
 ·rw [At.same_eq h]
 ·rw [Nat.eq_of_beq_eq_true h.1, At.same_eq h.2]
 ·rw [Nat.eq_of_beq_eq_true h.1, tg h.2]
 ·rw [At.same_eq h.1, Nat.eq_of_beq_eq_true h.2]
theorem SF.get_append {sf tf : SF} {t : Nat} : (sf ++ tf).get t = match SF.get sf t with
  | some x => some x
  | none => SF.get tf t := by
 induction sf with
 | nil => rfl
 | cons p sf ih =>
  obtain ⟨s, x⟩ := p
  simp only [List.cons_append, SF.get]
  split
  ·rfl
  ·exact ih
theorem oF {M : List Nat} {t : Nat} {x : X} : ∀ {sf : SF} {seen : List Nat}, SF.get (fJ M sf seen) t = some x -> t ∉ seen /\ t ∉ M /\ SF.get sf t = some x
 | [], seen, h => by cases h
 | (s, y) :: sf, seen, h => by
  have drop : SF.get (fJ M sf (s :: seen)) t = some x -> t ∉ seen /\ t ∉ M /\ SF.get ((s, y) :: sf) t = some x := by
   intro h
   obtain ⟨h1, h2, h3⟩ := oF h
   rw [List.mem_cons, not_or] at h1
   refine ⟨h1.2, h2, ?_⟩
   simp only [SF.get]
   rw [if_neg]
   ·exact h3
   ·intro e; exact h1.1 (Nat.eq_of_beq_eq_true e).symm
  simp only [fJ] at h
  split at h
  ·exact drop h
  ·rename_i hc
   split at h
   ·rename_i hs
    simp only [SF.get] at h
    split at h
    ·rename_i e
     cases h
     have : s = t := Nat.eq_of_beq_eq_true e
     subst this
     simp only [Bool.or_eq_true, not_or] at hc
     refine ⟨fun hm => hc.1 (te.2 hm), fun hm => hc.2 (te.2 hm), ?_⟩
     simp only [SF.get, e, if_true]
    ·rename_i e
     obtain ⟨h1, h2, h3⟩ := oF h
     rw [List.mem_cons, not_or] at h1
     refine ⟨h1.2, h2, ?_⟩
     simp only [SF.get]
     rw [if_neg e]
     exact h3
   ·exact drop h
theorem th {sf : SF} {t : Nat} {x : X} : ∀ {kept : SF}, j5 sf kept = true -> SF.get kept t = some x -> sf.get t = some x
 | [], _, h => by cases h
 | (s, y) :: kept, hk, h => by
  simp only [j5, Bool.and_eq_true] at hk
  simp only [SF.get] at h
  split at h
  ·rename_i e
   cases h
   have : s = t := Nat.eq_of_beq_eq_true e
   subst this
   cases hs : sf.get s with
   | none => rw [hs] at hk; cases hk.1
   | some z => rw [hs] at hk; rw [X.same_eq hk.1]
  ·exact th hk.2 h
theorem oG {sf : SF} : ∀ {ts : List Nat} {xs : List X}, eK sf ts = some xs -> xs.length = ts.length
 | [], xs, h => by cases h; rfl
 | t :: ts, xs, h => by
  simp only [eK] at h
  split at h
  ·cases h; rename_i h2; simp [oG h2]
  ·cases h
theorem ti {σ σ' : Sg} {sf : SF} {fr : Fr} (hf : FrRel σ' sf fr) : ∀ {ts : List Nat} {xs : List X} {nv : Nat}, eK sf ts = some xs -> (∀ i, i < xs.length -> look σ (nv + i) = (denL σ' xs).getD i undef) -> nv + xs.length <= σ.length ->
  ∀ {t : Nat} {x : X}, SF.get (gB nv ts) t = some x -> x.good σ /\ fr.tm.get t = some (x.den σ)
 | [], xs, nv, h, hl, hlen, t, x, hg => by cases hg
 | s :: ts, xs, nv, h, hl, hlen, t, x, hg => by
  simp only [eK] at h
  split at h
  ·rename_i y ys h1 h2
   cases h
   simp only [gB, SF.get] at hg
   split at hg
   ·rename_i e
    cases hg
    have : s = t := Nat.eq_of_beq_eq_true e
    subst this
    have h0 := hl 0 (by simp)
    simp only [denL, List.map_cons, Nat.add_zero, List.getD_cons_zero] at h0
    refine ⟨lQ (by simp at hlen; omega), ?_⟩
    rw [(hf _ _ h1).2]
    show _ = some (look σ nv)
    rw [h0]
   ·refine ti hf h2 (nv := nv + 1) (fun i hi => ?_) (by simp at hlen; omega) hg
    have := hl (i + 1) (by simp; omega)
    simp only [denL, List.map_cons, List.getD_cons_succ] at this
    rw [show nv + 1 + i = nv + (i + 1) by omega]
    exact this
  ·cases h
theorem P1 {σ : Sg} {vs : List Value} {i : Nat} : look (σ ++ vs) (σ.length + i) = vs.getD i undef := by
 rw [look_eq, List.getElem?_append_right (by omega)]
 simp [List.getD_eq_getElem?_getD]
end Go.AM.SX
namespace Go.AM.SX
open Go
section
variable {E : Env} {cfg : Cfg} {rec_ : SRec} {Q : bW} {nt : Nat}
def LFr (σ : Sg) (V : List Nat) (kept : SF) (fr : Fr) (vs : List Value) : Prop :=
 (∃ σ' sf' xs, FrRel σ' sf' fr /\ eK sf' V = some xs /\ denL σ' xs = vs) /\ FrRel σ kept fr
theorem LFr.frame {σ : Sg} {V : List Nat} {kept : SF} {fr : Fr} {vs : List Value} (h : LFr σ V kept fr vs) (u : List Value) : FrRel (σ ++ (u ++ vs)) (gB (σ.length + u.length) V ++ kept) fr := by
 obtain ⟨⟨σ', sf', xs, h1, h2, rfl⟩, hk⟩ := h
 have hlen : xs.length = V.length := oG h2
 intro t x hx
 rw [SF.get_append] at hx
 split at hx
 ·rename_i y hy
  cases hx
  refine ti h1 h2 (fun i hi => ?_) (by simp [denL, Nat.add_assoc]) hy
  rw [<- List.append_assoc]
  have := P1 (σ := σ ++ u) (vs := denL σ' xs) (i := i)
  rw [List.length_append] at this
  exact this
 ·exact hk.append _ t x hx
theorem LFr.len {σ : Sg} {V : List Nat} {kept : SF} {fr : Fr} {vs : List Value} (h : LFr σ V kept fr vs) : vs.length = V.length := by
 obtain ⟨⟨σ', sf', xs, h1, h2, rfl⟩, hk⟩ := h
 simp [denL, oG h2]
theorem tj {nv : Nat} {kf : Nat -> Option N} {σ : Sg} {H : List St} {A : St} : ∀ {os : List Nat} {T : N}, swK nv kf os = some T -> wp E T σ H A Q -> ∃ T', kf (cN (look σ nv)) = some T' /\ wp E T' σ H A Q
 | [], T, h, hw => by cases h; exact hw.elim
 | o :: os, T, h, hw => by
  simp only [swK] at h
  split at h
  ·rename_i a b h1 h2
   cases h
   by_cases hc : cN (look σ nv) = o
   ·exact ⟨a, by rw [hc]; exact h1, hw.1 hc⟩
   ·exact tj h2 (hw.2 hc)
  ·cases h
theorem P2 {o : Nat} : outN (o + 1) ≠ .norm := by
 cases o with
 | zero => exact fun h => (by cases h)
 | succ o =>
  show (match Nat.blt o gotoB with
  | true => Out.exit o
  | false => .goto (o - gotoB)) ≠ .norm
  split <;> exact fun h => (by cases h)
theorem tk {o : Nat} {fr : Fr} {A : St} {f : Fr -> St -> Option (Out × Fr × St)} : (match (some (outN (o + 1), fr, A) : Option (Out × Fr × St)) with
   | some (.norm, fr1, A1) => f fr1 A1
   | r => r) = some (outN (o + 1), fr, A) := by
 have := P2 (o := o)
 generalize outN (o + 1) = x at this ⊢
 cases x with
 | norm => exact absurd rfl this
 | _ => rfl
theorem P3 {o : Nat} {fr : Fr} {A : St} {f : Fr -> St -> Option (Out × Fr × St)} : (match (some (outN (o + 1), fr, A) : Option (Out × Fr × St)) with
   | some (.norm, fr1, A1) => f fr1 A1
   | r => r) = some (outN (o + 1), fr, A) := tk
theorem dG {n nt : Nat} {c : Code} {fr : Fr} {A : St} : (big E (n + 1)).code nt c fr A = aZ E (big E n) nt c fr A := rfl
theorem P4 (hR : RecOk E rec_) {f : Nat} {b : Code} {sf : SF} {fr : Fr} {σ : Sg} {H : List St} {A : St} {T : N} {k : KO} (hf : FrRel σ sf fr) (h : oh rec_ f nt b sf σ.length H.length k = some T) (hw : wp E T σ H A Q) :
  ∃ n o fr' A', (big E n).code nt (.loop b) fr A = some (outN o, fr', A') /\ fr'.marks = fr.marks /\ KGood E Q σ H (k o) fr' A' := by
 simp only [oh] at h
 split at h
 ·cases h
 rename_i ins hins
 split at h
 ·cases h
 rename_i body hbody
 split at h
 ·rename_i kk hkk
  cases h
  generalize hV : (dedup (dg b)).filter (fun t => (SF.get sf t).isSome) = V at *
  generalize hkept : fJ (dg b) sf [] = kept at *
  have hk0 : FrRel σ kept fr := by
   intro t x hx
   rw [<- hkept] at hx
   exact hf t x (oF hx).2.2
  obtain ⟨n, hn⟩ := hw
  have key : ∀ (n : Nat) (vs : List Value) (fr1 : Fr) (A1 : St), LFr σ V kept fr1 vs ->
    fF (fun vs A Q' => wp E body (σ ++ vs) H A Q') (fun o outs A' => wp E kk (σ ++ goInt o :: outs) H A' Q) n vs A1 ->
    ∃ m o fr' A', (big E m).code nt (.loop b) fr1 A1 = some (outN o, fr', A') /\ fr'.marks = fr1.marks /\ ∃ outs, LFr σ V kept fr' outs /\ wp E kk (σ ++ goInt o :: outs) H A' Q := by
   intro n
   induction n with
   | zero => intro vs fr1 A1 _ h; exact h.elim
   | succ n ih =>
    intro vs fr1 A1 hl h
    have hfr := hl.frame []
    simp only [List.nil_append, List.length_nil, Nat.add_zero] at hfr
    have hb2 : rec_.code f nt b (gB σ.length V ++ kept) (σ ++ vs).length H.length (fun o sf' _ _ => if j5 sf' kept then match eK sf' V with
      | some outs => some (.fin o outs)
      | none => none
      else none) = some body := by
     rw [List.length_append, hl.len]
     exact hbody
    obtain ⟨m, o, fr2, A2, c1, c2, ⟨σ1, H1, sf2, T2, g1, g2, g3⟩⟩ := hR.code hfr hb2 h
    simp only at g2
    split at g2
    ·rename_i hko
     split at g2
     ·rename_i outs houts
      cases g2
      have hkept2 : FrRel σ kept fr2 := by
       intro t x hx
       have h0 := (hk0 t x hx).1
       refine ⟨h0, ?_⟩
       have h2 := (g1 t x (th hko hx)).2
       rw [h2, List.append_assoc, X.den_append _ h0.1]
      have hl2 : LFr σ V kept fr2 (denL (σ ++ vs ++ σ1) outs) := ⟨⟨_, sf2, outs, g1, houts, rfl⟩, hkept2⟩
      cases o with
      | zero =>
       obtain ⟨m2, o2, fr3, A3, d1, d2, d3⟩ := ih _ fr2 A2 hl2 g3
       refine ⟨max m m2 + 1, o2, fr3, A3, ?_, d2.trans c2, d3⟩
       rw [dG]
       simp only [aZ]
       rw [(cK E (Nat.le_max_left m m2)).code _ _ _ _ _ c1]
       exact (cK E (Nat.le_max_right m m2)).code _ _ _ _ _ d1
      | succ o =>
       refine ⟨m + 1, o + 1, fr2, A2, ?_, c2, _, hl2, g3⟩
       rw [dG]
       simp only [aZ]
       rw [c1]
       exact P3
     ·cases g2
    ·cases g2
  obtain ⟨m, o, fr', A', e1, e2, outs, e3, e4⟩ := key n _ fr A ⟨⟨σ, sf, ins, hf, hins, rfl⟩, hk0⟩ hn
  refine ⟨m, o, fr', A', e1, e2, ?_⟩
  obtain ⟨T', t1, t2⟩ := tj hkk e4
  have hlook : cN (look (σ ++ goInt o :: outs) σ.length) = o := by rw [ot]; rfl
  rw [hlook] at t1
  refine ⟨goInt o :: outs, [], _, T', e3.frame [goInt o], ?_, by simpa using t2⟩
  have hlen := e3.len
  simp only [List.append_nil, List.length_append, List.length_cons]
  rw [show σ.length + (outs.length + 1) = σ.length + 1 + V.length by omega]
  exact t1
 ·cases h
theorem tn (hR : RecOk E rec_) {f : Nat} {a b : Code} {sf : SF} {fr : Fr} {σ : Sg} {H : List St} {A : St} {T : N} {k : KO} (hf : FrRel σ sf fr)
  (h : rec_.code f nt a sf σ.length H.length (oi (fun sf nv nh => rec_.code f nt b sf nv nh k) k) = some T) (hw : wp E T σ H A Q) :
  ∃ n o fr' A', (match (big E n).code nt a fr A with
   | some (.norm, fr1, A1) => (big E n).code nt b fr1 A1
   | r => r) = some (outN o, fr', A') /\ fr'.marks = fr.marks /\ KGood E Q σ H (k o) fr' A' := by
 obtain ⟨n, o, fr1, A1, c1, c2, ⟨σ1, H1, sf1, T1, g1, g2, g3⟩⟩ := hR.code hf h hw
 cases o with
 | zero =>
  obtain ⟨m, o2, fr2, A2, d1, d2, d3⟩ := hR.code g1 g2 g3
  refine ⟨max n m, o2, fr2, A2, ?_, d2.trans c2, d3.more⟩
  rw [(cK E (Nat.le_max_left n m)).code _ _ _ _ _ c1]
  exact (cK E (Nat.le_max_right n m)).code _ _ _ _ _ d1
 | succ o =>
  refine ⟨n, o + 1, fr1, A1, ?_, c2, ⟨σ1, H1, sf1, T1, g1, g2, g3⟩⟩
  rw [c1]
  exact tk
theorem dH {o : Nat} : outN (o + 2) = match Nat.blt o gotoB with
  | true => .exit o
  | false => .goto (o - gotoB) := rfl
theorem tp {b : Code} {go : Code -> SF -> Nat -> Nat -> Option N} {k : KO} {o : Nat} {sf : SF} {nv nh : Nat} : oj b go k (o + 2) sf nv nh = match Nat.blt o gotoB with
  | true => k (o + 2) sf nv nh
  | false => match labelIn b (o - gotoB) with
   | none => k (o + 2) sf nv nh
   | some rest => go rest sf nv nh := rfl
theorem oH {r : Rec} {nt : Nat} {b : Code} {j l : Nat} {fr : Fr} {A : St} : b7 r nt b j (some (.goto l, fr, A)) = match labelIn b l with
  | none => some (.goto l, fr, A)
  | some rest => match j with
   | 0 => none
   | j + 1 => b7 r nt b j (r.code nt rest fr A) := by
 cases j <;> simp only [b7] <;> cases labelIn b l <;> rfl
theorem iA {r : Rec} {nt : Nat} {b : Code} {j : Nat} {o : Out} {fr : Fr} {A : St} (h : ∀ l, o ≠ .goto l) : b7 r nt b j (some (o, fr, A)) = some (o, fr, A) := by
 cases o <;> first
  | (cases j <;> rfl)
  | exact absurd rfl (h _)
theorem P5 (hR : RecOk E rec_) {f : Nat} {b : Code} {k : KO} : ∀ (j : Nat) {n o : Nat} {fr fr' : Fr} {A A' : St} {σ : Sg} {H : List St} {c : Code}, (big E n).code nt c fr A = some (outN o, fr', A') -> KGood E Q σ H (j6 rec_ f nt b j k o) fr' A' ->
  ∃ m o2 fr2 A2, b7 (big E m) nt b j ((big E m).code nt c fr A) = some (outN o2, fr2, A2) /\ fr2.marks = fr'.marks /\ KGood E Q σ H (k o2) fr2 A2 := by
 intro j n o fr fr' A A' σ H c c1 c3
 have low : o < 2 -> ∃ m o2 fr2 A2, b7 (big E m) nt b j ((big E m).code nt c fr A) = some (outN o2, fr2, A2) /\ fr2.marks = fr'.marks /\ KGood E Q σ H (k o2) fr2 A2 := by
  intro ho
  match o, ho with
  | 0, _ => exact ⟨n, 0, fr', A', by rw [c1]; exact iA (fun l e => by cases e), rfl, by cases j <;> exact c3⟩
  | 1, _ => exact ⟨n, 1, fr', A', by rw [c1]; exact iA (fun l e => by cases e), rfl, by cases j <;> exact c3⟩
 induction j generalizing n o fr fr' A A' σ H c with
 | zero =>
  match o, c1, c3, low with
  | 0, c1, c3, low => exact low (by omega)
  | 1, c1, c3, low => exact low (by omega)
  | o + 2, c1, c3, low =>
   obtain ⟨σ', H', sf', T', g1, g2, g3⟩ := c3
   rw [j6, tp] at g2
   rw [dH] at c1
   cases hb : Nat.blt o gotoB with
   | true =>
    rw [hb] at g2 c1
    exact ⟨n, o + 2, fr', A', by rw [c1, dH, hb]; exact iA (fun l e => by cases e), rfl, σ', H', sf', T', g1, g2, g3⟩
   | false =>
    rw [hb] at g2 c1
    cases hl : labelIn b (o - gotoB) with
    | none =>
     rw [hl] at g2
     exact ⟨n, o + 2, fr', A', by rw [c1, dH, hb, oH, hl], rfl, σ', H', sf', T', g1, g2, g3⟩
    | some rest => rw [hl] at g2; cases g2
 | succ j ih =>
  match o, c1, c3, low with
  | 0, c1, c3, low => exact low (by omega)
  | 1, c1, c3, low => exact low (by omega)
  | o + 2, c1, c3, low =>
   obtain ⟨σ', H', sf', T', g1, g2, g3⟩ := c3
   rw [j6, tp] at g2
   rw [dH] at c1
   cases hb : Nat.blt o gotoB with
   | true =>
    rw [hb] at g2 c1
    exact ⟨n, o + 2, fr', A', by rw [c1, dH, hb]; exact iA (fun l e => by cases e), rfl, σ', H', sf', T', g1, g2, g3⟩
   | false =>
    rw [hb] at g2 c1
    cases hl : labelIn b (o - gotoB) with
    | none =>
     rw [hl] at g2
     exact ⟨n, o + 2, fr', A', by rw [c1, dH, hb, oH, hl], rfl, σ', H', sf', T', g1, g2, g3⟩
    | some rest =>
     rw [hl] at g2
     obtain ⟨n2, o2, fr2, A2, d1, d2, d3⟩ := hR.code g1 g2 g3
     obtain ⟨m, o3, fr3, A3, f1, f2, f3⟩ := ih d1 d3 (fun ho => by
      match o2, ho, d1, d3 with
      | 0, _, d1, d3 => exact ⟨n2, 0, fr2, A2, by rw [d1]; exact iA (fun l e => by cases e), rfl, by cases j <;> exact d3⟩
      | 1, _, d1, d3 => exact ⟨n2, 1, fr2, A2, by rw [d1]; exact iA (fun l e => by cases e), rfl, by cases j <;> exact d3⟩)
     refine ⟨max n m, o3, fr3, A3, ?_, f2.trans d2, f3.more⟩
     rw [(cK E (Nat.le_max_left n m)).code _ _ _ _ _ c1]
     rw [oH, hl]
     exact tQ (cK E (Nat.le_max_right n m)) (fun q hq => (cK E (Nat.le_max_right n m)).code _ _ _ _ _ hq) f1
theorem P6 (hE : SxEnv E) (hR : RecOk E rec_) {f : Nat} {c : Code} {sf : SF} {fr : Fr} {σ : Sg} {H : List St} {A : St} {T : N} {k : KO} (hf : FrRel σ sf fr) (h : om E cfg rec_ f nt c sf σ.length H.length k = some T) (hw : wp E T σ H A Q) :
  ∃ n o fr' A', (big E n).code nt c fr A = some (outN o, fr', A') /\ fr'.marks = fr.marks /\ KGood E Q σ H (k o) fr' A' := by
 cases c <;> simp only [om] at h <;> first
  | (exfalso; cases h; done)
  | skip
 case skip => exact ⟨1, 0, fr, A, rfl, rfl, .here hf h hw⟩
 case label l => exact ⟨1, 0, fr, A, rfl, rfl, .here hf h hw⟩
 case ret => exact ⟨1, 1, fr, A, rfl, rfl, .here hf h hw⟩
 case exit id =>
  split at h
  ·rename_i hb
   exact ⟨1, id + 2, fr, A, by rw [dH, hb]; rfl, rfl, .here hf h hw⟩
  ·cases h
 case goto l =>
  refine ⟨1, l + gotoB + 2, fr, A, ?_, rfl, .here hf h hw⟩
  have : Nat.blt (l + gotoB) gotoB = false := by
   generalize gotoB = B
   cases hb : Nat.blt (l + B) B with
   | false => rfl
   | true => have := Nat.le_of_ble_eq_true hb; omega
  rw [dH, this, Nat.add_sub_cancel]
  rfl
 case scope b =>
  obtain ⟨n, o, fr', A', c1, c2, c3⟩ := hR.code hf h hw
  obtain ⟨m, o2, fr2, A2, d1, d2, d3⟩ := P5 hR 4 c1 c3
  exact ⟨m + 1, o2, fr2, A2, d1, d2.trans c2, d3⟩
 case seq a b =>
  obtain ⟨n, o, fr', A', c1, c2, c3⟩ := tn hR hf h hw
  exact ⟨n + 1, o, fr', A', by rw [dG]; simp only [aZ]; exact c1, c2, c3⟩
 case region i ops draw =>
  cases draw with
  | true =>
   simp only [if_true] at h
   obtain ⟨n, fr', A', c1, c2, c3⟩ := P0 hE hR hf h hw
   exact ⟨n + 1, 0, fr', A', by rw [dG]; simp only [aZ, if_true]; rw [c1]; rfl, c2, c3⟩
  | false =>
   simp only [Bool.false_eq_true, if_false] at h
   obtain ⟨n, fr', A', c1, c2, c3⟩ := oA hE hR hf h hw
   exact ⟨n + 1, 0, fr', A', by rw [dG]; simp only [aZ, Bool.false_eq_true, if_false]; exact c1, c2, c3⟩
 case cond c t e =>
  split at h
  ·rename_i hc
   obtain ⟨_, hv⟩ := aH hf hc
   obtain ⟨n, o, fr', A', c1, c2, c3⟩ := hR.code hf h hw
   exact ⟨n + 1, o, fr', A', by rw [dG]; simp only [aZ, hv, X.den, At.den]; exact c1, c2, c3⟩
  ·rename_i hc
   obtain ⟨_, hv⟩ := aH hf hc
   obtain ⟨n, o, fr', A', c1, c2, c3⟩ := hR.code hf h hw
   exact ⟨n + 1, o, fr', A', by rw [dG]; simp only [aZ, hv, X.den, At.den]; exact c1, c2, c3⟩
  ·rename_i j hc
   obtain ⟨_, hv⟩ := aH hf hc
   obtain ⟨ta, tb, h1, h2, rfl⟩ := fo h
   obtain ⟨tt, hj, hwt, hwf⟩ := hw
   have hj' : look σ j = .bool tt := hj
   have hv' : aD fr c = .bool tt := hv.trans hj'
   cases tt with
   | true =>
    obtain ⟨n, o, fr', A', c1, c2, c3⟩ := hR.code (hf.learn hj') h1 (hwt rfl)
    exact ⟨n + 1, o, fr', A', by rw [dG]; simp only [aZ, hv']; exact c1, c2, c3⟩
   | false =>
    obtain ⟨n, o, fr', A', c1, c2, c3⟩ := hR.code (hf.learn hj') h2 (hwf rfl)
    exact ⟨n + 1, o, fr', A', by rw [dG]; simp only [aZ, hv']; exact c1, c2, c3⟩
  ·cases h
 case block id b =>
  split at h
  case isFalse => cases h
  rename_i hid
  obtain ⟨n, o, fr', A', c1, c2, c3⟩ := hR.code hf h hw
  refine ⟨n + 1, if Nat.beq o (id + 2) then 0 else o, fr', A', ?_, c2, c3⟩
  rw [dG]
  simp only [aZ]
  rw [c1]
  rcases o with _ | _ | o
  ·rfl
  ·rfl
  ·rw [dH]
   by_cases e : o = id
   ·subst e
    rw [hid]
    show some ((if o = o then Out.norm else Out.exit o), fr', A') = some (outN (if Nat.beq (o + 2) (o + 2) = true then 0 else o + 2), fr', A')
    rw [if_pos rfl, Nat.beq_refl, if_pos rfl]
    rfl
   ·have : Nat.beq (o + 2) (id + 2) = false := by
     cases hb : Nat.beq (o + 2) (id + 2) with
     | false => rfl
     | true => have := Nat.eq_of_beq_eq_true hb; omega
    rw [this, if_neg (by decide)]
    cases hb : Nat.blt o gotoB with
    | true =>
     rw [dH, hb]
     show some ((if o = id then Out.norm else Out.exit o), fr', A') = some (Out.exit o, fr', A')
     rw [if_neg e]
    | false =>
     rw [dH, hb]
 case loop b =>
  split at h
  ·obtain ⟨n, o, fr', A', c1, c2, c3⟩ := tn hR hf h hw
   exact ⟨n + 1, o, fr', A', by rw [dG]; simp only [aZ]; exact c1, c2, c3⟩
  ·exact P4 hR hf h hw
theorem tq {σ : Sg} : ∀ {args : List X} {i : Nat} {tm : T Value}, (∀ x, x ∈ args -> X.good σ x) -> (∀ j, j < args.length -> tm.get (i + j) = (denL σ args)[j]?) ->
  ∀ {t : Nat} {x : X}, SF.get (j7 i args) t = some x -> x.good σ /\ tm.get t = some (x.den σ)
 | [], i, tm, hg, ht, t, x, h => by cases h
 | y :: args, i, tm, hg, ht, t, x, h => by
  simp only [j7, SF.get] at h
  split at h
  ·rename_i e
   cases h
   have : i = t := Nat.eq_of_beq_eq_true e
   subst this
   have := ht 0 (by simp)
   simp only [Nat.add_zero, denL, List.map_cons, List.getElem?_cons_zero] at this
   exact ⟨hg _ (List.mem_cons_self ..), this⟩
  ·refine tq (i := i + 1) (fun x hx => hg x (List.mem_cons_of_mem _ hx)) (fun j hj => ?_) h
   have := ht (j + 1) (by simp; omega)
   rw [show i + 1 + j = i + (j + 1) by omega, this]
   simp [denL]
theorem oI (hE : SxEnv E) {sf : SF} {fr : Fr} {A : St} : ∀ {rs : List ResultVar} {σ : Sg} {H : List St} {T : N} {k : List X -> Nat -> Nat -> Option N}, FrRel σ sf fr -> dh E sf rs σ.length H.length k = some T -> wp E T σ H A Q ->
  ∃ vs τ xs T', rs.mapM (fun r => match r with
   | .tmp t => some ((fr.tm.get t).getD undef)
   | .cell a t => match (fr.tm.get a).getD undef with
    | .pointer (some ad) => cd E A t ad
    | _ => none) = some vs /\ (∀ x, x ∈ xs -> X.good (σ ++ τ) x) /\ denL (σ ++ τ) xs = vs /\ k xs (σ ++ τ).length H.length = some T' /\ wp E T' (σ ++ τ) H A Q
 | [], σ, H, T, k, hf, h, hw => ⟨[], [], [], T, rfl, fun x hx => by simp at hx, rfl, by simpa [dh] using h, by simpa using hw⟩
 | r :: rs, σ, H, T, k, hf, h, hw => by
  cases r with
  | tmp t =>
   simp only [dh] at h
   split at h
   ·rename_i x hx
    obtain ⟨x1, x2⟩ := hf t x hx
    obtain ⟨vs, τ, xs, T', r1, r2, r3, r4, r5⟩ := oI hE hf h hw
    refine ⟨x.den σ :: vs, τ, x :: xs, T', ?_, fun y hy => ?_, ?_, r4, r5⟩
    ·simp only [List.mapM_cons, x2, Option.getD_some]
     rw [r1]
     rfl
    ·rcases List.mem_cons.1 hy with rfl | hy
     ·exact x1.append τ
     ·exact r2 y hy
    ·simp only [denL, List.map_cons] at r3 ⊢
     rw [r3, X.den_append τ x1.1]
   ·cases h
  | cell a t =>
   have go : ∀ {r : R} {x : X}, sf.get a = some x -> nOp r [x] (dh E sf rs (σ.length + 1) H.length fun xs nv' nh => k (vn σ.length :: xs) nv' nh) = some T ->
     (∀ v A', aB r [x.den σ] A = some (v, A') -> A' = A /\ ∃ ad, x.den σ = .pointer (some ad) /\ cd E A t ad = some v) ->
     ∃ vs τ xs T', (ResultVar.cell a t :: rs).mapM (fun r => match r with
      | .tmp t => some ((fr.tm.get t).getD undef)
      | .cell a t => match (fr.tm.get a).getD undef with
       | .pointer (some ad) => cd E A t ad
       | _ => none) = some vs /\ (∀ x, x ∈ xs -> X.good (σ ++ τ) x) /\ denL (σ ++ τ) xs = vs /\ k xs (σ ++ τ).length H.length = some T' /\ wp E T' (σ ++ τ) H A Q := by
    intro r x hx h hsem
    obtain ⟨T1, h1, rfl⟩ := fk h
    obtain ⟨v, A', hs, hw'⟩ := hw
    obtain ⟨rfl, ad, hd, hld⟩ := hsem v A' hs
    obtain ⟨x1, x2⟩ := hf a x hx
    obtain ⟨vs, τ, xs, T', r1, r2, r3, r4, r5⟩ := oI hE (hf.append [v]) (by simpa using h1) hw'
    refine ⟨v :: vs, v :: τ, vn σ.length :: xs, T', ?_, fun y hy => ?_, ?_, ?_, ?_⟩
    ·simp only [List.mapM_cons, x2, Option.getD_some, hd, hld]
     rw [r1]
     rfl
    ·rcases List.mem_cons.1 hy with rfl | hy
     ·exact lQ (by simp)
     ·have := r2 y hy
      rw [List.append_assoc] at this
      exact this
    ·rw [List.append_assoc] at r3
     simp only [denL, List.map_cons] at r3 ⊢
     have r3' : List.map (fun x => X.den (σ ++ v :: τ) x) xs = vs := r3
     rw [r3']
     show look (σ ++ v :: τ) σ.length :: vs = _
     rw [ot]
    ·rw [List.append_assoc] at r4; exact r4
    ·rw [List.append_assoc] at r5; exact r5
   simp only [dh] at h
   split at h
   ·rename_i x n hx ha hn
    refine go hx h fun v A' hs => ?_
    cases hd : x.den σ <;> rw [hd] at hs <;> first
     | (simp only [aB] at hs; cases hs; done)
     | skip
    rename_i p
    cases p with
    | none => simp only [aB] at hs; cases hs
    | some ad =>
     simp only [aB] at hs
     split at hs
     ·rename_i vs hvs
      cases hs
      refine ⟨rfl, ad, rfl, ?_⟩
      simp only [cd, ha, hn, hvs]
     ·cases hs
   ·rename_i x hx ha
    refine go hx h fun v A' hs => ?_
    cases hd : x.den σ <;> rw [hd] at hs <;> first
     | (simp only [aB] at hs; cases hs; done)
     | skip
    rename_i p
    cases p with
    | none => simp only [aB] at hs; cases hs
    | some ad =>
     simp only [aB] at hs
     split at hs
     ·rename_i w hvs
      cases hs
      refine ⟨rfl, ad, rfl, ?_⟩
      simp only [cd, ha, hvs]
     ·cases hs
   ·cases h
theorem P7 (hE : SxEnv E) (hR : RecOk E rec_) {f : Nat} {args : List X} {σ : Sg} {H : List St} {A : St} {T : N} {k : KX} (hg : ∀ x, x ∈ args -> X.good σ x) (h : oq E rec_ f args σ.length H.length k = some T) (hw : wp E T σ H A Q) :
  ∃ n v A', (big E n).call f (denL σ args) A = some (v, A') /\ XGood E Q σ H k v A' := by
 unfold oq at h
 split at h
 ·cases h
 rename_i hkn
 split at h
 ·cases h
 rename_i fn hfn
 split at h
 ·cases h
 rename_i c hc
 split at h
 ·rename_i hlen
  have hf : FrRel σ (j7 0 args) { tm := _root_.Go.AM.T.ofList (denL σ args), marks := [] } := by
   intro t x hx
   refine tq hg (fun j hj => ?_) hx
   rw [Nat.zero_add]
   exact _root_.Go.AM.T.get_ofList _ _
  obtain ⟨n, o, fr1, A1, c1, c2, ⟨σ1, H1, sf1, T1, g1, g2, g3⟩⟩ := hR.code hf h hw
  have hm : fr1.marks = [] := c2
  have fin : ∀ {o : Out}, (o = .norm \/ o = .ret) -> (big E n).code fn.ntmps c { tm := _root_.Go.AM.T.ofList (denL σ args), marks := [] } A = some (o, fr1, A1) -> dh E sf1 fn.results.toList (σ ++ σ1).length (H ++ H1).length (u7 k) = some T1 ->
    ∃ n v A', (big E n).call f (denL σ args) A = some (v, A') /\ XGood E Q σ H k v A' := by
   intro o ho c1 g2
   obtain ⟨vs, τ, xs, T2, r1, r2, r3, r4, r5⟩ := oI hE g1 g2 g3
   have hcall : ∀ v, (match vs with | [v] => some v | vs => some (.tuple vs.toArray) : Option Value) = some v -> (big E (n + 1)).call f (denL σ args) A = some (v, A1) := by
    intro v hv
    show Rec.call { code := aZ E (big E n), callR := callR E (big E n), callD := callD E (big E n) } f (denL σ args) A = _
    rw [mL]
    unfold gV
    rw [PM (Bool.eq_false_iff.2 hkn)]
    simp only
    have hres : eU E fn fr1 A1 = some v := by
     refine Eq.trans (b := (fun z : Option (List Value) => match z with
      | some [v] => some v
      | some vs => some (Value.tuple vs.toArray)
      | none => none) (some vs)) (congrArg (fun z : Option (List Value) => match z with
      | some [v] => some v
      | some vs => some (Value.tuple vs.toArray)
      | none => none) r1) ?_
     match vs, hv with
     | [], hv => exact hv
     | [_], hv => exact hv
     | _ :: _ :: _, hv => exact hv
    have hmo : jw o = some .ret := by rcases ho with rfl | rfl <;> rfl
    have hl : cR E (big E n) f (denL σ args) A = some (fn, fr1, .ret, A1) := by
     unfold cR
     rw [hfn]
     simp only [hc]
     rw [if_pos (by simpa [denL] using hlen), c1]
     simp only [hmo, hm, leave]
    unfold ie
    rw [hl]
    simp only [hres]
   match xs, r2, r3, r4 with
   | [x], r2, r3, r4 =>
    have hv : vs = [x.den (σ ++ σ1 ++ τ)] := r3.symm
    refine ⟨n + 1, x.den (σ ++ σ1 ++ τ), A1, hcall _ (by rw [hv]), ?_⟩
    refine ⟨σ1 ++ τ, H1, x, T2, ?_, ?_, ?_, ?_⟩
    ·rw [<- List.append_assoc]; exact r2 x (List.mem_singleton.2 rfl)
    ·rw [<- List.append_assoc]
    ·rw [<- List.append_assoc]; exact r4
    ·rw [<- List.append_assoc]; exact r5
   | [], r2, r3, r4 =>
    have hv : vs = [] := r3.symm
    obtain ⟨T3, h3, rfl⟩ := fk r4
    obtain ⟨w, A2, hs, hw'⟩ := r5
    simp only [denL, List.map_nil, aB, Option.some.injEq, Prod.mk.injEq] at hs
    obtain ⟨rfl, rfl⟩ := hs
    refine ⟨n + 1, _, A1, hcall _ (by rw [hv]), ?_⟩
    have := XGood.one (bU (σ ++ σ1 ++ τ) _).1 (bU _ _).2 h3 hw'
    rw [List.append_assoc] at this
    exact XGood.more this
   | x :: y :: xs, r2, r3, r4 =>
    obtain ⟨T3, h3, rfl⟩ := fk r4
    obtain ⟨w, A2, hs, hw'⟩ := r5
    simp only [aB, Option.some.injEq, Prod.mk.injEq] at hs
    obtain ⟨rfl, rfl⟩ := hs
    rw [r3] at hw'
    refine ⟨n + 1, .tuple vs.toArray, A1, hcall _ (by rw [<- r3]; rfl), ?_⟩
    have := XGood.one (bU (σ ++ σ1 ++ τ) _).1 (bU _ _).2 h3 hw'
    rw [List.append_assoc] at this
    exact XGood.more this
  match o, c1, g2 with
  | 0, c1, g2 => exact fin (.inl rfl) c1 g2
  | 1, c1, g2 => exact fin (.inr rfl) c1 g2
  | _ + 2, c1, g2 => cases g2
 ·cases h
theorem oJ (hE : SxEnv E) (cfg : Cfg) : ∀ n, RecOk E (sx E cfg n)
 | 0 => { code := fun _ h _ => (by cases h), call := fun _ h _ => (by cases h) }
 | n + 1 => { code := fun hf h hw => P6 hE (oJ hE cfg n) hf h hw, call := fun hg h hw => P7 hE (oJ hE cfg n) hg h hw }
theorem tu {x : X} : ∀ {i n : Nat}, x ∈ gC i n -> ∃ k, k < i + n /\ x = vn k
 | i, 0, h => by simp [gC] at h
 | i, n + 1, h => by
  simp only [gC, List.mem_cons] at h
  rcases h with rfl | h
  ·exact ⟨i, by omega, rfl⟩
  ·obtain ⟨k, h1, h2⟩ := tu h
   exact ⟨k, by omega, h2⟩
theorem tv {σ : Sg} : ∀ {τ : Sg} {i : Nat}, (∀ j, j < τ.length -> look σ (i + j) = look τ j) -> denL σ (gC i τ.length) = τ
 | [], i, h => rfl
 | v :: τ, i, h => by
  simp only [List.length_cons, gC, denL, List.map_cons]
  have h0 := h 0 (by simp)
  have ih := tv (σ := σ) (τ := τ) (i := i + 1) (fun j hj => by
   have := h (j + 1) (by simp; omega)
   rw [show i + 1 + j = i + (j + 1) by omega, this]
   rfl)
  simp only [denL] at ih
  rw [ih]
  show look σ i :: τ = _
  rw [show look σ i = v from h0]
theorem oK (hE : SxEnv E) {cfg : Cfg} {fuel f : Nat} {vs : List Value} {T : N} (h : aC E cfg fuel f vs.length = some T) {A : St} {Q : Value -> St -> Prop} (hw : wp E T vs [] A fun _ outs A' => ∀ v, outs = [v] -> Q v A') :
  ∃ v A', dJ E f vs A v A' /\ Q v A' := by
 obtain ⟨n, v, A', h1, ⟨σ', H', x, T', h2, h3, h4, h5⟩⟩ := (oJ hE cfg fuel).call (σ := vs) (H := []) (fun x hx => by
  obtain ⟨k, hk, rfl⟩ := tu hx
  exact lQ (by simpa using hk)) h hw
 cases h4
 have hv := tv (σ := vs) (τ := vs) (i := 0) (fun j _ => by rw [Nat.zero_add])
 rw [hv] at h1
 exact ⟨v, A', ⟨n, h1⟩, h5 v (by rw [<- h3]; rfl)⟩
end
end Go.AM.SX
namespace Go.AM.SX
open Go
theorem SxEnv.of {E : Env} {P : Program} {nm : Nm} (ok : EnvOk E P nm) (hsl : E.sl = []) : SxEnv E where
 sl := hsl
 und := fun t d h => by rw [ok.prog]; exact ok.und h
theorem eH {W : List Value -> St -> bW -> Prop} {Q : bW} {n : Nat} {vs : List Value} {A : St} : fF W Q (n + 1) vs A = W vs A fun o outs A' => match o with
  | 0 => fF W Q n outs A'
  | o + 1 => Q (o + 1) outs A' := rfl
theorem oL {n : Int} (h0 : 0 <= n) (h1 : n <= 9223372036854775807) : aT .i64 n = n := by
 unfold aT
 rw [if_pos ⟨by simp only [lo]; omega, by simp only [hi]; omega⟩]
theorem uA {W : List Value -> St -> bW -> Prop} (hW : ∀ vs A P R, (∀ o outs B, P o outs B -> R o outs B) -> W vs A P -> W vs A R) {Q Q' : bW} (hQ : ∀ o outs B, Q o outs B -> Q' o outs B) : ∀ (n : Nat) (vs : List Value) (A : St), fF W Q n vs A -> fF W Q' n vs A
 | 0, _, _, h => h
 | n + 1, vs, A, h => hW vs A _ _ (fun o outs B hp => by
   cases o with
   | zero => exact uA hW hQ n outs B hp
   | succ o => exact hQ _ _ _ hp) h
theorem wp_mono {E : Env} : ∀ (T : N) {σ : Sg} {H : List St} {A : St} {Q Q' : bW}, (∀ o outs B, Q o outs B -> Q' o outs B) -> wp E T σ H A Q -> wp E T σ H A Q'
 | .bad, _, _, _, _, _, _, h => h
 | .fin o xs, _, _, _, _, _, hq, h => hq _ _ _ h
 | .op r xs k, _, _, _, _, _, hq, h => let ⟨v, A', h1, h2⟩ := h; ⟨v, A', h1, wp_mono k hq h2⟩
 | .opAt b off r xs k, _, _, _, _, _, hq, h => let ⟨v, A', h1, h2⟩ := h; ⟨v, A', h1, wp_mono k hq h2⟩
 | .br x a b, _, _, _, _, _, hq, h => let ⟨t, h1, h2, h3⟩ := h; ⟨t, h1, fun e => wp_mono a hq (h2 e), fun e => wp_mono b hq (h3 e)⟩
 | .call f xs k, _, _, _, _, _, hq, h => let ⟨v, A', h1, h2⟩ := h; ⟨v, A', h1, wp_mono k hq h2⟩
 | .callv f xs k, _, _, _, _, _, hq, h => let ⟨g, fs, cs, v, A', h1, h2, h3, h4⟩ := h; ⟨g, fs, cs, v, A', h1, h2, h3, wp_mono k hq h4⟩
 | .callm x name xs k, _, _, _, _, _, hq, h => let ⟨g, as, v, A', h1, h2, h3⟩ := h; ⟨g, as, v, A', h1, h2, wp_mono k hq h3⟩
 | .loop xs body k, σ, H, _, Q, Q', hq, h => by
  obtain ⟨n, h1⟩ := h
  exact ⟨n, uA (W := fun vs A Q' => wp E body (σ ++ vs) H A Q') (Q := fun o outs A' => wp E k (σ ++ goInt o :: outs) H A' Q) (Q' := fun o outs A' => wp E k (σ ++ goInt o :: outs) H A' Q')
   (fun _ _ _ _ hp hw => wp_mono body hp hw) (fun _ _ _ hp => wp_mono k hq hp) n _ _ h1⟩
 | .sw x c a b, _, _, _, _, _, hq, h => ⟨fun e => wp_mono a hq (h.1 e), fun e => wp_mono b hq (h.2 e)⟩
 | .bump n k, _, _, _, _, _, hq, h => wp_mono k hq h
 | .save k, _, _, _, _, _, hq, h => wp_mono k hq h
 | .self x k, _, _, _, _, _, hq, h => ⟨h.1, wp_mono k hq h.2⟩
 | .chk i r xs x k, _, _, _, _, _, hq, h => ⟨h.1, wp_mono k hq h.2⟩
def uB (A B : St) : Prop := A.next <= B.next /\ (∀ b, b < A.next -> B.h.get b = A.h.get b) /\ B.g = A.g
theorem iB {α : Type} {t : T α} : ∀ {l : List α} {off : Nat}, (∀ i, i < l.length -> t.get (off + i) = l[i]?) -> t.range off l.length = some l
 | [], _, _ => rfl
 | x :: l, off, h => by
  have h0 := h 0 (by simp)
  simp only [Nat.add_zero, List.getElem?_cons_zero] at h0
  have ih := iB (t := t) (l := l) (off := off + 1) (fun i hi => by
   have := h (i + 1) (by simp; omega)
   rw [show off + 1 + i = off + (i + 1) by omega, this]
   simp)
  simp only [List.length_cons, T.range, h0, ih]
theorem P8 {s : Nat} : ∀ (n m : Nat) (v : Value), aR n v = true -> aw s m v = v := by
 intro n
 induction n with
 | zero =>
  intro m v h
  cases v <;> first
   | (cases m <;> rfl)
   | (rename_i p; cases p <;> first
     | (cases m <;> rfl)
     | (cases h; done))
   | (rename_i p _ _; cases p <;> first
     | (cases m <;> rfl)
     | (cases h; done))
   | (cases h; done)
 | succ n ih =>
  have arr : ∀ (m : Nat) (a : Array Value), a.toList.all (aR n) = true -> a.map (aw s m) = a := by
   intro m a ha
   apply Array.ext'
   rw [Array.toList_map]
   conv => rhs; rw [<- List.map_id a.toList]
   exact List.map_congr_left fun x hx => ih m x (List.all_eq_true.1 ha x hx)
  intro m v h
  cases m with
  | zero => cases v <;> first
   | rfl
   | (rename_i p; cases p <;> first
     | rfl
     | (cases h; done))
   | (rename_i p _ _; cases p <;> first
     | rfl
     | (cases h; done))
  | succ m =>
   cases v with
   | iface t v => show Value.iface t (aw s m v) = _; rw [ih m v h]
   | agg a => show Value.agg (a.map (aw s m)) = _; rw [arr m a h]
   | tuple a => show Value.tuple (a.map (aw s m)) = _; rw [arr m a h]
   | func f a c =>
    simp only [aR, Bool.and_eq_true] at h
    show Value.func (p8 s f) (a.map (aw s m)) (c.map (aw s m)) = _
    rw [arr m a h.1.2, arr m c h.2]
    cases f <;> first
     | rfl
     | (simp at h)
   | pointer p => cases p <;> first
     | rfl
     | (cases h; done)
   | slice p _ _ => cases p <;> first
     | rfl
     | (cases h; done)
   | map p => cases p <;> first
     | rfl
     | (cases h; done)
   | _ => rfl
theorem P9 (A : St) (k : Known) : uB A { A with next := A.next + k.cnt, h := dC A.next A.h k.objs } :=
 ⟨Nat.le_add_right _ _, fun _ hb => lE hb, rfl⟩
theorem Pa {E : Env} {f : FuncId} {as : List Value} {A : St} {k : Known} (hk : knw E f as = some k) (hl : (k.looks.all fun r => Nat.blt r.g E.ng && bQ A r) = true) (hp : aL k.v = true) :
  ∃ B, dJ E f as A k.v B /\ uB A B := by
 refine ⟨_, ?_, P9 A k⟩
 have := PN hk hl
 rw [P8 40 8 k.v hp] at this
 exact this
section
variable {E : Env} {σ : Sg} {H : List St} {A : St} {Q : bW} {k a b : N} {xs : List X}
theorem aO {r : R} {v : Value} {A' : St} (h : aB r (denL σ xs) A = some (v, A')) (hk : wp E k (σ ++ [v]) H A' Q) : wp E (.op r xs k) σ H A Q := ⟨v, A', h, hk⟩
theorem fp {x : X} (h : x.den σ = .bool true) (hk : wp E a σ H A Q) : wp E (.br x a b) σ H A Q := ⟨true, h, fun _ => hk, fun e => (by cases e)⟩
theorem fq {x : X} (h : x.den σ = .bool false) (hk : wp E b σ H A Q) : wp E (.br x a b) σ H A Q := ⟨false, h, fun e => (by cases e), fun _ => hk⟩
theorem cu {o : Nat} (h : Q o (denL σ xs) A) : wp E (.fin o xs) σ H A Q := h
end
end Go.AM.SX
namespace Go.AM.PV
open Go Go.AM Go.AM.SX
inductive P where
 | c (x : Value)
 | ifc (t : TypeId) (p : P)
 | agg (l : List P)
 | tup (l : List P)
 | sl (sz n : Nat) (l : List P)
 | fx (sz n : Nat) (l : List P)
 | ow (e : TypeId) (sz n : Nat) (l : List P)
 | ip (l : List P) (off : Nat)
 | lit (l : List P)
 | lp (i off : Nat)
 | ms (i off n c : Nat)
 | fn (f : FuncId) (cs : List P)
 | any
 deriving Inhabited
inductive Ob where
 | cells (l : List P)
 | sit (s : ByteArray) (pos : Nat)
abbrev Mu := List Ob
def Rdc (h : T AObj) (sz : Nat) (a : Addr) (vs : List Value) : Prop :=
 a.spot = none /\ ∃ r, h.get a.block = some (.row r) /\ (r.opn = true -> r.esz = sz) /\ a.off + vs.length <= r.size /\ vs.all one = true /\ ∀ i, i < vs.length -> r.cells.get (a.off + i) = vs[i]?
def Rdx (h : T AObj) (a : Addr) (vs : List Value) : Prop :=
 a.spot = none /\ ∃ r, h.get a.block = some (.row r) /\ r.opn = false /\ a.off + vs.length <= r.size /\ vs.all one = true /\ ∀ i, i < vs.length -> r.cells.get (a.off + i) = vs[i]?
mutual
inductive Rep (β : List Nat) (S : Nat -> Prop) (h : T AObj) : Value -> P -> Prop where
 | c (x : Value) : Rep β S h x (.c x)
 | ifc (t : TypeId) (v : Value) (p : P) : Rep β S h v p -> Rep β S h (.iface t v) (.ifc t p)
 | agg (vs : List Value) (ps : List P) : RepL β S h vs ps -> Rep β S h (.agg vs.toArray) (.agg ps)
 | tup (vs : List Value) (ps : List P) : RepL β S h vs ps -> Rep β S h (.tuple vs.toArray) (.tup ps)
 | nil (sz : Nat) : Rep β S h (.slice none 0 0) (.sl sz 0 [])
 | sl (a : Addr) (sz n c : Nat) (vs : List Value) (ps : List P) : S a.block -> Rdc h sz a vs -> vs.length = n * sz -> n <= c -> RepL β S h vs ps -> Rep β S h (.slice (some a) n c) (.sl sz n ps)
 | fx (a : Addr) (sz n : Nat) (vs : List Value) (ps : List P) : S a.block -> Rdx h a vs -> vs.length = n * sz -> RepL β S h vs ps -> Rep β S h (.slice (some a) n n) (.fx sz n ps)
 | ip (a : Addr) (sz off : Nat) (vs : List Value) (ps : List P) : S a.block -> Rdc h sz a vs -> RepL β S h vs ps -> Rep β S h (.pointer (some (aK a off))) (.ip ps off)
 | lit (a : Addr) (vs : List Value) (ps : List P) : S a.block -> Rdx h a vs -> RepL β S h vs ps -> Rep β S h (.pointer (some a)) (.lit ps)
 | lp (i b off : Nat) : β[i]? = some b -> Rep β S h (.pointer (some ⟨b, off, none⟩)) (.lp i off)
 | ms (i b off n c : Nat) : β[i]? = some b -> Rep β S h (.slice (some ⟨b, off, none⟩) n c) (.ms i off n c)
 | fn (f : FuncId) (vs : List Value) (ps : List P) : RepL β S h vs ps -> Rep β S h (.func (.func f) #[] vs.toArray) (.fn f ps)
 | any (v : Value) : one v = true -> Rep β S h v .any
inductive RepL (β : List Nat) (S : Nat -> Prop) (h : T AObj) : List Value -> List P -> Prop where
 | nil : RepL β S h [] []
 | cons (v : Value) (p : P) (vs : List Value) (ps : List P) : Rep β S h v p -> RepL β S h vs ps -> RepL β S h (v :: vs) (p :: ps)
end
inductive OwnR (β : List Nat) (S : Nat -> Prop) (A : St) : Value -> TypeId -> Nat -> Nat -> List P -> List Nat -> Prop where
 | nil (e : TypeId) (sz : Nat) : OwnR β S A (.slice none 0 0) e sz 0 [] []
 | fx (a : Addr) (e : TypeId) (sz n : Nat) (vs : List Value) (ps : List P) : S a.block -> Rdx A.h a vs -> vs.length = n * sz -> RepL β S A.h vs ps -> OwnR β S A (.slice (some a) n n) e sz n ps []
 | ow (b : Nat) (r : Row) (e : TypeId) (sz n : Nat) (vs : List Value) (ps : List P) : r.elem = e -> r.esz = sz -> S b -> A.h.get b = some (.row r) -> r.own = true -> r.opn = true -> r.size = vs.length -> r.frz <= r.size -> vs.all one = true -> (∀ i, i < vs.length -> r.cells.get i = vs[i]?) ->
   vs.length = n * sz -> RepL β S A.h vs ps -> r.grp < A.next -> (A.g.get r.grp = none \/ ∃ ms, A.g.get r.grp = some (b :: ms)) -> OwnR β S A (.slice (some ⟨b, 0, none⟩) n n) e sz n ps [r.grp]
def RepT (β : List Nat) (S : Nat -> Prop) (A : St) (v : Value) (p : P) (g : List Nat) : Prop :=
 match p with
 | .ow e sz n l => OwnR β S A v e sz n l g
 | p => Rep β S A.h v p /\ g = []
inductive RepO (β : List Nat) (S : Nat -> Prop) (A : St) : List Value -> List P -> List Nat -> Prop where
 | nil : RepO β S A [] [] []
 | cons (v : Value) (p : P) (g : List Nat) (vs : List Value) (ps : List P) (gs : List Nat) : RepT β S A v p g -> RepO β S A vs ps gs -> RepO β S A (v :: vs) (p :: ps) (g ++ gs)
structure Cel (A : St) (b : Nat) (vs : List Value) (r : Row) : Prop where
 at_ : A.h.get b = some (.row r)
 own : r.own = true
 opn : r.opn = false
 size : r.size = vs.length
 frz : r.frz = 0
 ones : vs.all one = true
 cells : ∀ i, i < vs.length -> r.cells.get i = vs[i]?
 gnone : A.g.get r.grp = none
 glt : r.grp < A.next
inductive MemR (β : List Nat) (S : Nat -> Prop) (A : St) : List Nat -> Mu -> List Nat -> Prop where
 | nil : MemR β S A [] [] []
 | cons (b : Nat) (r : Row) (vs : List Value) (l : List P) (g : List Nat) (bs : List Nat) (ls : Mu) (gs : List Nat) : Cel A b vs r -> RepO β S A vs l g -> MemR β S A bs ls gs -> MemR β S A (b :: bs) (.cells l :: ls) ((r.grp :: g) ++ gs)
 | sit (b : Nat) (s : ByteArray) (pos : Nat) (bs : List Nat) (ls : Mu) (gs : List Nat) : A.h.get b = some (.siter s pos) -> MemR β S A bs ls gs -> MemR β S A (b :: bs) (.sit s pos :: ls) gs
abbrev Rv := Option (Nat × Nat × List Nat)
def av (σ : Sg) (rv : Rv) (b : Nat) : Prop :=
 match rv with
 | none => False
 | some (k, n, us) => ∃ j, j < n /\ j ∉ us /\ b = cN (SX.look σ k) + j
structure RS (gl : List GRow) (A : St) (β : List Nat) (S F : Nat -> Prop) (σ : Sg) (ps : List P) (gs : List Nat) (μ : Mu) (gm : List Nat) : Prop where
 S_lt : ∀ b, S b -> b < A.next
 β_lt : ∀ b, b ∈ β -> b < A.next
 F_lt : ∀ b, F b -> b < A.next
 β_S : ∀ b, b ∈ β -> ¬ S b
 F_S : ∀ b, F b -> ¬ S b
 F_β : ∀ b, F b -> b ∉ β
 F_g : ∀ b, F b -> A.g.get b = none /\ b ∉ gs ++ gm
 β_nd : β.Nodup
 ginv : ∀ k, A.next <= k -> A.g.get k = none
 glob : ∀ r, r ∈ gl -> S r.g /\ bQ A r = true
 vars : RepO β S A σ ps gs
 objs : MemR β S A β μ gm
 nd : (gs ++ gm).Nodup
def noF : Nat -> Prop := fun _ => False
structure KeepX (M G : Nat -> Prop) (A B : St) : Prop where
 next : A.next <= B.next
 heap : ∀ b, b < A.next -> ¬ M b -> B.h.get b = A.h.get b
 grps : ∀ k, k < A.next -> ¬ G k -> B.g.get k = A.g.get k
structure Ext (m : Nat) (A : St) (β : List Nat) (S F : Nat -> Prop) (gs gm : List Nat) (B : St) (β' : List Nat) (S' : Nat -> Prop) (gs' gm' : List Nat) : Prop where
 keep : KeepX (fun b => b ∈ β \/ F b) (fun k => k ∈ gs ++ gm \/ F k) A B
 objs : ∀ i, i < m -> β'[i]? = β[i]?
 newβ : ∀ b, b ∈ β' -> b ∈ β \/ A.next <= b \/ F b
 oldS : ∀ b, S b -> S' b
 newS : ∀ b, S' b -> S b \/ A.next <= b \/ F b
 newg : ∀ k, k ∈ gs' ++ gm' -> k ∈ gs ++ gm \/ A.next <= k \/ F k
def PR (E : Env) (gl : List GRow) (f : FuncId) (ps : List P) (μ : Mu) (r : P) (μ' : Mu) : Prop :=
 ∀ (A : St) (β : List Nat) (S : Nat -> Prop) (vs : List Value) (gs gm : List Nat), RS gl A β S noF vs ps gs μ gm ->
  ∃ v B β' S' gs' gm', dJ E f vs A v B /\ Ext μ.length A β S noF gs gm B β' S' gs' gm' /\ RS gl B β' S' noF [v] [r] gs' μ' gm'
def fz : P -> P
 | .ow _ sz n l => .sl sz n l
 | p => p
def fB : List P -> Option (List UInt8)
 | [] => some []
 | .c (.int .u8 b) :: l => match fB l with
  | some bs => some (UInt8.ofNat b.toNat :: bs)
  | none => none
 | _ :: _ => none
def st0 : St := { next := 0, h := .nil, g := .nil }
def jP : R -> Bool
 | .idStr | .bin _ | .eqn _ _ | .beq _ | .not | .neg | .conv _ | .runeStr | .nilc | .fld _ | .field _ _ | .idxA _ | .idxP _ _ | .idxS | .lenL | .lenS | .subS _ _ | .ext _ | .ta _ _ _ | .mm _ => true
 | _ => false
def unc : List P -> Option (List Value)
 | [] => some []
 | .c x :: l => match unc l with
  | some xs => some (x :: xs)
  | none => none
 | _ :: _ => none
def bd (r : R) (ps : List P) : Option P :=
 if jP r then match unc ps with
  | some vs => match aB r vs st0 with
   | some (v, _) => some (.c v)
   | none => none
  | none => none
 else none
def da : Value -> List Value
 | .agg cs => cs.toList
 | v => [v]
def aW : P -> List P
 | .agg l => l
 | .c v => (da v).map .c
 | p => [p]
def c8 : List P -> Nat -> List P -> List P
 | l, _, [] => l
 | l, off, c :: cs => c8 (l.set off c) (off + 1) cs
def cv : List (Nat × Nat) -> List P -> List P -> Option (List P)
 | [], [], l => some l
 | (off, size) :: pl, p :: ps, l => if (aW p).length = size /\ off + size <= l.length then cv pl ps (c8 l off (aW p)) else none
 | _, _, _ => none
def fC (p : Option P) (hi dflt : Nat) : Option Nat :=
 match p with
 | none => some dflt
 | some (.c v) => bound v hi
 | some _ => none
def fD (sz : Nat) (lo hi : Bool) (vs : List P) (sz' n : Nat) (l : List P) : Option P :=
 let lo' := if lo then vs.head? else none
 let vs1 := if lo then vs.tail else vs
 let hi' := if hi then vs1.head? else none
 if sz' = sz then match fC hi' n n with
  | some h => match fC lo' h 0 with
   | some k => some (.sl sz (h - k) ((l.drop (k * sz)).take ((h - k) * sz)))
   | none => none
  | none => none
 else none
def notNil : P -> Bool
 | .ifc _ _ | .fx _ _ _ | .ip _ _ | .lit _ | .lp _ _ | .ms _ _ _ _ | .fn _ _ => true
 | .sl _ n _ => Nat.blt 0 n
 | _ => false
def oM : TypeDesc -> P -> P -> Bool
 | .pointer _, .ip _ _, .c (.pointer none) | .pointer _, .lit _, .c (.pointer none) | .pointer _, .lp _ _, .c (.pointer none) => true
 | .slice _, .fx _ _ _, .c (.slice none _ _) | .slice _, .ms _ _ _ _, .c (.slice none _ _) => true
 | .slice _, .sl _ n _, .c (.slice none _ _) => Nat.blt 0 n
 | .interface _, .ifc _ _, .c .nilIface => true
 | .func _ _ _, .fn _ _, .c .nilFunc => true
 | _, _, _ => false
def aS (r : R) (ps : List P) : Option P :=
 match bd r ps with
 | some p => some p
 | none => match r, ps with
  | .ext i, [.tup l] => l[i]?
  | .field off none, [.agg l] => l[off]?
  | .field off (some n), [.agg l] => some (.agg ((l.drop off).take n))
  | .build z pl, ps => match cv pl ps (z.map .c) with
   | some l => some (.agg l)
   | none => none
  | .tup, ps => some (.tup ps)
  | .ta t z ok, [.ifc ty p] => if ty = t then some (if ok then .tup [p, .c (.bool true)] else p) else if ok then some (.tup [.c z, .c (.bool false)]) else none
  | .nilc, [p] => if notNil p then some p else none
  | .eqn d neg, [p, q] => if oM d p q then some (.c (.bool neg)) else none
  | .lenL, [.sl _ n _] | .lenL, [.fx _ n _] | .lenL, [.ms _ _ n _] => some (.c (goInt n))
  | .idxA s, [.sl sz n l, .c (.int _ i)] => if sz = s /\ 0 <= i /\ i < (n : Int) then some (.ip l (i.toNat * s)) else none
  | .idxA s, [.fx sz n l, .c (.int _ i)] => if sz = s /\ 0 <= i /\ i < (n : Int) then some (.ip l (i.toNat * s)) else none
  | .idxA s, [.ms k off n _, .c (.int _ i)] => if 0 <= i /\ i < (n : Int) then some (.lp k (off + i.toNat * s)) else none
  | .idxP len s, [.lp k off, .c (.int _ i)] => if 0 <= i /\ i < (len : Int) then some (.lp k (off + i.toNat * s)) else none
  | .idxP len s, [.ip l off, .c (.int _ i)] => if 0 <= i /\ i < (len : Int) then some (.ip l (off + i.toNat * s)) else none
  | .fld off, [.ip l o] => some (.ip l (o + off))
  | .fld off, [.lit l] => some (.ip l off)
  | .fld off, [.lp i o] => some (.lp i (o + off))
  | .load none, [.ip l off] => l[off]?
  | .load (some n), [.ip l off] => if off + n <= l.length then some (.agg ((l.drop off).take n)) else none
  | .load none, [.lit l] => l[0]?
  | .load (some n), [.lit l] => if n <= l.length then some (.agg (l.take n)) else none
  | .subL sz lo hi false, .sl sz' n l :: vs => fD sz lo hi vs sz' n l
  | .subL sz lo hi false, .fx sz' n l :: vs => fD sz lo hi vs sz' n l
  | .toStr, [.sl 1 n l] => if l.length = n then match fB l with
   | some bs => some (.c (mkStr bs))
   | none => none
   else none
  | _, _ => none
def bI (ps : List P) : At -> P
 | .v x => .c x
 | .n k => ps.getD k (.c undef)
def bN (ps : List P) : X -> Option P
 | .at a => some (bI ps a)
 | .ifc t a => some (.ifc t (fz (bI ps a)))
 | .fn f cs => some (.fn f (cs.map fun a => fz (bI ps a)))
 | .sl a len => match bI ps a with
  | .lit l => if l.length = len * (if len = 0 then 1 else l.length / len) then some (.fx (if len = 0 then 1 else l.length / len) len l) else none
  | _ => none
def denF (ps : List P) : List X -> Option (List P)
 | [] => some []
 | x :: xs => match bN ps x, denF ps xs with
  | some p, some l => some (fz p :: l)
  | _, _ => none
def ft (ps : List P) : X -> Option (P × List P)
 | .at (.n k) => some (ps.getD k (.c undef), ps.set k (fz (ps.getD k (.c undef))))
 | x => match bN ps x with
  | some p => some (fz p, ps)
  | none => none
def aj (ps : List P) : List X -> Option (List P × List P)
 | [] => some ([], ps)
 | x :: xs => match ft ps x with
  | some (p, ps1) => match aj ps1 xs with
   | some (l, ps2) => some (p :: l, ps2)
   | none => none
  | none => none
def cL : P -> Bool
 | .agg _ | .tup _ => false
 | .c x => one x
 | _ => true
structure Lg where
 vp : List (Nat × P)
 mu : Mu
 dy : Bool
 en : List (R × List X × Nat)
def cM (μ : Mu) (n : Option Nat) (i off : Nat) : Option P :=
 match μ[i]? with
 | some (.cells l) => match n with
  | none => l[off]?
  | some n => if off + n <= l.length then some (.agg (((l.drop off).take n).map fz)) else none
 | _ => none
def dirty (L : List Lg) : List Lg := L.map fun lg => { lg with dy := true }
def Ob.fz : Ob -> Ob
 | .cells l => .cells (l.map PV.fz)
 | o => o
def shal : Nat -> P -> Bool
 | _, .c (.int _ _) | _, .c (.bool _) | _, .c (.string _) | _, .c (.pointer _) | _, .c (.slice _ _ _) | _, .c .nilIface | _, .c .nilFunc => true
 | _, .sl _ _ _ | _, .fx _ _ _ | _, .ow _ _ _ _ | _, .ip _ _ | _, .lit _ | _, .lp _ _ | _, .ms _ _ _ _ => true
 | n + 1, .ifc _ p => shal n p
 | n + 1, .agg l => l.all (shal n)
 | n + 1, .tup l => l.all (shal n)
 | n + 1, .fn _ l => l.all (shal n)
 | n + 1, .c x => aL x && aR (n + 1) x
 | _, _ => false
def okm (m : Nat) : P -> Bool
 | .lp i _ | .ms i _ _ _ => Nat.blt i m
 | .ifc _ p => okm m p
 | .agg l | .tup l | .sl _ _ l | .fx _ _ l | .ow _ _ _ l | .ip l _ | .lit l | .fn _ l => okL m l
 | .c _ | .any => true
where okL (m : Nat) : List P -> Bool
 | [] => true
 | p :: l => okm m p && okL m l
def Ob.ok (m : Nat) : Ob -> Bool
 | .cells l => okm.okL m l
 | .sit _ _ => true
def okM (m : Nat) (μ : Mu) : Bool := μ.all (Ob.ok m)
mutual
inductive Wk : P -> P -> Prop where
 | refl (p : P) : Wk p p
 | nil (sz : Nat) : Wk (.c (.slice none 0 0)) (.sl sz 0 [])
 | fx (sz n : Nat) (l : List P) : Wk (.fx sz n l) (.sl sz n l)
 | agg (l m : List P) : WkL l m -> Wk (.agg l) (.agg m)
 | tup (l m : List P) : WkL l m -> Wk (.tup l) (.tup m)
 | ifc (t : TypeId) (p q : P) : Wk p q -> Wk (.ifc t p) (.ifc t q)
 | any (v : Value) : one v = true -> Wk (.c v) .any
inductive WkL : List P -> List P -> Prop where
 | nil : WkL [] []
 | cons (p q : P) (l m : List P) : Wk p q -> WkL l m -> WkL (p :: l) (q :: m)
end
inductive Le : P -> P -> Prop where
 | refl (p : P) : Le p p
 | nilow (e : TypeId) (sz : Nat) : Le (.c (.slice none 0 0)) (.ow e sz 0 [])
 | fxow (e : TypeId) (sz n : Nat) (l : List P) : Le (.fx sz n l) (.ow e sz n l)
 | nilsl (sz : Nat) : Le (.c (.slice none 0 0)) (.sl sz 0 [])
 | fxsl (sz n : Nat) (l : List P) : Le (.fx sz n l) (.sl sz n l)
 | owsl (e : TypeId) (sz n : Nat) (l : List P) : Le (.ow e sz n l) (.sl sz n l)
 | wk (p q : P) : Wk p q -> Le p q
inductive LeL : List P -> List P -> Prop where
 | nil : LeL [] []
 | cons (p q : P) (ps qs : List P) : Le p q -> LeL ps qs -> LeL (p :: ps) (q :: qs)
def iC (sz : Nat) : P -> Option (Nat × List P)
 | .sl s n l => if s = sz then some (n, l) else none
 | .fx s n l => if s = sz then some (n, l) else none
 | .c (.slice none 0 _) => some (0, [])
 | .c (.string s) => if sz = 1 then some (s.size, s.data.toList.map fun b => .c (.int .u8 b.toNat)) else none
 | _ => none
def oN (e : TypeId) (sz : Nat) : P -> Option (Nat × List P)
 | .c (.slice none 0 0) => some (0, [])
 | .ow e' s n l => if e' = e /\ s = sz then some (n, l) else none
 | .fx s n l => if s = sz then some (n, l) else none
 | _ => none
def jQ (e : TypeId) (i : TypeInfo) (z : Value) (p q : P) : Option P :=
 match oN e i.size p, iC i.size q with
 | some (n, l), some (n', l') =>
  if i.size ≠ 0 /\ z.cells.size = i.size /\ (n + n') * i.bytes <= 140737488355328 /\ n + n' <= 4611686018427387904 then some (.ow e i.size (n + n') (l ++ l')) else none
 | _, _ => none
abbrev aU := Nat -> List P -> Mu -> Prop
def aY (W : List P -> Mu -> aU -> Prop) (Q : aU) : Nat -> List P -> Mu -> Prop
 | 0, _, _ => False
 | n + 1, vs, μ => W vs μ fun o outs μ' => match o with
  | 0 => aY W Q n outs μ'
  | o + 1 => Q (o + 1) outs μ'
def bg (r : R) (ps : List P) (μ : Mu) : Option (P × Mu) :=
 match r, ps with
 | .alloc _ z, [] => if z.all one then some (.lp μ.length 0, μ ++ [.cells (z.map .c)]) else none
 | .box _, [p] => if (aW p).all cL then some (.lp μ.length 0, μ ++ [.cells (aW p)]) else none
 | .newSl _ z pl, ps => match cv pl ps (z.map .c) with
  | some l => if l.all cL then some (.lit l, μ) else none
  | none => none
 | .mkSl _ z bytes, [.c (.int _ ln), .c (.int _ cp)] =>
  if 0 <= ln /\ ln <= cp /\ cp * bytes <= 140737488355328 /\ cp <= 4294967296 /\ z.all one = true then some (.ms μ.length 0 ln.toNat cp.toNat, μ ++ [.cells ((zeros z cp.toNat).map .c)]) else none
 | _, _ => none
def oO : P -> Option Nat
 | .c v => some (cN v)
 | _ => none
section
variable (E : Env) (gl : List GRow)
end
end Go.AM.PV
namespace Go.AM.PV
open Go Go.AM Go.AM.SX
section
variable {β β' : List Nat} {S S' : Nat -> Prop} {h h' : T AObj}
theorem Rdc.mono {a : Addr} (hh : h'.get a.block = h.get a.block) {sz : Nat} {vs : List Value} (x : Rdc h sz a vs) : Rdc h' sz a vs := by
 obtain ⟨h0, r, h1, h2⟩ := x
 exact ⟨h0, r, hh.trans h1, h2⟩
theorem Rdx.mono {a : Addr} (hh : h'.get a.block = h.get a.block) {vs : List Value} (x : Rdx h a vs) : Rdx h' a vs := by
 obtain ⟨h0, r, h1, h2⟩ := x
 exact ⟨h0, r, hh.trans h1, h2⟩
theorem Rdx.rdc {a : Addr} {vs : List Value} (x : Rdx h a vs) (sz : Nat) : Rdc h sz a vs := by
 obtain ⟨h0, r, h1, h2, h3⟩ := x
 exact ⟨h0, r, h1, (fun e => by rw [h2] at e; cases e), h3⟩
mutual
theorem Rep.mono (hS : ∀ b, S b -> S' b) (hh : ∀ b, S b -> h'.get b = h.get b) (hβ : ∀ (i b : Nat), β[i]? = some b -> β'[i]? = some b) : ∀ {v : Value} {p : P}, Rep β S h v p -> Rep β' S' h' v p
 | _, _, .c x => .c x
 | _, _, .ifc t v p r => .ifc t v p (r.mono hS hh hβ)
 | _, _, .agg vs ps r => .agg vs ps (r.mono hS hh hβ)
 | _, _, .tup vs ps r => .tup vs ps (r.mono hS hh hβ)
 | _, _, .nil sz => .nil sz
 | _, _, .sl a sz n c vs ps h1 h2 h3 h4 r => .sl a sz n c vs ps (hS _ h1) (h2.mono (hh _ h1)) h3 h4 (r.mono hS hh hβ)
 | _, _, .fx a sz n vs ps h1 h2 h3 r => .fx a sz n vs ps (hS _ h1) (h2.mono (hh _ h1)) h3 (r.mono hS hh hβ)
 | _, _, .ip a sz off vs ps h1 h2 r => .ip a sz off vs ps (hS _ h1) (h2.mono (hh _ h1)) (r.mono hS hh hβ)
 | _, _, .lit a vs ps h1 h2 r => .lit a vs ps (hS _ h1) (h2.mono (hh _ h1)) (r.mono hS hh hβ)
 | _, _, .lp i b off h1 => .lp i b off (hβ _ _ h1)
 | _, _, .ms i b off n c h1 => .ms i b off n c (hβ _ _ h1)
 | _, _, .fn f vs ps r => .fn f vs ps (r.mono hS hh hβ)
 | _, _, .any v h1 => .any v h1
theorem RepL.mono (hS : ∀ b, S b -> S' b) (hh : ∀ b, S b -> h'.get b = h.get b) (hβ : ∀ (i b : Nat), β[i]? = some b -> β'[i]? = some b) : ∀ {vs : List Value} {ps : List P}, RepL β S h vs ps -> RepL β' S' h' vs ps
 | _, _, .nil => .nil
 | _, _, .cons v p vs ps r rs => .cons v p vs ps (r.mono hS hh hβ) (rs.mono hS hh hβ)
end
theorem uC {β : List Nat} {k i b : Nat} (hi : i < k) (h : β[i]? = some b) : (β.take k)[i]? = some b := by
 rw [List.getElem?_take, if_pos hi]; exact h
theorem uD {i k : Nat} (h : Nat.blt i k = true) : i < k := Nat.le_of_ble_eq_true h
mutual
theorem Rep.trunc {k : Nat} : ∀ {v : Value} {p : P}, Rep β S h v p -> okm k p = true -> Rep (β.take k) S h v p
 | _, _, .c x, _ => .c x
 | _, _, .ifc t v p r, hk => .ifc t v p (r.trunc (by simpa only [okm] using hk))
 | _, _, .agg vs ps r, hk => .agg vs ps (r.trunc (by simpa only [okm] using hk))
 | _, _, .tup vs ps r, hk => .tup vs ps (r.trunc (by simpa only [okm] using hk))
 | _, _, .nil sz, _ => .nil sz
 | _, _, .sl a sz n c vs ps h1 h2 h3 h4 r, hk => .sl a sz n c vs ps h1 h2 h3 h4 (r.trunc (by simpa only [okm] using hk))
 | _, _, .fx a sz n vs ps h1 h2 h3 r, hk => .fx a sz n vs ps h1 h2 h3 (r.trunc (by simpa only [okm] using hk))
 | _, _, .ip a sz off vs ps h1 h2 r, hk => .ip a sz off vs ps h1 h2 (r.trunc (by simpa only [okm] using hk))
 | _, _, .lit a vs ps h1 h2 r, hk => .lit a vs ps h1 h2 (r.trunc (by simpa only [okm] using hk))
 | _, _, .lp i b off h1, hk => .lp i b off (uC (uD (by simpa only [okm] using hk)) h1)
 | _, _, .ms i b off n c h1, hk => .ms i b off n c (uC (uD (by simpa only [okm] using hk)) h1)
 | _, _, .fn f vs ps r, hk => .fn f vs ps (r.trunc (by simpa only [okm] using hk))
 | _, _, .any v h1, _ => .any v h1
theorem RepL.trunc {k : Nat} : ∀ {vs : List Value} {ps : List P}, RepL β S h vs ps -> okm.okL k ps = true -> RepL (β.take k) S h vs ps
 | _, _, .nil, _ => .nil
 | _, _, .cons v p vs ps r rs, hk => by
  simp only [okm.okL, Bool.and_eq_true] at hk
  exact .cons v p vs ps (r.trunc hk.1) (rs.trunc hk.2)
end
theorem RepL.length : ∀ {vs : List Value} {ps : List P}, RepL β S h vs ps -> vs.length = ps.length
 | _, _, .nil => rfl
 | _, _, .cons v p vs ps _ rs => by simp [rs.length]
theorem RepL.get : ∀ {vs : List Value} {ps : List P} {i : Nat} {p : P}, RepL β S h vs ps -> ps[i]? = some p -> ∃ v, vs[i]? = some v /\ Rep β S h v p
 | _, _, i, _, .nil, hi => by simp at hi
 | _, _, 0, _, .cons v p vs ps r _, hi => by
  simp only [List.getElem?_cons_zero, Option.some.injEq] at hi; subst hi; exact ⟨v, by simp, r⟩
 | _, _, i + 1, _, .cons v p vs ps _ rs, hi => by
  simp only [List.getElem?_cons_succ] at hi ⊢; exact rs.get hi
theorem RepL.of_get : ∀ {vs : List Value} {ps : List P}, vs.length = ps.length -> (∀ (i : Nat) (v : Value) (p : P), vs[i]? = some v -> ps[i]? = some p -> Rep β S h v p) -> RepL β S h vs ps
 | [], [], _, _ => .nil
 | v :: vs, p :: ps, hl, hg => .cons v p vs ps (hg 0 v p rfl rfl) (RepL.of_get (by simpa using hl) fun i v p h1 h2 => hg (i + 1) v p (by simpa using h1) (by simpa using h2))
 | [], _ :: _, hl, _ => by simp at hl
 | _ :: _, [], hl, _ => by simp at hl
theorem RepL.get2 {vs : List Value} {ps : List P} (r : RepL β S h vs ps) {i : Nat} {v : Value} {p : P} (hv : vs[i]? = some v) (hp : ps[i]? = some p) : Rep β S h v p := by
 obtain ⟨w, h1, h2⟩ := r.get hp
 rw [hv] at h1; cases h1; exact h2
theorem RepL.append {vs ws : List Value} {ps qs : List P} (r : RepL β S h vs ps) (s : RepL β S h ws qs) : RepL β S h (vs ++ ws) (ps ++ qs) := by
 have hl := r.length
 refine .of_get (by simp [hl, s.length]) fun i v p h1 h2 => ?_
 rcases Nat.lt_or_ge i vs.length with g | g
 ·rw [List.getElem?_append_left g] at h1
  rw [List.getElem?_append_left (hl ▸ g)] at h2
  exact r.get2 h1 h2
 ·rw [List.getElem?_append_right g] at h1
  rw [List.getElem?_append_right (hl ▸ g), <- hl] at h2
  exact s.get2 h1 h2
theorem RepL.take {vs : List Value} {ps : List P} (r : RepL β S h vs ps) (n : Nat) : RepL β S h (vs.take n) (ps.take n) := by
 refine .of_get (by simp [r.length]) fun i v p h1 h2 => ?_
 rw [List.getElem?_take] at h1 h2
 split at h1
 ·rename_i g; rw [if_pos g] at h2; exact r.get2 h1 h2
 ·cases h1
theorem RepL.drop {vs : List Value} {ps : List P} (r : RepL β S h vs ps) (n : Nat) : RepL β S h (vs.drop n) (ps.drop n) := by
 refine .of_get (by simp [r.length]) fun i v p h1 h2 => ?_
 rw [List.getElem?_drop] at h1 h2
 exact r.get2 h1 h2
theorem RepL.consts : ∀ (vs : List Value), RepL β S h vs (vs.map .c)
 | [] => .nil
 | v :: vs => .cons v _ vs _ (.c v) (RepL.consts vs)
theorem RepL.one {v : Value} {p : P} (r : Rep β S h v p) : RepL β S h [v] [p] := .cons v p [] [] r .nil
theorem RepL.set {vs : List Value} {ps : List P} (r : RepL β S h vs ps) (i : Nat) {v : Value} {p : P} (hr : Rep β S h v p) : RepL β S h (vs.set i v) (ps.set i p) := by
 refine .of_get (by simp [r.length]) fun j w q h1 h2 => ?_
 rw [List.getElem?_set] at h1 h2
 split at h1
 ·rename_i g
  subst g
  rw [if_pos rfl] at h2
  split at h1 <;> first
   | (cases h1; done)
   | skip
  split at h2 <;> first
   | (cases h2; done)
   | skip
  cases h1; cases h2; exact hr
 ·rename_i g; rw [if_neg g] at h2; exact r.get2 h1 h2
theorem RepL.setFrom : ∀ {cs : List Value} {qs : List P} {vs : List Value} {ps : List P} {off : Nat}, RepL β S h vs ps -> RepL β S h cs qs -> RepL β S h (setFrom vs off cs) (c8 ps off qs)
 | _, _, _, _, _, r, .nil => r
 | _, _, _, _, off, r, .cons c q cs qs hc hcs => by
  simp only [SX.setFrom, c8]
  exact RepL.setFrom (r.set off hc) hcs
theorem Rep.fz {v : Value} {p : P} (r : Rep β S h v p) : Rep β S h v (fz p) := by
 cases p with
 | ow e sz n l => cases r
 | _ => exact r
theorem uE : ∀ (ps : List P) (xs vs : List Value), unc ps = some xs -> RepL β S h vs ps -> vs = xs
 | [], _, _, hu, r => by
  cases r
  simp only [unc, Option.some.injEq] at hu; exact hu
 | p :: ps, _, _, hu, r => by
  cases r with
  | cons v _ vs _ r rs =>
  cases p with
  | c x =>
   simp only [unc] at hu
   split at hu
   ·rename_i ys hy
    cases hu
    cases r
    rw [uE ps _ _ hy rs]
   ·cases hu
  | _ => simp only [unc] at hu; cases hu
theorem RepL.cells {v : Value} {p : P} (r : Rep β S h v p) : RepL β S h v.cells.toList (aW p) := by
 cases r with
 | c x =>
  have : v.cells.toList = da v := by cases v <;> rfl
  rw [this]
  exact .consts _
 | agg vs ps r => simpa [Value.cells, aW] using r
 | ifc t v p r => exact .one (.ifc t v p r)
 | tup vs ps r => exact .one (.tup vs ps r)
 | nil sz => exact .one (.nil sz)
 | sl a sz n c vs ps h1 h2 h3 h4 h5 => exact .one (.sl a sz n c vs ps h1 h2 h3 h4 h5)
 | fx a sz n vs ps h1 h2 h3 h4 => exact .one (.fx a sz n vs ps h1 h2 h3 h4)
 | ip a sz off vs ps h1 h2 h3 => exact .one (.ip a sz off vs ps h1 h2 h3)
 | lit a vs ps h1 h2 h3 => exact .one (.lit a vs ps h1 h2 h3)
 | lp i b off h1 => exact .one (.lp i b off h1)
 | ms i b off n c h1 => exact .one (.ms i b off n c h1)
 | fn f vs ps r => exact .one (.fn f vs ps r)
 | any v h1 =>
  have : v.cells = #[v] := by cases v <;> first | rfl | (cases h1; done)
  rw [this]
  exact .one (.any v h1)
theorem oP : ∀ {pl : List (Nat × Nat)} {vs : List Value} {ps : List P} {zs : List Value} {zp l : List P}, RepL β S h vs ps -> RepL β S h zs zp -> cv pl ps zp = some l -> ∃ cs, de pl vs zs = some cs /\ RepL β S h cs l
 | [], _, _, zs, _, _, .nil, hz, hf => by simp only [cv, Option.some.injEq] at hf; subst hf; exact ⟨zs, rfl, hz⟩
 | [], _, _, _, _, _, .cons .., _, hf => by simp only [cv] at hf; cases hf
 | _ :: _, _, _, _, _, _, .nil, _, hf => by simp only [cv] at hf; cases hf
 | (off, size) :: pl, _, _, zs, zp, l, .cons v p vs ps r rs, hz, hf => by
  simp only [cv] at hf
  have hc := RepL.cells r
  have hl := hc.length
  have hzl := hz.length
  split at hf
  ·rename_i hg
   simp only [de]
   have e1 : v.cells.size = size := by
    have : v.cells.size = v.cells.toList.length := by simp
    omega
   rw [if_pos ⟨e1, by omega⟩]
   exact oP rs (hz.setFrom hc) hf
  ·cases hf
mutual
theorem Rep.wk : ∀ {v : Value} {p q : P}, Wk p q -> Rep β S h v p -> Rep β S h v q
 | _, _, _, .refl _, r => r
 | _, _, _, .nil sz, r => by cases r; exact .nil sz
 | _, _, _, .fx sz n l, r => by
  cases r with
  | fx a _ _ vs _ h1 h2 h3 h4 => exact .sl a sz n n vs l h1 (h2.rdc sz) h3 (Nat.le_refl _) h4
 | _, _, _, .agg l m w, r => by
  cases r with
  | agg vs _ hr => exact .agg vs m (RepL.wk w hr)
 | _, _, _, .tup l m w, r => by
  cases r with
  | tup vs _ hr => exact .tup vs m (RepL.wk w hr)
 | _, _, _, .ifc t p q w, r => by
  cases r with
  | ifc _ v _ hr => exact .ifc t v q (Rep.wk w hr)
 | _, _, _, .any _ hv, r => by
  cases r
  exact .any _ hv
theorem RepL.wk : ∀ {vs : List Value} {ps qs : List P}, WkL ps qs -> RepL β S h vs ps -> RepL β S h vs qs
 | _, _, _, .nil, r => r
 | _, _, _, .cons p q l m w ws, r => by
  cases r with
  | cons v _ vs _ hr hrs => exact .cons v q vs m (Rep.wk w hr) (RepL.wk ws hrs)
end
theorem Rdc.at {a : Addr} {sz : Nat} {vs : List Value} (x : Rdc h sz a vs) {A : St} (hA : A.h.get a.block = h.get a.block) {i : Nat} {v : Value} (hi : vs[i]? = some v) : A.loadN (aK a i) 1 = some [v] := by
 obtain ⟨h0, r, h1, h2, h3, h4, h5⟩ := x
 have hlt := (List.getElem?_eq_some_iff.1 hi).1
 unfold St.loadN aK St.row?
 simp only [hA, h1]
 rw [if_pos (by omega)]
 simp only [T.range]
 rw [h5 i hlt, hi]
theorem Rdc.range {a : Addr} {sz : Nat} {vs : List Value} (x : Rdc h sz a vs) {A : St} (hA : A.h.get a.block = h.get a.block) {i n : Nat} (hn : i + n <= vs.length) : A.loadN (aK a i) n = some ((vs.drop i).take n) := by
 obtain ⟨h0, r, h1, h2, h3, h4, h5⟩ := x
 unfold St.loadN aK St.row?
 simp only [hA, h1]
 rw [if_pos (by omega)]
 have := iB (t := r.cells) (l := (vs.drop i).take n) (off := a.off + i) (fun j hj => by
  simp only [List.length_take, List.length_drop] at hj
  rw [show a.off + i + j = a.off + (i + j) by omega, h5 (i + j) (by omega), List.getElem?_take, if_pos (by omega), List.getElem?_drop])
 rw [show ((vs.drop i).take n).length = n by simp; omega] at this
 exact this
theorem jR {a : Addr} (h : a.spot = none) : aK a 0 = a := by
 cases a; simp only at h; subst h; rfl
theorem uF (a : Addr) (i j : Nat) : aK (aK a i) j = aK a (i + j) := by
 simp only [aK, Nat.add_assoc]
end
end Go.AM.PV
namespace Go.AM.PV
open Go Go.AM Go.AM.SX
def iD (a : Option Nat) (f : Nat -> Option Nat) (g : Nat -> Nat -> Value) (A : St) : Option (Value × St) :=
 match a with | some h => (match f h with | some l => some (g l h, A) | none => none) | none => none
theorem Pb {a : Option Nat} {f : Nat -> Option Nat} {g : Nat -> Nat -> Value} {v : Value} {B A : St} (hq : iD a f g st0 = some (v, B)) : iD a f g A = some (v, A) := by
 unfold iD at hq ⊢
 cases a with
 | none => cases hq
 | some x =>
  simp only at hq ⊢
  cases hf : f x with
  | none => rw [hf] at hq; cases hq
  | some y => rw [hf] at hq; cases hq; rfl
theorem Pc {lo hi : Bool} {vs : List Value} {v : Value} {B : St} (h : aB (.subS lo hi) vs st0 = some (v, B)) (A : St) : aB (.subS lo hi) vs A = some (v, A) := by
 cases vs with
 | nil => cases h
 | cons x vs =>
  cases x <;> first
   | (cases h; done)
   | skip
  rename_i s
  exact Pb (a := aJ (if hi then (if lo then vs.tail.head? else vs.head?) else none) s.size s.size) (f := fun h => aJ (if lo then vs.head? else none) h 0) (g := fun l h => .string (s.extract l h)) (B := B) h
set_option maxHeartbeats 1000000 in
theorem Pd {r : R} (hm : jP r = true) {vs : List Value} {v : Value} {B : St} (h : aB r vs st0 = some (v, B)) (A : St) : aB r vs A = some (v, A) := by
 cases r <;> first
  | (cases hm; done)
  | exact Pc h A
  | skip
 all_goals
  unfold aB at h ⊢
  first
  | (split at h <;> first
    | (cases h; done)
    | (rename_i heq; cases heq; done)
    | (cases h; rfl)
    | skip)
 all_goals first
  | (exfalso; rename_i hx _ _ _ _ _ _ _ _ _ _ _ _ _ _ _ _ _ _ _ _ _ _ _ _ _ _ _ _ _ _ _ _ _ _ _ _ _ _ _ _ _ _ _ _ _ _ _ _ _ _ _; exact hx _ _ rfl)
  | (exfalso; simp_all; done)
  | (repeat' (first
    | (cases h; done)
    | split at h)
     all_goals (first
       | (cases h; rfl)
       | (cases h; simp_all; done)))
end Go.AM.PV
namespace Go.AM.PV
open Go Go.AM Go.AM.SX
def AgS (S : Nat -> Prop) (h : T AObj) (A : St) : Prop := ∀ b, S b -> A.h.get b = h.get b
section
variable {β : List Nat} {S : Nat -> Prop} {h : T AObj}
theorem Pe {r : R} {ps : List P} {p : P} {vs : List Value} (hr : RepL β S h vs ps) (hs : bd r ps = some p) : ∃ v, (∀ A, aB r vs A = some (v, A)) /\ p = .c v := by
 unfold bd at hs
 split at hs
 ·rename_i hm
  split at hs
  ·rename_i xs hu
   split at hs
   ·rename_i v B hv
    cases hs
    have := uE ps xs vs hu hr
    subst this
    exact ⟨v, fun A => Pd hm hv A, rfl⟩
   ·cases hs
  ·cases hs
 ·cases hs
theorem inv1 {vs : List Value} {p : P} (r : RepL β S h vs [p]) : ∃ v, vs = [v] /\ Rep β S h v p := by
 cases r with
 | cons v _ vs _ r rs => cases rs; exact ⟨v, rfl, r⟩
theorem inv2 {vs : List Value} {p q : P} (r : RepL β S h vs [p, q]) : ∃ v w, vs = [v, w] /\ Rep β S h v p /\ Rep β S h w q := by
 cases r with
 | cons v _ vs _ r rs => obtain ⟨w, rfl, hw⟩ := inv1 rs; exact ⟨v, w, rfl, r, hw⟩
theorem oQ {vs : List Value} {p : P} {ps : List P} (r : RepL β S h vs (p :: ps)) : ∃ v ws, vs = v :: ws /\ Rep β S h v p /\ RepL β S h ws ps := by
 cases r with
 | cons v _ vs _ r rs => exact ⟨v, vs, rfl, r, rs⟩
theorem Pf {d : TypeDesc} {v w : Value} {p q : P} (hn : oM d p q = true) (hp : Rep β S h v p) (hq : Rep β S h w q) : db d v w = some false := by
 unfold oM at hn
 split at hn <;> first
  | (cases hn; done)
  | (cases hq; cases hp; rfl)
  | (cases hq; cases hp <;> first
    | rfl
    | (simp at hn; done))
inductive OptR (β : List Nat) (S : Nat -> Prop) (h : T AObj) : Option P -> Option Value -> Prop where
 | none : OptR β S h none none
 | some (p : P) (v : Value) : Rep β S h v p -> OptR β S h (some p) (some v)
theorem oR {o : Option P} {ov : Option Value} (ho : OptR β S h o ov) {hi d k : Nat} (hb : fC o hi d = some k) : aJ ov hi d = some k := by
 cases ho with
 | none => exact hb
 | some p v ho =>
  cases p with
  | c x => cases ho; exact hb
  | _ => cases hb
theorem Ph {v : Value} {hi k : Nat} (hb : bound v hi = some k) : k <= hi := by
 unfold bound at hb
 split at hb
 ·split at hb
  ·cases hb; omega
  ·cases hb
 ·cases hb
theorem kv {o : Option P} {hi d k : Nat} (hd : d <= hi) (hb : fC o hi d = some k) : k <= hi := by
 unfold fC at hb
 split at hb
 ·cases hb; exact hd
 ·exact Ph hb
 ·cases hb
theorem Pi {v : Value} {hi hi' k : Nat} (hle : hi <= hi') (hb : bound v hi = some k) : bound v hi' = some k := by
 unfold bound at hb ⊢
 split at hb
 ·rename_i i
  split at hb
  ·rename_i hc
   rw [if_pos (by omega)]; exact hb
  ·cases hb
 ·cases hb
theorem Pj {o : Option P} {ov : Option Value} (ho : OptR β S h o ov) {hi hi' d k : Nat} (hle : hi <= hi') (hb : fC o hi d = some k) : aJ ov hi' d = some k := by
 cases ho with
 | none => exact hb
 | some p v ho =>
  cases p with
  | c x => cases ho; exact Pi hle hb
  | _ => cases hb
theorem iE {vs : List Value} {ps : List P} (r : RepL β S h vs ps) : OptR β S h ps.head? vs.head? := by
 cases r with
 | nil => exact .none
 | cons v p vs ps r rs => exact .some _ _ r
theorem RepL.tail {vs : List Value} {ps : List P} (r : RepL β S h vs ps) : RepL β S h vs.tail ps.tail := by
 cases r with
 | nil => exact .nil
 | cons v p vs ps r rs => exact rs
theorem Rdc.sub {a : Addr} {sz : Nat} {vs : List Value} (x : Rdc h sz a vs) (i n : Nat) (hi : i + n <= vs.length) : Rdc h sz (aK a i) ((vs.drop i).take n) := by
 obtain ⟨h0, r, h1, h2, h3, h4, h5⟩ := x
 refine ⟨rfl, r, h1, h2, by simp [aK]; omega, ?_, fun j hj => ?_⟩
 ·rw [List.all_eq_true] at h4 ⊢
  intro y hy
  exact h4 y (List.mem_of_mem_drop (List.mem_of_mem_take hy))
 ·simp only [List.length_take, List.length_drop] at hj
  simp only [aK]
  rw [show a.off + i + j = a.off + (i + j) by omega, h5 (i + j) (by omega), List.getElem?_take, if_pos (by omega), List.getElem?_drop]
theorem uG {a : Addr} {sz sz' n c : Nat} {vs : List Value} {l : List P} (hS : S a.block) (hx : Rdc h sz' a vs) (hl : vs.length = n * sz') (hn : n <= c) (hr : RepL β S h vs l) {lo hi : Bool} {ws : List Value} {qs : List P} (hw : RepL β S h ws qs) {p : P}
  (hs : fD sz lo hi qs sz' n l = some p) : ∃ v, (∀ A, AgS S h A -> aB (.subL sz lo hi false) (.slice (some a) n c :: ws) A = some (v, A)) /\ Rep β S h v p := by
 unfold fD at hs
 simp only at hs
 split at hs
 ·rename_i hsz
  subst hsz
  split at hs
  ·rename_i hh hb1
   split at hs
   ·rename_i kk hb2
    cases hs
    have e1 : hh <= n := kv (Nat.le_refl _) hb1
    have e2 : kk <= hh := kv (Nat.zero_le _) hb2
    have o1 : aJ (if hi then (if lo then ws.tail else ws).head? else none) c n = some hh := by
     refine Pj (β := β) (S := S) (h := h) ?_ hn hb1
     cases hi
     ·exact .none
     ·cases lo
      ·exact iE hw
      ·exact iE hw.tail
    have o2 : aJ (if lo then ws.head? else none) hh 0 = some kk := by
     refine oR (β := β) (S := S) (h := h) ?_ hb2
     cases lo
     ·exact .none
     ·exact iE hw
    have hm : kk * sz' + (hh - kk) * sz' <= vs.length := by
     rw [hl, <- Nat.add_mul]
     exact Nat.mul_le_mul_right _ (by omega)
    have hlen : ((vs.drop (kk * sz')).take ((hh - kk) * sz')).length = (hh - kk) * sz' := by
     rw [List.length_take, List.length_drop]; omega
    have hxx := hx
    obtain ⟨h0, r, h1, h2, h3, h4, h5⟩ := hx
    by_cases ho : r.opn = true
    ·refine ⟨.slice (some (aK a (kk * sz'))) (hh - kk) (c - kk), fun A hA => ?_, ?_⟩
     ·simp only [aB]
      simp only [St.row?, hA _ hS, h1]
      simp only [aJ] at o1 o2 ⊢
      simp only [o1, o2, ho, h2 ho, bne_self_eq_false, Bool.false_eq_true, if_false]
     ·exact .sl _ _ _ _ _ _ hS (hxx.sub _ _ hm) hlen (by omega) ((hr.drop _).take _)
    ·rw [Bool.not_eq_true] at ho
     refine ⟨.slice (some (if c = kk then a else aK a (kk * sz'))) (hh - kk) (c - kk), fun A hA => ?_, ?_⟩
     ·simp only [aB]
      simp only [St.row?, hA _ hS, h1]
      simp only [aJ] at o1 o2 ⊢
      simp only [o1, o2, ho, Bool.false_eq_true, if_false]
     ·split
      ·rename_i hck
       have : hh - kk = 0 := by omega
       rw [this, Nat.zero_mul]
       have hz : (hh - kk) * sz' = 0 := by rw [this, Nat.zero_mul]
       simp only [List.take_zero]
       have := hxx.sub 0 0 (by omega)
       rw [jR h0, List.take_zero] at this
       exact .sl _ _ _ _ [] [] hS this (by simp) (by omega) .nil
      ·exact .sl _ _ _ _ _ _ hS (hxx.sub _ _ hm) hlen (by omega) ((hr.drop _).take _)
   ·cases hs
  ·cases hs
 ·cases hs
theorem Pk {sz sz' : Nat} {lo hi : Bool} {ws : List Value} {qs : List P} (hw : RepL β S h ws qs) {p : P}
  (hs : fD sz lo hi qs sz' 0 [] = some p) : ∃ v, (∀ A, AgS S h A -> aB (.subL sz lo hi false) (.slice none 0 0 :: ws) A = some (v, A)) /\ Rep β S h v p := by
 unfold fD at hs
 simp only at hs
 split at hs
 ·rename_i hsz
  subst hsz
  split at hs
  ·rename_i hh hb1
   split at hs
   ·rename_i kk hb2
    cases hs
    have e1 : hh <= 0 := kv (Nat.le_refl _) hb1
    have e1' : hh = 0 := by omega
    subst e1'
    have e2 : kk <= 0 := kv (Nat.zero_le _) hb2
    have e2' : kk = 0 := by omega
    subst e2'
    have o1 : aJ (if hi then (if lo then ws.tail else ws).head? else none) 0 0 = some 0 := by
     refine oR (β := β) (S := S) (h := h) ?_ hb1
     cases hi
     ·exact .none
     ·cases lo
      ·exact iE hw
      ·exact iE hw.tail
    have o2 : aJ (if lo then ws.head? else none) 0 0 = some 0 := by
     refine oR (β := β) (S := S) (h := h) ?_ hb2
     cases lo
     ·exact .none
     ·exact iE hw
    refine ⟨.slice none 0 0, fun A _ => ?_, ?_⟩
    ·simp only [aB]
     simp only [aJ] at o1 o2 ⊢
     simp only [o1, o2, Bool.false_eq_true, if_false]
     rfl
    ·simpa using Rep.nil (β := β) (S := S) (h := h) sz'
   ·cases hs
  ·cases hs
 ·cases hs
theorem uH : ∀ (l : List P) (bs : List UInt8) (vs : List Value), fB l = some bs -> RepL β S h vs l ->
  vs.foldr (fun v acc => match v, acc with | .int .u8 b, some l => some (UInt8.ofNat b.toNat :: l) | _, _ => none) (some []) = some bs
 | [], bs, vs, hi, r => by cases r; simp only [fB, Option.some.injEq] at hi; subst hi; rfl
 | p :: l, bs, vs, hi, r => by
  obtain ⟨v, ws, rfl, hv, hw⟩ := oQ r
  cases p with
  | c x =>
   cases hv
   cases v with
   | int k b =>
    cases k <;> simp only [fB] at hi <;> first
     | (cases hi; done)
     | skip
    split at hi
    ·rename_i cs hc
     cases hi
     simp only [List.foldr_cons, uH l cs ws hc hw]
    ·cases hi
   | _ => simp only [fB] at hi; cases hi
  | _ => simp only [fB] at hi; cases hi
theorem kx {A : St} {a : Addr} {v : Value} (h : A.loadN a 1 = some [v]) : aB (.load none) [.pointer (some a)] A = some (v, A) := by
 simp only [aB, h]
theorem oS {A : St} {a : Addr} {n : Nat} {vs : List Value} (h : A.loadN a n = some vs) : aB (.load (some n)) [.pointer (some a)] A = some (.agg vs.toArray, A) := by
 simp only [aB, h]
set_option maxHeartbeats 1000000 in
theorem ky {r : R} {ps : List P} {p : P} {vs : List Value} (hr : RepL β S h vs ps) (hs : aS r ps = some p) : ∃ v, (∀ A, AgS S h A -> aB r vs A = some (v, A)) /\ Rep β S h v p := by
 unfold aS at hs
 split at hs
 ·rename_i q hc
  cases hs
  obtain ⟨v, h1, rfl⟩ := Pe hr hc
  exact ⟨v, fun A _ => h1 A, .c v⟩
 ·split at hs
  ·-- ext
   obtain ⟨v, rfl, hv⟩ := inv1 hr
   cases hv with
   | tup ws l hl =>
    obtain ⟨w, h1, h2⟩ := hl.get hs
    exact ⟨w, fun A _ => by simp only [aB, List.getElem?_toArray, h1], h2⟩
  ·-- field
   obtain ⟨v, rfl, hv⟩ := inv1 hr
   cases hv with
   | agg ws l hl =>
    obtain ⟨w, h1, h2⟩ := hl.get hs
    exact ⟨w, fun A _ => by simp only [aB, List.getElem?_toArray, h1], h2⟩
  ·obtain ⟨v, rfl, hv⟩ := inv1 hr
   cases hv with
   | agg ws _ hl =>
    cases hs
    refine ⟨_, fun A _ => ?_, .agg _ _ ((hl.drop _).take _)⟩
    simp only [aB, List.extract_toArray, List.extract]
    rw [Nat.add_sub_cancel_left]
  ·-- build
   split at hs
   ·rename_i l hl
    cases hs
    obtain ⟨cs, h1, h2⟩ := oP hr (RepL.consts _) hl
    exact ⟨.agg cs.toArray, fun A _ => by simp only [aB, h1], .agg _ _ h2⟩
   ·cases hs
  ·cases hs
   exact ⟨.tuple vs.toArray, fun A _ => by simp only [aB], .tup _ _ hr⟩
  ·-- ta
   rename_i t z ok ty q heq
   obtain ⟨v, rfl, hv⟩ := inv1 hr
   cases hv with
   | ifc _ w _ hw =>
    split at hs
    ·rename_i he
     cases hs
     subst he
     refine ⟨if ok then .tuple #[w, .bool true] else w, fun A _ => by simp only [aB, if_true], ?_⟩
     cases ok
     ·exact hw
     ·exact .tup [w, .bool true] _ (.cons _ _ _ _ hw (.one (.c _)))
    ·rename_i he
     split at hs
     ·rename_i hok
      cases hs
      refine ⟨.tuple #[z, .bool false], fun A _ => by simp only [aB, if_neg he, hok, if_true], ?_⟩
      exact .tup [z, .bool false] _ (.cons _ _ _ _ (.c _) (.one (.c _)))
     ·cases hs
  ·-- nilc
   obtain ⟨v, rfl, hv⟩ := inv1 hr
   split at hs
   ·rename_i hn
    cases hs
    refine ⟨v, fun A _ => ?_, hv⟩
    cases hv <;> first
     | rfl
     | (cases hn; done)
   ·cases hs
  ·-- eqn
   obtain ⟨v, w, rfl, hv, hw⟩ := inv2 hr
   split at hs
   ·rename_i hn
    cases hs
    refine ⟨.bool (false != _), fun A _ => by simp only [aB, Pf hn hv hw]; rfl, ?_⟩
    rw [Bool.false_bne]
    exact .c _
   ·cases hs
  ·-- len
   cases hs
   obtain ⟨v, rfl, hv⟩ := inv1 hr
   cases hv <;> exact ⟨_, fun A _ => rfl, .c _⟩
  ·cases hs
   obtain ⟨v, rfl, hv⟩ := inv1 hr
   cases hv; exact ⟨_, fun A _ => rfl, .c _⟩
  ·cases hs
   obtain ⟨v, rfl, hv⟩ := inv1 hr
   cases hv; exact ⟨_, fun A _ => rfl, .c _⟩
  ·-- idxA sl
   obtain ⟨v, w, rfl, hv, hw⟩ := inv2 hr
   cases hw
   split at hs
   ·rename_i hc
    cases hs
    cases hv with
    | nil => exact absurd hc.2 (by omega)
    | sl a sz n c vs ps h1 h2 h3 h4 h5 =>
     obtain ⟨rfl, h6, h7⟩ := hc
     refine ⟨.pointer (some (aK a _)), fun A _ => by simp only [aB]; rw [if_pos ⟨h6, h7⟩], .ip a _ _ _ _ h1 h2 h5⟩
   ·cases hs
  ·obtain ⟨v, w, rfl, hv, hw⟩ := inv2 hr
   cases hw
   split at hs
   ·rename_i hc
    cases hs
    cases hv with
    | fx a sz n vs ps h1 h2 h3 h5 =>
     obtain ⟨rfl, h6, h7⟩ := hc
     refine ⟨.pointer (some (aK a _)), fun A _ => by simp only [aB]; rw [if_pos ⟨h6, h7⟩], .ip a 0 _ _ _ h1 (h2.rdc 0) h5⟩
   ·cases hs
  ·obtain ⟨v, w, rfl, hv, hw⟩ := inv2 hr
   cases hw
   split at hs
   ·rename_i hc
    cases hs
    cases hv with
    | ms k b off n c h1 =>
     refine ⟨_, fun A _ => ?_, .lp _ _ _ h1⟩
     simp only [aB]; rw [if_pos hc]; rfl
   ·cases hs
  ·obtain ⟨v, w, rfl, hv, hw⟩ := inv2 hr
   cases hw
   split at hs
   ·rename_i hc
    cases hs
    cases hv with
    | lp k b off h1 =>
     refine ⟨_, fun A _ => ?_, .lp _ _ _ h1⟩
     simp only [aB]; rw [if_pos hc]; rfl
   ·cases hs
  ·obtain ⟨v, w, rfl, hv, hw⟩ := inv2 hr
   cases hw
   split at hs
   ·rename_i hc
    cases hs
    cases hv with
    | ip a sz off vs ps h1 h2 h3 =>
     refine ⟨_, fun A _ => ?_, .ip a _ _ _ _ h1 h2 h3⟩
     simp only [aB]; rw [if_pos hc, uF]
   ·cases hs
  ·-- fld
   cases hs
   obtain ⟨v, rfl, hv⟩ := inv1 hr
   cases hv with
   | ip a sz off vs ps h1 h2 h3 =>
    refine ⟨_, fun A _ => ?_, .ip a _ _ _ _ h1 h2 h3⟩
    simp only [aB, uF]
  ·cases hs
   obtain ⟨v, rfl, hv⟩ := inv1 hr
   cases hv with
   | lit a vs ps h1 h2 h3 => exact ⟨.pointer (some (aK a _)), fun A _ => rfl, .ip a 0 _ _ _ h1 (h2.rdc 0) h3⟩
  ·cases hs
   obtain ⟨v, rfl, hv⟩ := inv1 hr
   cases hv with
   | lp i b off h1 => exact ⟨_, fun A _ => rfl, .lp _ _ _ h1⟩
  ·-- load
   obtain ⟨v, rfl, hv⟩ := inv1 hr
   cases hv with
   | ip a sz off vs ps h1 h2 h3 =>
    obtain ⟨w, e1, e2⟩ := h3.get hs
    exact ⟨w, fun A hA => kx (h2.at (hA _ h1) e1), e2⟩
  ·obtain ⟨v, rfl, hv⟩ := inv1 hr
   split at hs
   ·rename_i hle
    cases hs
    cases hv with
    | ip a sz off vs ps h1 h2 h3 =>
     exact ⟨_, fun A hA => oS (h2.range (hA _ h1) (by rw [h3.length]; exact hle)), .agg _ _ ((h3.drop _).take _)⟩
   ·cases hs
  ·obtain ⟨v, rfl, hv⟩ := inv1 hr
   cases hv with
   | lit a vs ps h1 h2 h3 =>
    obtain ⟨w, e1, e2⟩ := h3.get hs
    refine ⟨w, fun A hA => ?_, e2⟩
    have := (h2.rdc 0).at (hA _ h1) e1
    rw [jR h2.1] at this
    exact kx this
  ·obtain ⟨v, rfl, hv⟩ := inv1 hr
   split at hs
   ·rename_i hle
    cases hs
    cases hv with
    | lit a vs ps h1 h2 h3 =>
     refine ⟨_, fun A hA => oS (n := _) (vs := (vs.drop 0).take _) ?_, .agg _ _ ((h3.drop 0).take _)⟩
     have := (h2.rdc 0).range (hA _ h1) (i := 0) (n := _) (by rw [h3.length, Nat.zero_add]; exact hle)
     rw [jR h2.1] at this
     exact this
   ·cases hs
  ·-- subL
   obtain ⟨v, ws, rfl, hv, hw⟩ := oQ hr
   cases hv with
   | nil sz => exact Pk hw hs
   | sl a sz n c vs ps h1 h2 h3 h4 h5 => exact uG h1 h2 h3 h4 h5 hw hs
  ·obtain ⟨v, ws, rfl, hv, hw⟩ := oQ hr
   cases hv with
   | fx a sz n vs ps h1 h2 h3 h5 => exact uG h1 (h2.rdc _) h3 (Nat.le_refl _) h5 hw hs
  ·-- toStr
   rename_i n l heq
   obtain ⟨v, rfl, hv⟩ := inv1 hr
   split at hs
   ·rename_i hl
    split at hs
    ·rename_i bs hb
     cases hs
     cases hv with
     | nil =>
      simp only [fB, Option.some.injEq] at hb
      subst hb
      exact ⟨_, fun A _ => rfl, .c _⟩
     | sl a sz n c vs ps h1 h2 h3 h4 h5 =>
      refine ⟨mkStr bs, fun A hA => ?_, .c _⟩
      have hvl := h5.length
      have hld : A.loadN a vs.length = some vs := by
       have := h2.range (hA _ h1) (i := 0) (n := vs.length) (by omega)
       rw [jR h2.1, List.drop_zero, List.take_length] at this
       exact this
      rw [hvl.trans hl] at hld
      have hbl : dA A (.slice (some a) l.length c) = some bs := by
       show (match A.loadN a l.length with | some vs => _ | none => none) = _
       rw [hl, hld]
       exact uH _ _ _ hb h5
      rw [hl] at hbl
      simp only [aB, hbl]
    ·cases hs
   ·cases hs
  ·cases hs
end
end Go.AM.PV
