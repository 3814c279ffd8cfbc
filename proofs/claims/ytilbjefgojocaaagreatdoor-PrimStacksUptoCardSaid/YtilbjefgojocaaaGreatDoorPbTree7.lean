/- Trees of the law PrimStacks, of prim.numbers and prim.rows. -/
import Derived.Test.YtilbjefgojocaaaGreatDoorSxOk2
import Derived.OpenShut
import Derived.MakeChecks
import Derived.Test.YtilbjefgojocaaaGreatDoorPvRead
import Derived.Test.YtilbjefgojocaaaGreatDoorPbBad
namespace Go.AM
open Go
section
variable {H : Type} {enc : TypeId × Value -> H} {Pg : Program} {w : World} {base : Nat} {spare : Nat -> Bool} {held : Bool}
def e8 {α β : Type} (f : α -> Option β) : List α -> Option (List β)
 | [] => some []
 | x :: l => match f x, e8 f l with
  | some y, some ys => some (y :: ys)
  | _, _ => none
theorem mb {α β : Type} {f : α -> Option β} : ∀ {l : List α} {r : List β}, e8 f l = some r -> r.length = l.length
 | [], r, h => by simp only [e8, Option.some.injEq] at h; subst h; rfl
 | x :: l, r, h => by
  simp only [e8] at h
  split at h
  ·rename_i y ys h1 h2
   simp only [Option.some.injEq] at h
   subst h
   simp only [List.length_cons, mb h2]
  ·cases h
theorem mc {α β : Type} {f : α -> Option β} : ∀ {l : List α} {r : List β}, e8 f l = some r -> ∀ (i : Nat) (x : α), l[i]? = some x -> ∃ y, r[i]? = some y /\ f x = some y
 | [], r, h, i, x, hi => by simp at hi
 | x :: l, r, h, i, z, hi => by
  simp only [e8] at h
  split at h
  ·rename_i y ys h1 h2
   simp only [Option.some.injEq] at h
   subst h
   cases i with
   | zero => simp only [List.getElem?_cons_zero, Option.some.injEq] at hi; subst hi; exact ⟨y, rfl, h1⟩
   | succ i => rw [List.getElem?_cons_succ] at hi ⊢; exact mc h2 i z hi
  ·cases h
def dx (Pg : Program) : Nat -> TypeId -> DataW H -> Option (List Value)
 | 0, _, _ => none
 | n + 1, t, d => match Pg.underlying t, d with
  | some .bool, .lit (.bool b) => some [.bool b]
  | some (.int _), .lit (.int k z) => some [.int k z]
  | some (.array m e), .agg ds => match e8 (dx Pg n e) ds with
   | some ls => if ls.all (fun l => Nat.beq l.length (Pg.cellsOf e)) && Nat.beq ds.length m && Nat.beq (Pg.cellsOf t) (m * Pg.cellsOf e) then some ls.flatten else none
   | none => none
  | some (.struct fs), .agg ds => match e8 (fun x : Field × DataW H => match dx Pg n x.1.type x.2 with
    | some l => if Nat.beq l.length 1 && Nat.beq (Pg.cellsOf x.1.type) 1 then some l else none
    | none => none) (fs.toList.zip ds) with
   | some ls => if Nat.beq ds.length fs.size && Nat.beq (Pg.cellsOf t) fs.size && (fs.toList.zipIdx.all fun x => Nat.beq x.1.offset x.2) then some ls.flatten else none
   | none => none
  | _, _ => none
theorem chunks {sz : Nat} : ∀ {ls : List (List Value)} {cs : List Value}, (∀ (i : Nat) (l : List Value), ls[i]? = some l -> (cs.drop (i * sz)).take sz = l) -> (∀ (i : Nat) (l : List Value), ls[i]? = some l -> l.length = sz) -> cs.length = ls.length * sz -> cs = ls.flatten
 | [], cs, _, _, hl => by
  have : cs.length = 0 := by simpa using hl
  rw [List.eq_nil_of_length_eq_zero this]; rfl
 | l :: ls, cs, h, hs, hl => by
  have h0 := h 0 l rfl
  rw [Nat.zero_mul, List.drop_zero] at h0
  have h1 : cs.drop sz = ls.flatten := by
   refine chunks (sz := sz) (fun i m hi => ?_) (fun i m hi => hs (i + 1) m (by rw [List.getElem?_cons_succ]; exact hi)) ?_
   ·have := h (i + 1) m (by rw [List.getElem?_cons_succ]; exact hi)
    rw [List.drop_drop, <- this, Nat.add_mul, Nat.one_mul, Nat.add_comm]
   ·rw [List.length_drop, hl, List.length_cons, Nat.add_mul, Nat.one_mul]; omega
  rw [List.flatten_cons, <- h1, <- h0, List.take_append_drop]
theorem me : ∀ (n fuel : Nat) (t : TypeId) (cs : List Value) (d : DataW H) (p : List MemPlace) (l : List Value), DataW.trod enc Pg w base spare held fuel t cs = some (d, p) -> dx Pg n t d = some l -> cs = l
 | 0, _, _, _, _, _, _, _, h => by simp [dx] at h
 | n + 1, fuel, t, cs, d, p, l, ht, h => by
  simp only [dx] at h
  split at h
  ·rename_i b hu
   obtain ⟨b', rfl, e⟩ := DataW.trod_bool hu ht
   simp only [Prod.mk.injEq, DataW.lit.injEq, Lit.bool.injEq] at e
   rw [<- e.1]; simpa using h
  ·rename_i k' k z hu
   obtain ⟨z', rfl, e, _⟩ := DataW.trod_int hu ht
   simp only [Prod.mk.injEq, DataW.lit.injEq, Lit.int.injEq] at e
   obtain ⟨⟨rfl, rfl⟩, _⟩ := e
   simpa using h
  ·rename_i m e ds hu
   split at h
   ·rename_i ls hls
    split at h
    ·rename_i hc
     simp only [Bool.and_eq_true] at hc
     obtain ⟨⟨c1, c2⟩, c3⟩ := hc
     cases h
     obtain ⟨xs, f', _, hx, hlen, hxl, hel⟩ := DataW.trod_array hu ht
     simp only [Prod.mk.injEq, DataW.agg.injEq] at hx
     have hds : ds = xs.map (·.1) := hx.1
     have hll := mb hls
     have hmd : ds.length = m := Nat.eq_of_beq_eq_true c2
     refine chunks (sz := Pg.cellsOf e) (fun i r hi => ?_) (fun i r hi => Nat.eq_of_beq_eq_true (List.all_eq_true.1 c1 r (List.mem_of_getElem? hi))) (by rw [hlen, Nat.eq_of_beq_eq_true c3, hll, hmd])
     have hi' : i < ls.length := (List.getElem?_eq_some_iff.1 hi).1
     have hix : i < xs.length := by omega
     have h1 := hel i (by omega)
     rw [List.getElem?_eq_getElem hix] at h1
     obtain ⟨y, hy1, hy2⟩ := mc hls i xs[i].1 (by rw [hds, List.getElem?_map, List.getElem?_eq_getElem hix]; rfl)
     rw [hi] at hy1
     cases hy1
     exact me n _ e _ xs[i].1 xs[i].2 r h1 hy2
    ·cases h
   ·cases h
  ·rename_i fs ds hu
   split at h
   ·rename_i ls hls
    split at h
    ·rename_i hc
     simp only [Bool.and_eq_true] at hc
     obtain ⟨⟨c1, c2⟩, c3⟩ := hc
     cases h
     obtain ⟨xs, f', _, hx, hlen, hxl, hel⟩ := DataW.trod_struct hu ht
     simp only [Prod.mk.injEq, DataW.agg.injEq] at hx
     have hds : ds = xs.map (·.1) := hx.1
     have hll := mb hls
     have hmd : ds.length = fs.size := Nat.eq_of_beq_eq_true c1
     have hzl : (fs.toList.zip ds).length = fs.size := by rw [List.length_zip, hmd]; simp
     have key : ∀ (i : Nat) (r : List Value), ls[i]? = some r -> (cs.drop (i * 1)).take 1 = r /\ r.length = 1 := by
      intro i r hi
      have hi' : i < ls.length := (List.getElem?_eq_some_iff.1 hi).1
      have hix : i < xs.length := by omega
      have hif : i < fs.size := by omega
      have hz : (fs.toList.zip ds)[i]? = some (fs[i], xs[i].1) := by
       rw [List.getElem?_zip_eq_some]
       refine ⟨by simp [hif], ?_⟩
       show ds[i]? = some xs[i].1
       rw [hds, List.getElem?_map, List.getElem?_eq_getElem hix]; rfl
      obtain ⟨y, hy1, hy2⟩ := mc hls i _ hz
      rw [hi] at hy1
      cases hy1
      dsimp only at hy2
      split at hy2
      ·rename_i l' hl'
       split at hy2
       ·rename_i hc'
        simp only [Bool.and_eq_true] at hc'
        cases hy2
        have h1 := hel i fs[i] (by simp [hif])
        rw [List.getElem?_eq_getElem hix, Nat.eq_of_beq_eq_true hc'.2] at h1
        have ho : fs[i].offset = i := Nat.eq_of_beq_eq_true (List.all_eq_true.1 c3 (fs[i], i) (by
         rw [List.mem_zipIdx_iff_getElem?]
         simp [hif]))
        rw [ho] at h1
        rw [Nat.mul_one]
        exact ⟨me n _ _ _ xs[i].1 xs[i].2 r h1 hl', Nat.eq_of_beq_eq_true hc'.1⟩
       ·cases hy2
      ·cases hy2
     exact chunks (sz := 1) (fun i r hi => (key i r hi).1) (fun i r hi => (key i r hi).2) (by rw [hlen, Nat.eq_of_beq_eq_true c2, hll, hzl, Nat.mul_one])
    ·cases h
   ·cases h
  ·cases h
end
theorem mf {Pg : Program} {w : World} {x : String} {d : DataW Unit} {g n : Nat} {t : TypeId} {l : List Value} : ∀ {laid : List (String × DataW Unit)}, laidMet Pg laid w -> (x, d) ∈ laid -> Pg.globalNamed x = some g -> (Pg.globals[g]?).map (·.type) = some t -> dx Pg n t d = some l ->
  ∃ t' fz, w.heap[g]? = some (.cells l.toArray t' fz) := by
 intro laid hm hx hg ht hl
 obtain ⟨ps, hv, h2⟩ := hm
 clear h2
 induction laid generalizing ps with
 | nil => cases hx
 | cons y laid ih =>
  obtain ⟨y1, y2⟩ := y
  obtain ⟨g', t', cs, fuel, p, q, e1, e2, e3, e4, e5, _⟩ := hv
  rcases List.mem_cons.1 hx with e | hx
  ·cases e
   rw [hg] at e1; cases e1
   rw [ht] at e2; cases e2
   have hcs := me n fuel t cs.toList d p l e4 hl
   have hcs2 : cs = l.toArray := Array.ext' (by simpa using hcs)
   simp only [World.var?, hg, Option.bind_some] at e3
   split at e3
   ·rename_i c2 t2 fz hh
    cases e3
    rw [hcs2] at hh
    exact ⟨t2, fz, hh⟩
   ·cases e3
  ·exact ih hx q e5
end Go.AM
namespace Go.AM.PV
open Go Go.AM Go.AM.SX
inductive RdV (Pg : Program) {H : Type} : TypeId -> DataW H -> P -> Prop where
 | one (t : TypeId) (d : DataW H) (p : P) : (∀ fs, Pg.underlying t ≠ some (.struct fs)) -> Rd Pg t d [p] -> RdV Pg t d p
 | agg (t : TypeId) (fs : Array Field) (d : DataW H) (ps : List P) : Pg.underlying t = some (.struct fs) -> Rd Pg t d ps -> RdV Pg t d (.agg ps)
inductive RdA (Pg : Program) {H : Type} : List TypeId -> List (DataW H) -> List P -> Prop where
 | nil : RdA Pg [] [] []
 | cons (t : TypeId) (ts : List TypeId) (d : DataW H) (ds : List (DataW H)) (p : P) (ps : List P) : RdV Pg t d p -> RdA Pg ts ds ps -> RdA Pg (t :: ts) (d :: ds) (p :: ps)
section
variable {nm : Nm} {H : Type} {enc : TypeId × Value -> H} {Pg : Program} {w : World} {ts : List TypeId}
theorem CU (hts : jL Pg ts = true) {t : TypeId} {v : Value} {d : DataW H} {p : List MemPlace} (ht : t ∈ ts) (h : DataW.Trod enc Pg w 0 (fun _ => true) true t v d p) {base : Nat} (hv : Value.okWide Pg w .any base t v) {R : List SRow} (hR : GoodR nm w R) (hC : CloR R) :
  ∃ X v0 q, RdV Pg t d q /\ GoodR nm w (R ++ X) /\ Rep [] (c7 (R ++ X).length) (ak (R ++ X)).h v0 q /\ VR nm (au (R ++ X)) v0 v := by
 obtain ⟨n, hn⟩ := h
 obtain ⟨X, vs, ps, k1, k2⟩ := nf (nm := nm) hts n t _ _ ht hn R hR hC
 have hsc : (∀ fs, Pg.underlying t ≠ some (.struct fs)) -> v.cells.toList = [v] -> ∃ X v0 q, RdV Pg t d q /\ GoodR nm w (R ++ X) /\ Rep [] (c7 (R ++ X).length) (ak (R ++ X)).h v0 q /\ VR nm (au (R ++ X)) v0 v := by
  intro hns hc
  have hrel := k2.rel
  rw [hc] at hrel
  have hl : vs.length = 1 := hrel.length
  obtain ⟨v0, rfl⟩ : ∃ v0, vs = [v0] := by
   match vs, hl with
   | [v0], _ => exact ⟨v0, rfl⟩
  have hrep := k2.rep
  cases hrep with
  | cons _ q _ qs h1 h2 =>
   cases h2
   exact ⟨X, v0, q, .one t d q hns k1, k2.good, h1, hrel.head⟩
 have hok := List.all_eq_true.1 hts t ht
 unfold n9 at hok
 split at hok
 ·rename_i hu
  obtain ⟨b, rfl⟩ := Go.WideShapes.okWide_bool hu hv
  exact hsc (fun fs => by rw [hu]; exact fun e => by cases e) rfl
 ·rename_i hu
  obtain ⟨b, rfl⟩ := Go.WideShapes.okWide_string hu hv
  exact hsc (fun fs => by rw [hu]; exact fun e => by cases e) rfl
 ·rename_i k hu
  obtain ⟨b, rfl⟩ := Go.WideShapes.okWide_int hu hv
  exact hsc (fun fs => by rw [hu]; exact fun e => by cases e) rfl
 ·rename_i e hu
  obtain ⟨a, l, c, rfl⟩ := Go.WideShapes.okWide_slice hu hv
  exact hsc (fun fs => by rw [hu]; exact fun e => by cases e) rfl
 ·rename_i fs hu
  obtain ⟨cs, rfl, _⟩ := Go.WideShapes.okWide_struct hu hv
  refine ⟨X, .agg vs.toArray, .agg ps, .agg t fs d ps hu k1, k2.good, .agg vs ps k2.rep, VR.agg' ?_⟩
  have hrel := k2.rel
  exact hrel
 ·cases hok
theorem rT (hts : jL Pg ts = true) {base : Nat} : ∀ (tl : List TypeId) (vals : List Value) (ds : List (DataW H)) (p : List MemPlace), (∀ t, t ∈ tl -> t ∈ ts) -> DataW.TrodAll enc Pg w 0 (fun _ => true) true tl vals ds p ->
  (∀ (j : Nat) t v, tl[j]? = some t -> vals[j]? = some v -> Value.okWide Pg w .any base t v) -> ∀ R, GoodR nm w R -> CloR R ->
  ∃ X vs ps, RdA Pg tl ds ps /\ GoodR nm w (R ++ X) /\ RepL [] (c7 (R ++ X).length) (ak (R ++ X)).h vs ps /\ LR nm (au (R ++ X)) vs vals
 | [], vals, ds, p, _, h, _, R, hR, _ => by
  obtain ⟨rfl, rfl, _⟩ := Go.ChangeShapes.trodAll_nil h
  exact ⟨[], [], [], .nil, by rw [List.append_nil]; exact hR, .nil, .nil⟩
 | t :: tl, vals, ds, p, ht, h, hv, R, hR, hC => by
  obtain ⟨v, vals', d, ds', p1, q1, rfl, rfl, _, h1, h2⟩ := Go.ChangeShapes.trodAll_cons h
  obtain ⟨X, v0, q, k1, k2, k3, k4⟩ := CU hts (ht t (by simp)) h1 (hv 0 t v rfl rfl) hR hC
  obtain ⟨Y, vs, ps, m1, m2, m3, m4⟩ := rT hts tl vals' ds' q1 (fun t' h' => ht t' (by simp [h'])) h2 (fun j t' v' e1 e2 => hv (j + 1) t' v' (by simpa using e1) (by simpa using e2)) (R ++ X) k2 (hC.ext X)
  refine ⟨X ++ Y, v0 :: vs, q :: ps, .cons t tl d ds' q ps k1 m1, ?_, ?_, ?_⟩
  ·rw [<- List.append_assoc]; exact m2
  ·rw [<- List.append_assoc]
   refine .cons _ _ _ _ ?_ m3
   have := (RepL.one k3).ext Y
   cases this with
   | cons _ _ _ _ h _ => exact h
  ·rw [<- List.append_assoc]
   exact .cons (k4.mono (jM _ _)) m4
end
def dW (f : Nat -> TypeId) (gl : List GRow) : List SRow := gl.map fun r => { row := { own := false, size := r.cells.length, cells := T.ofList r.cells, elem := f r.g, esz := 0, opn := false, grp := r.g, frz := 0, sb := false }, pl := { blk := r.g, off := 0, csz := r.cells.length, esz := 0, opn := false } }
theorem CV {nm : Nm} {w : World} {f : Nat -> TypeId} {gl : List GRow} (hrows : ∀ r, r ∈ gl -> ∃ fz, w.heap[r.g]? = some (.cells r.cells.toArray (f r.g) fz)) (hpl : gl.all (fun r => r.cells.all aL) = true) : GoodR nm w (dW f gl) := by
 intro s hs
 obtain ⟨r, hr, rfl⟩ := List.mem_map.1 hs
 obtain ⟨fz, h1⟩ := hrows r hr
 refine ⟨rfl, r.cells.toArray, fz, { blk := h1, csz := by simp, opn := rfl, esz := fun h => (by cases h), fit := by simp, cell := fun i hi => ?_, frz := fun h => (by cases h), sb := fun h => (by cases h), exact := fun _ => ⟨rfl, by simp⟩ }⟩
 have hi' : i < r.cells.length := hi
 refine ⟨r.cells[i], (T.get_ofList _ _).trans (List.getElem?_eq_getElem hi'), ?_⟩
 have : r.cells.toArray.getD (0 + i) undef = r.cells[i] := by
  rw [Nat.zero_add, Array.getD_eq_getD_getElem?]
  simp [hi']
 rw [this]
 exact .of_plainV (List.all_eq_true.1 (List.all_eq_true.1 hpl r hr) _ (List.getElem_mem hi'))
def kM (gl : List GRow) : Bool := gl.zipIdx.all fun x => Nat.beq x.1.g x.2
theorem CW {gl : List GRow} (h : kM gl = true) {r : GRow} (hr : r ∈ gl) : gl[r.g]? = some r := by
 obtain ⟨i, hi⟩ := List.getElem?_of_mem hr
 have := List.all_eq_true.1 h (r, i) (by rw [List.mem_zipIdx_iff_getElem?]; exact hi)
 have e : r.g = i := Nat.eq_of_beq_eq_true this
 rw [e]
 exact hi
section
variable {nm : Nm} {H : Type} {enc : TypeId × Value -> H} {Pg : Program} {w : World} {ts : List TypeId} {E : Env}
theorem CX (ok : EnvOk E Pg nm) {f : FuncId} {gl : List GRow} {x : Value} (hx : aL x = true) (hts : jL Pg ts = true) (hng : E.ng <= gl.length) (h0 : 0 < gl.length) (hnum : kM gl = true) (hpl : gl.all (fun r => r.cells.all aL) = true)
  (hlook : ∀ g : Nat -> TypeId, gl.all (fun r => bQ (ak (dW g gl)) r) = true) (hrows : ∀ r, r ∈ gl -> ∃ t fz, w.heap[r.g]? = some (.cells r.cells.toArray t fz))
  {tl : List TypeId} {args : Array Value} {ds : List (DataW H)} {p : List MemPlace} {base : Nat} (htl : ∀ t, t ∈ tl -> t ∈ ts) (hA : DataW.TrodAll enc Pg w 0 (fun _ => true) true tl args.toList ds p)
  (hv : ∀ (j : Nat) t v, tl[j]? = some t -> args.toList[j]? = some v -> Value.okWide Pg w .any base t v) (hPR : ∀ ps, RdA Pg tl ds ps -> ∃ μ, PR E gl f ps [] (.c x) μ) :
  Calls Pg f args w fun e w' => e = .returned x /\ w.keptBut w' (fun _ => False) := by
 let g : Nat -> TypeId := fun g => match w.heap[g]? with
  | some (.cells _ t _) => t
  | _ => 0
 have hr2 : ∀ r, r ∈ gl -> ∃ fz, w.heap[r.g]? = some (.cells r.cells.toArray (g r.g) fz) := by
  intro r hr
  obtain ⟨t, fz, h1⟩ := hrows r hr
  refine ⟨fz, ?_⟩
  have : g r.g = t := by simp only [g, h1]
  rw [this]
  exact h1
 have hgood : GoodR nm w (dW g gl) := CV hr2 hpl
 have hlen : (dW g gl).length = gl.length := by simp [dW]
 have hclo : CloR (dW g gl) := by
  cases hg : gl with
  | nil => rw [hg] at h0; simp at h0
  | cons r l => exact ⟨_, rfl, rfl⟩
 obtain ⟨X, vs, ps, k1, k2, k3, k4⟩ := rT (nm := nm) hts tl args.toList ds p htl hA hv (dW g gl) hgood hclo
 obtain ⟨μ, hP⟩ := hPR ps k1
 obtain ⟨B, n, hrun⟩ := hP.start (rows := dW g gl ++ X) (fun r hr => by
  have h1 := CW hnum hr
  have h2 : r.g < gl.length := (List.getElem?_eq_some_iff.1 h1).1
  refine ⟨by rw [List.length_append, hlen]; omega, ?_⟩
  have h3 := List.all_eq_true.1 (hlook g) r hr
  unfold bQ at h3 ⊢
  rw [tI _ _ (by rw [hlen]; exact h2)]
  exact h3) k3
 refine (Om ok hrun hx k2 ?_ k4).mono ?_
 ·intro b hb
  have hb2 : b < gl.length := Nat.lt_of_lt_of_le hb hng
  have h1 : gl[b]? = some gl[b] := List.getElem?_eq_getElem hb2
  have h2 : kM gl = true := hnum
  have h3 : gl[b].g = b := Nat.eq_of_beq_eq_true (List.all_eq_true.1 h2 (gl[b], b) (by rw [List.mem_zipIdx_iff_getElem?]; exact h1))
  refine ⟨{ blk := gl[b].g, off := 0, csz := gl[b].cells.length, esz := 0, opn := false }, jM _ _ _ _ ?_, h3, rfl⟩
  unfold au dW
  rw [List.getElem?_map, h1]
  rfl
 ·rintro e w' ⟨h1, h2, _⟩
  exact ⟨h1, h2⟩
theorem CY {w' : World} {tl : List TypeId} {vs : List Value} {ds : List (DataW H)} {p : List MemPlace} (hl : Go.laidOutB Pg = true) (hm : Go.mapsRowed Pg = true) (hz : ((List.range Pg.types.size).all fun t => match Pg.underlying t with | some (.slice e) => decide (0 < Pg.cellsOf e) | _ => true) = true)
  (htl : tl.all (fun t => Nat.blt t Pg.types.size) = true) (h : DataW.TrodAll enc Pg w 0 (fun _ => true) true tl vs ds p) (hp : ∀ x, x ∈ p -> x.block < w.heap.size) (hk : w.keptBut w' (fun _ => False)) :
  DataW.TrodAll enc Pg w' 0 (fun b => decide (b < w.heap.size)) true tl vs ds p := by
 have hsame : ∀ x, x ∈ p -> w.sameAt w' x := by
  intro x hx
  have hb := hp x hx
  have h2 := hk.2.2 x.block hb
  cases x with
  | cell b off =>
   show w'.cell? ⟨b, off, none⟩ = w.cell? ⟨b, off, none⟩
   have h2 : (match w.heap[b]?, w'.heap[b]? with
    | some (.cells c t fr), some (.cells c' t' fr') => t' = t /\ fr' = fr /\ c'.size = c.size /\ ∀ j : Nat, ¬ False -> c'[j]? = c[j]?
    | some (.map es clock), some (.map es' clock') => False \/ (es' = es /\ clock' = clock)
    | o, o' => o' = o) := h2
   unfold World.cell?
   split at h2
   ·rename_i c t fr c' t' fr' e1 e2
    dsimp only
    rw [e1, e2]
    dsimp only
    rw [h2.2.2.2 off (fun h => h)]
   ·rename_i e1 e2
    dsimp only
    rw [e1, e2]
   ·dsimp only
    rw [h2]
  | map b =>
   show w'.heap[b]? = w.heap[b]?
   have h2 : (match w.heap[b]?, w'.heap[b]? with
    | some (.cells c t fr), some (.cells c' t' fr') => t' = t /\ fr' = fr /\ c'.size = c.size /\ ∀ j : Nat, ¬ False -> c'[j]? = c[j]?
    | some (.map es clock), some (.map es' clock') => False \/ (es' = es /\ clock' = clock)
    | o, o' => o' = o) := h2
   split at h2
   ·rename_i c t fr c' t' fr' e1 e2
    obtain ⟨rfl, rfl, h3, h4⟩ := h2
    rw [e1, e2]
    have : c' = c := Array.ext_getElem? fun i => h4 i (fun h => h)
    rw [this]
   ·rename_i e1 e2
    rw [e1, e2, (h2.resolve_left id).1, (h2.resolve_left id).2]
   ·exact h2
 have hcar : ∀ (tl : List TypeId) (vs : List Value) (ds : List (DataW H)) (p : List MemPlace), DataW.TrodAll enc Pg w 0 (fun _ => true) true tl vs ds p -> (∀ x, x ∈ p -> w.sameAt w' x) -> DataW.TrodAll enc Pg w' 0 (fun _ => true) true tl vs ds p := by
  intro tl
  induction tl with
  | nil =>
   intro vs ds p h _
   obtain ⟨rfl, rfl, rfl⟩ := Go.ChangeShapes.trodAll_nil h
   exact Go.ChangeShapes.trodAll_mk0
  | cons t tl ih =>
   intro vs ds p h hs
   obtain ⟨v, vs', d, ds', p1, q1, rfl, rfl, rfl, ⟨n, h1⟩, h2⟩ := Go.ChangeShapes.trodAll_cons h
   exact ⟨p1, q1, ⟨n, DataW.trod_carry n t _ _ h1 fun x hx => hs x (List.mem_append_left _ hx)⟩, ih vs' ds' q1 h2 fun x hx => hs x (List.mem_append_right _ hx), rfl⟩
 have h2 := hcar tl vs ds p h hsame
 exact DataW.TrodAll.respare (kids_rows hl hm) (fun t e ht hu => slices_full_of Pg hz t e ht hu) (fun t ht => Nat.le_of_ble_eq_true (List.all_eq_true.1 htl t ht)) h2 fun x hx => decide_eq_true (hp x hx)
end
section
variable {H : Type} {Pg : Program} {t : TypeId} {d : DataW H} {ps : List P}
theorem rU {k : IntKind} (hu : Pg.underlying t = some (.int k)) (h : Rd Pg t d ps) : ∃ n, d = .lit (.int k n) /\ ps = [.c (.int k n)] /\ (Lit.int k n).wf = true := by
 cases h with
 | bool _ b h => rw [hu] at h; cases h
 | int _ k' n h hw => rw [hu] at h; cases h; exact ⟨n, rfl, rfl, hw⟩
 | str _ s h _ => rw [hu] at h; cases h
 | nils _ e h => rw [hu] at h; cases h
 | slice _ e ds rest ps h _ => rw [hu] at h; cases h
 | struct _ fs ds ps h _ => rw [hu] at h; cases h
theorem CZ (hu : Pg.underlying t = some .string) (h : Rd Pg t d ps) : ∃ s : ByteArray, d = .lit (.string s.data.toList) /\ ps = [.c (.string s)] /\ s.size <= maxLen := by
 cases h with
 | bool _ b h => rw [hu] at h; cases h
 | int _ k' n h hw => rw [hu] at h; cases h
 | str _ s h hs => exact ⟨s, rfl, rfl, hs⟩
 | nils _ e h => rw [hu] at h; cases h
 | slice _ e ds rest ps h _ => rw [hu] at h; cases h
 | struct _ fs ds ps h _ => rw [hu] at h; cases h
theorem C0 {e : TypeId} (hu : Pg.underlying t = some (.slice e)) (h : Rd Pg t d ps) : (d = .nil /\ ps = [.sl (Pg.cellsOf e) 0 []]) \/ ∃ ds rest qs, d = .slice ds rest /\ ps = [.sl (Pg.cellsOf e) ds.length qs] /\ RdL Pg e ds qs := by
 cases h with
 | bool _ b h => rw [hu] at h; cases h
 | int _ k' n h hw => rw [hu] at h; cases h
 | str _ s h hs => rw [hu] at h; cases h
 | nils _ e h => rw [hu] at h; cases h; exact .inl ⟨rfl, rfl⟩
 | slice _ e ds rest ps h hl => rw [hu] at h; cases h; exact .inr ⟨ds, rest, ps, rfl, rfl, hl⟩
 | struct _ fs ds ps h _ => rw [hu] at h; cases h
theorem C1 {fs : Array Field} (hu : Pg.underlying t = some (.struct fs)) (h : Rd Pg t d ps) : ∃ ds, d = .agg ds /\ RdF Pg fs.toList ds ps := by
 cases h with
 | bool _ b h => rw [hu] at h; cases h
 | int _ k' n h hw => rw [hu] at h; cases h
 | str _ s h hs => rw [hu] at h; cases h
 | nils _ e h => rw [hu] at h; cases h
 | slice _ e ds rest ps h _ => rw [hu] at h; cases h
 | struct _ fs' ds ps h hF => rw [hu] at h; cases h; exact ⟨ds, rfl, hF⟩
theorem kN {f : Field} {fs : List Field} {ds : List (DataW H)} (h : RdF Pg (f :: fs) ds ps) : ∃ d ds' p ps', ds = d :: ds' /\ ps = p ++ ps' /\ Rd Pg f.type d p /\ RdF Pg fs ds' ps' := by
 cases h with
 | cons _ _ d ds p ps h1 h2 => exact ⟨d, ds, p, ps, rfl, rfl, h1, h2⟩
theorem C2 {ds : List (DataW H)} (h : RdF Pg [] ds ps) : ds = [] /\ ps = [] := by
 cases h; exact ⟨rfl, rfl⟩
theorem mg {t : TypeId} {ts : List TypeId} {ds : List (DataW H)} (h : RdA Pg (t :: ts) ds ps) : ∃ d ds' p ps', ds = d :: ds' /\ ps = p :: ps' /\ RdV Pg t d p /\ RdA Pg ts ds' ps' := by
 cases h with
 | cons _ _ d ds p ps h1 h2 => exact ⟨d, ds, p, ps, rfl, rfl, h1, h2⟩
theorem C3 {ds : List (DataW H)} (h : RdA Pg [] ds ps) : ds = [] /\ ps = [] := by
 cases h; exact ⟨rfl, rfl⟩
theorem C4 {fs : Array Field} {p : P} (hu : Pg.underlying t = some (.struct fs)) (h : RdV Pg t d p) : ∃ ps, p = .agg ps /\ Rd Pg t d ps := by
 cases h with
 | one _ _ hn _ => exact (hn fs hu).elim
 | agg _ fs' ps h1 h2 => exact ⟨ps, rfl, h2⟩
end
end Go.AM.PV
namespace Go.AM.PV
open Go Go.AM Go.AM.SX
def C5 : N := bo .add [vn 5, vi 1] (.fin 0 [vn 2, vn 3, vn 11, vn 14])
def C6 : N := .op (.idxA 1) [vn 1, vn 5] (ld 8 (.call 13 [vn 9, vn 4] (.op (.ext 0) [vn 10] (.op (.ext 1) [vn 10] (bo .neq [vn 12, vi 0] (.br (vn 13) (.fin 1 [vv (.slice none 0 0), vn 12, vn 4, vn 5]) C5))))))
def C7 : N := .op .lenL [vn 1] (bo .lss [vn 5, vn 6] (.br (vn 7) C6 (.fin 2 [vn 2, vn 3, vn 4, vn 5])))
def C8 : N := .op .tup [vn 3, vn 4] (.fin 1 [vn 7])
def C9 : N := .op .tup [vn 5, vi 0] (.fin 1 [vn 7])
def Ca : N := .sw 2 2 C9 .bad
def Cb : N := .sw 2 1 C8 Ca
def t17 : N := .loop [vv (.slice none 0 0), vi 0, vn 0, vi 0] C7 Cb
def Cc : N := .op (.newSl 9 [(bs [])] [(0, 1)]) [vv (bs [114, 111, 116])] (.call 17 [vn 12, .sl (.n 18) 1] (.op (.ext 0) [vn 19] (.op (.ext 1) [vn 19] (bo .eql [vn 21, vi 1] (.fin 1 [vn 22])))))
def Cd : N := .op (.newSl 9 [(bs [])] [(0, 1)]) [vv (bs [114, 111, 116])] (.call 17 [vn 12, .sl (.n 22) 1] (.op (.ext 0) [vn 23] (.op (.ext 1) [vn 23] (bo .eql [vn 25, vi 1] (.fin 1 [vn 26])))))
def Ce : N := .op (.newSl 9 [(bs [])] [(0, 1)]) [vv (bs [114, 111, 116])] (.call 17 [vn 12, .sl (.n 26) 1] (.op (.ext 0) [vn 27] (.op (.ext 1) [vn 27] (bo .eql [vn 29, vi 1] (.fin 1 [vn 30])))))
def Cf : N := bo .eql [vn 57, vi 11] (.fin 1 [vn 59])
def Cg : N := .call 18 [vn 56, vn 13] (.fin 1 [vn 59])
def Ch : N := .op (.newSl 9 [(bs []), (bs [])] [(0, 1), (1, 1)]) [vv (bs [112, 97, 105, 114]), vv (bs [117, 110, 112, 97, 105, 114])] (.call 17 [vn 12, .sl (.n 54) 2] (.op (.ext 0) [vn 55] (.op (.ext 1) [vn 55] (bo .neq [vn 57, vi 0] (.br (vn 58) Cf Cg)))))
def Ci : N := .op .lenL [vn 40] (bo .neq [vn 52, vi 3] (.br (vn 53) (.fin 1 [vv (.bool false)]) Ch))
def Cj : N := .call 18 [vn 36, vn 13] (.op .not [vn 50] (.br (vn 51) (.fin 1 [vv (.bool false)]) Ci))
def Ck : N := .call 18 [vn 32, vn 13] (.op .not [vn 48] (.br (vn 49) (.fin 1 [vv (.bool false)]) Cj))
def Cl : N := .call 18 [vn 28, vn 13] (.op .not [vn 46] (.br (vn 47) (.fin 1 [vv (.bool false)]) Ck))
def Cm : N := bo .neq [vn 41, vi 0] (.br (vn 45) (.fin 1 [vv (.bool false)]) Cl)
def Cn : N := bo .neq [vn 37, vi 0] (.br (vn 44) (.fin 1 [vv (.bool false)]) Cm)
def Co : N := bo .neq [vn 33, vi 0] (.br (vn 43) (.fin 1 [vv (.bool false)]) Cn)
def Cp : N := .op (.newSl 9 [(bs []), (bs [])] [(0, 1), (1, 1)]) [vv (bs [115, 119, 97, 112]), vv (bs [115, 119, 97, 112])] (.call 17 [vn 12, .sl (.n 26) 2] (.op (.ext 0) [vn 27] (.op (.ext 1) [vn 27] (.op (.newSl 9 [(bs []), (bs []), (bs [])] [(0, 1), (1, 1), (2, 1)]) [vv (bs [114, 111, 116]), vv (bs [114, 111, 116]), vv (bs [114, 111, 116])] (.call 17 [vn 12, .sl (.n 30) 3] (.op (.ext 0) [vn 31] (.op (.ext 1) [vn 31] (.op (.newSl 9 [(bs []), (bs [])] [(0, 1), (1, 1)]) [vv (bs [100, 117, 112]), vv (bs [100, 114, 111, 112])] (.call 17 [vn 12, .sl (.n 34) 2] (.op (.ext 0) [vn 35] (.op (.ext 1) [vn 35] (.op (.newSl 9 [(bs []), (bs []), (bs []), (bs []), (bs [])] [(0, 1), (1, 1), (2, 1), (3, 1), (4, 1)]) [vv (bs [111, 118, 101, 114]), vv (bs [110, 105, 112]), vv (bs [115, 119, 97, 112]), vv (bs [100, 114, 111, 112]), vv (bs [111, 118, 101, 114])] (.call 17 [vn 12, .sl (.n 38) 5] (.op (.ext 0) [vn 39] (.op (.ext 1) [vn 39] (bo .neq [vn 29, vi 0] (.br (vn 42) (.fin 1 [vv (.bool false)]) Co)))))))))))))))))
def Cq : N := .op (.idxA 4) [vn 13, vi 2] (.op (.load (some 4)) [vn 22] (.call 16 [vn 23] (.op .not [vn 24] (.br (vn 25) Ce Cp))))
def Cr : N := .op (.idxA 4) [vn 13, vi 1] (.op (.load (some 4)) [vn 18] (.call 16 [vn 19] (.op .not [vn 20] (.br (vn 21) Cd Cq))))
def Cs : N := .op (.load (some 4)) [vn 3] (.op (.load (some 4)) [vn 4] (.op (.load (some 4)) [vn 5] (.op (.newSl 35 [(.int .i64 0), (.int .i64 0), (bs []), (.slice none 0 0), (.int .i64 0), (.int .i64 0), (bs []), (.slice none 0 0), (.int .i64 0), (.int .i64 0), (bs []), (.slice none 0 0)] [(0, 4), (4, 4), (8, 4)]) [vn 8, vn 9, vn 10] (.call 12 [.sl (.n 11) 3] (.call 11 [vn 12] (.op (.idxA 4) [vn 13, vi 0] (.op (.load (some 4)) [vn 14] (.call 16 [vn 15] (.op .not [vn 16] (.br (vn 17) Cc Cr))))))))))
def t4 : N := .op (.box 35) [vn 0] (.op (.box 35) [vn 1] (.op (.box 35) [vn 2] (.call 10 [] (.op .not [vn 6] (.br (vn 7) (.fin 1 [vv (.bool false)]) Cs)))))
def Ct : N := .op (.ext 1) [vn 10] (.call 73 [vn 11, vn 12] (.save (.op (.ext 0) [vn 13] (.op (.ext 1) [vn 13] (.self (vn 0) (.self (vn 0) (.self (vn 0) (.self (vn 1) (.chk 0 (.idxA 1) [vn 1, vi 0] (vn 4) (.chk 0 (.load none) [vn 4] (vn 5) (.self (vn 1) (.self (vn 1) (.chk 1 (.idxA 1) [vn 1, vi 1] (vn 7) (.chk 0 (.idxA 1) [vn 1, vi 1] (vn 7) (.chk 1 (.load none) [vn 7] (vn 8) (.chk 0 (.load none) [vn 7] (vn 8) (.chk 3 (.ext 0) [vn 10] (vn 11) (.chk 3 (.ext 1) [vn 10] (vn 12) (.chk 4 (.ext 0) [vn 13] (vn 14) (.chk 4 (.ext 1) [vn 13] (vn 15) (.self (vn 14) (.self (vn 15) (.op .tup [vn 14, vn 15] (.fin 1 [vn 16]))))))))))))))))))))))))
def Cu : N := .bump 17 (.save (.op (.idxA 1) [vn 1, vi 0] (ld 4 (.call 75 [vn 5] (.save (.op (.idxA 1) [vn 1, vi 1] (ld 7 (.call 75 [vn 8] (.save (.call 74 [vn 0, vn 6, vn 9] (.save (.op (.ext 0) [vn 10] Ct))))))))))))
def Cv : N := .op (.ext 1) [vn 11] (.call 73 [vn 12, vn 13] (.save (.op (.ext 0) [vn 14] (.op (.ext 1) [vn 14] (.self (vn 0) (.self (vn 0) (.self (vn 0) (.self (vn 1) (.chk 0 (.idxA 1) [vn 1, vi 0] (vn 5) (.chk 0 (.load none) [vn 5] (vn 6) (.self (vn 1) (.self (vn 1) (.chk 1 (.idxA 1) [vn 1, vi 1] (vn 8) (.chk 0 (.idxA 1) [vn 1, vi 1] (vn 8) (.chk 1 (.load none) [vn 8] (vn 9) (.chk 0 (.load none) [vn 8] (vn 9) (.chk 3 (.ext 0) [vn 11] (vn 12) (.chk 3 (.ext 1) [vn 11] (vn 13) (.chk 4 (.ext 0) [vn 14] (vn 15) (.chk 4 (.ext 1) [vn 14] (vn 16) (.self (vn 15) (.self (vn 16) (.op .tup [vn 15, vn 16] (.fin 1 [vn 17]))))))))))))))))))))))))
def Cw : N := .bump 17 (.save (.op (.idxA 1) [vn 1, vi 0] (ld 5 (.call 75 [vn 6] (.save (.op (.idxA 1) [vn 1, vi 1] (ld 8 (.call 75 [vn 9] (.save (.call 74 [vn 0, vn 7, vn 10] (.save (.op (.ext 0) [vn 11] Cv))))))))))))
def Cx : N := .op (.ext 1) [vn 12] (.call 73 [vn 13, vn 14] (.save (.op (.ext 0) [vn 15] (.op (.ext 1) [vn 15] (.self (vn 0) (.self (vn 0) (.self (vn 0) (.self (vn 1) (.chk 0 (.idxA 1) [vn 1, vi 0] (vn 6) (.chk 0 (.load none) [vn 6] (vn 7) (.self (vn 1) (.self (vn 1) (.chk 1 (.idxA 1) [vn 1, vi 1] (vn 9) (.chk 0 (.idxA 1) [vn 1, vi 1] (vn 9) (.chk 1 (.load none) [vn 9] (vn 10) (.chk 0 (.load none) [vn 9] (vn 10) (.chk 3 (.ext 0) [vn 12] (vn 13) (.chk 3 (.ext 1) [vn 12] (vn 14) (.chk 4 (.ext 0) [vn 15] (vn 16) (.chk 4 (.ext 1) [vn 15] (vn 17) (.self (vn 16) (.self (vn 17) (.op .tup [vn 16, vn 17] (.fin 1 [vn 18]))))))))))))))))))))))))
def Cy : N := .bump 17 (.save (.op (.idxA 1) [vn 1, vi 0] (ld 6 (.call 75 [vn 7] (.save (.op (.idxA 1) [vn 1, vi 1] (ld 9 (.call 75 [vn 10] (.save (.call 74 [vn 0, vn 8, vn 11] (.save (.op (.ext 0) [vn 12] Cx))))))))))))
def Cz : N := .op (.ext 1) [vn 13] (.call 73 [vn 14, vn 15] (.save (.op (.ext 0) [vn 16] (.op (.ext 1) [vn 16] (.self (vn 0) (.self (vn 0) (.self (vn 0) (.self (vn 1) (.chk 0 (.idxA 1) [vn 1, vi 0] (vn 7) (.chk 0 (.load none) [vn 7] (vn 8) (.self (vn 1) (.self (vn 1) (.chk 1 (.idxA 1) [vn 1, vi 1] (vn 10) (.chk 0 (.idxA 1) [vn 1, vi 1] (vn 10) (.chk 1 (.load none) [vn 10] (vn 11) (.chk 0 (.load none) [vn 10] (vn 11) (.chk 3 (.ext 0) [vn 13] (vn 14) (.chk 3 (.ext 1) [vn 13] (vn 15) (.chk 4 (.ext 0) [vn 16] (vn 17) (.chk 4 (.ext 1) [vn 16] (vn 18) (.self (vn 17) (.self (vn 18) (.op .tup [vn 17, vn 18] (.fin 1 [vn 19]))))))))))))))))))))))))
def DA : N := .bump 17 (.save (.op (.idxA 1) [vn 1, vi 0] (ld 7 (.call 75 [vn 8] (.save (.op (.idxA 1) [vn 1, vi 1] (ld 10 (.call 75 [vn 11] (.save (.call 74 [vn 0, vn 9, vn 12] (.save (.op (.ext 0) [vn 13] Cz))))))))))))
def DB : N := .op (.ext 1) [vn 14] (.call 73 [vn 15, vn 16] (.save (.op (.ext 0) [vn 17] (.op (.ext 1) [vn 17] (.self (vn 0) (.self (vn 0) (.self (vn 0) (.self (vn 1) (.chk 0 (.idxA 1) [vn 1, vi 0] (vn 8) (.chk 0 (.load none) [vn 8] (vn 9) (.self (vn 1) (.self (vn 1) (.chk 1 (.idxA 1) [vn 1, vi 1] (vn 11) (.chk 0 (.idxA 1) [vn 1, vi 1] (vn 11) (.chk 1 (.load none) [vn 11] (vn 12) (.chk 0 (.load none) [vn 11] (vn 12) (.chk 3 (.ext 0) [vn 14] (vn 15) (.chk 3 (.ext 1) [vn 14] (vn 16) (.chk 4 (.ext 0) [vn 17] (vn 18) (.chk 4 (.ext 1) [vn 17] (vn 19) (.self (vn 18) (.self (vn 19) (.op .tup [vn 18, vn 19] (.fin 1 [vn 20]))))))))))))))))))))))))
def DC : N := .bump 17 (.save (.op (.idxA 1) [vn 1, vi 0] (ld 8 (.call 75 [vn 9] (.save (.op (.idxA 1) [vn 1, vi 1] (ld 11 (.call 75 [vn 12] (.save (.call 74 [vn 0, vn 10, vn 13] (.save (.op (.ext 0) [vn 14] DB))))))))))))
def DD : N := .op (.idxA 1) [vn 1, vi 0] (ld 8 (.call 75 [vn 9] (.call 76 [vn 0, vn 10] (.op (.ext 0) [vn 11] (.op (.ext 1) [vn 11] (.call 73 [vn 12, vn 13] (.op (.ext 0) [vn 14] (.op (.ext 1) [vn 14] (.op .tup [vn 15, vn 16] (.fin 1 [vn 17]))))))))))
def DE : N := .op (.idxA 1) [vn 1, vi 0] (ld 9 (.call 75 [vn 10] (.call 76 [vn 0, vn 11] (.op (.ext 0) [vn 12] (.op (.ext 1) [vn 12] (.call 73 [vn 13, vn 14] (.op (.ext 0) [vn 15] (.op (.ext 1) [vn 15] (.op .tup [vn 16, vn 17] (.fin 1 [vn 18]))))))))))
def DF : N := .call 75 [vn 12] (.save (.op (.idxA 1) [vn 1, vi 1] (ld 14 (.call 75 [vn 15] (.save (.op (.mm false) [vn 13, vn 16] (.op (.build [(.int .i64 0)] [(0, 1)]) [vn 17] (.opAt 10 11 (.newSl 41 [.nilIface] [(0, 1)]) [.ifc 45 (.n 18)] (.self (vn 1) (.chk 0 (.idxA 1) [vn 1, vi 0] (vn 11) (.chk 0 (.load none) [vn 11] (vn 12) (.self (vn 1) (.self (vn 1) (.chk 1 (.idxA 1) [vn 1, vi 1] (vn 14) (.chk 0 (.idxA 1) [vn 1, vi 1] (vn 14) (.chk 1 (.load none) [vn 14] (vn 15) (.chk 0 (.load none) [vn 14] (vn 15) (.chk 2 (.mm false) [vn 13, vn 16] (vn 17) (.chk 2 (.build [(.int .i64 0)] [(0, 1)]) [vn 17] (vn 18) (.self (.ifc 45 (.n 18)) (.self (.sl (.n 19) 1) (.self (vi 0) (.op .tup [.sl (.n 19) 1, vi 0] (.fin 1 [vn 20]))))))))))))))))))))))))
def DG : N := .bump 14 (.save (.op (.idxA 1) [vn 1, vi 0] (ld 11 DF)))
def DH : N := .call 75 [vn 13] (.save (.op (.idxA 1) [vn 1, vi 1] (ld 15 (.call 75 [vn 16] (.save (.op (.mm true) [vn 14, vn 17] (.op (.build [(.int .i64 0)] [(0, 1)]) [vn 18] (.opAt 11 11 (.newSl 41 [.nilIface] [(0, 1)]) [.ifc 45 (.n 19)] (.self (vn 1) (.chk 0 (.idxA 1) [vn 1, vi 0] (vn 12) (.chk 0 (.load none) [vn 12] (vn 13) (.self (vn 1) (.self (vn 1) (.chk 1 (.idxA 1) [vn 1, vi 1] (vn 15) (.chk 0 (.idxA 1) [vn 1, vi 1] (vn 15) (.chk 1 (.load none) [vn 15] (vn 16) (.chk 0 (.load none) [vn 15] (vn 16) (.chk 2 (.mm true) [vn 14, vn 17] (vn 18) (.chk 2 (.build [(.int .i64 0)] [(0, 1)]) [vn 18] (vn 19) (.self (.ifc 45 (.n 19)) (.self (.sl (.n 20) 1) (.self (vi 0) (.op .tup [.sl (.n 20) 1, vi 0] (.fin 1 [vn 21]))))))))))))))))))))))))
def DJ : N := .bump 14 (.save (.op (.idxA 1) [vn 1, vi 0] (ld 12 DH)))
def DK : N := .op (.idxA 1) [vn 1, vi 0] (ld 13 (.call 75 [vn 14] (.save (.op (.idxA 1) [vn 1, vi 1] (ld 16 (.call 75 [vn 17] (.save (bo .lss [vn 15, vn 18] (.call 72 [vn 19] (.save (.self (vn 1) (.chk 0 (.idxA 1) [vn 1, vi 0] (vn 13) (.chk 0 (.load none) [vn 13] (vn 14) (.self (vn 1) (.self (vn 1) (.chk 1 (.idxA 1) [vn 1, vi 1] (vn 16) (.chk 0 (.idxA 1) [vn 1, vi 1] (vn 16) (.chk 1 (.load none) [vn 16] (vn 17) (.chk 0 (.load none) [vn 16] (vn 17) (.chk 2 (.bin .lss) [vn 15, vn 18] (vn 19) (.self (vn 20) (.self (vi 0) (.op .tup [vn 20, vi 0] (.fin 1 [vn 21]))))))))))))))))))))))))
def DL : N := .bump 12 (.save DK)
def DM : N := .op (.idxA 1) [vn 1, vi 0] (ld 14 (.call 75 [vn 15] (.save (.op (.idxA 1) [vn 1, vi 1] (ld 17 (.call 75 [vn 18] (.save (bo .gtr [vn 16, vn 19] (.call 72 [vn 20] (.save (.self (vn 1) (.chk 0 (.idxA 1) [vn 1, vi 0] (vn 14) (.chk 0 (.load none) [vn 14] (vn 15) (.self (vn 1) (.self (vn 1) (.chk 1 (.idxA 1) [vn 1, vi 1] (vn 17) (.chk 0 (.idxA 1) [vn 1, vi 1] (vn 17) (.chk 1 (.load none) [vn 17] (vn 18) (.chk 0 (.load none) [vn 17] (vn 18) (.chk 2 (.bin .gtr) [vn 16, vn 19] (vn 20) (.self (vn 21) (.self (vi 0) (.op .tup [vn 21, vi 0] (.fin 1 [vn 22]))))))))))))))))))))))))
def DN : N := .bump 12 (.save DM)
def DO : N := .bump 10 (.save (.op (.idxA 1) [vn 1, vi 0] (ld 15 (.op (.idxA 1) [vn 1, vi 1] (ld 17 (.call 77 [vn 16, vn 18] (.save (.call 72 [vn 19] (.save (.self (vn 1) (.chk 0 (.idxA 1) [vn 1, vi 0] (vn 15) (.chk 0 (.load none) [vn 15] (vn 16) (.self (vn 1) (.chk 0 (.idxA 1) [vn 1, vi 1] (vn 17) (.chk 0 (.load none) [vn 17] (vn 18) (.self (vn 20) (.self (vi 0) (.op .tup [vn 20, vi 0] (.fin 1 [vn 21])))))))))))))))))))
def DP : N := .op (.idxA 1) [vn 1, vi 1] (ld 19 (.op (.ta 49 (.agg #[(.bool false)]) false) [vn 20] (.op (.field 0 none) [vn 21] (.call 72 [vn 22] (.op .tup [vn 23, vi 0] (.fin 1 [vn 24]))))))
def DQ : N := .call 72 [vv (.bool false)] (.op .tup [vn 19, vi 0] (.fin 1 [vn 20]))
def DS : N := .op (.idxA 1) [vn 1, vi 0] (ld 15 (.op (.ta 49 (.agg #[(.bool false)]) false) [vn 16] (.op (.field 0 none) [vn 17] (.br (vn 18) DP DQ))))
def DT : N := .call 72 [vv (.bool true)] (.op .tup [vn 20, vi 0] (.fin 1 [vn 21]))
def DU : N := .op (.idxA 1) [vn 1, vi 1] (ld 20 (.op (.ta 49 (.agg #[(.bool false)]) false) [vn 21] (.op (.field 0 none) [vn 22] (.call 72 [vn 23] (.op .tup [vn 24, vi 0] (.fin 1 [vn 25]))))))
def DV : N := .op (.idxA 1) [vn 1, vi 0] (ld 16 (.op (.ta 49 (.agg #[(.bool false)]) false) [vn 17] (.op (.field 0 none) [vn 18] (.br (vn 19) DT DU))))
def DW : N := .op (.idxA 1) [vn 1, vi 0] (ld 17 (.op (.ta 49 (.agg #[(.bool false)]) false) [vn 18] (.op (.field 0 none) [vn 19] (.op .not [vn 20] (.call 72 [vn 21] (.op .tup [vn 22, vi 0] (.fin 1 [vn 23])))))))
def DX : N := .op .tup [vv (.slice none 0 0), vi 0] (.fin 1 [vn 17])
def DY : N := bo .eql [vn 0, vv (bs [110, 111, 116])] (.br (vn 16) DW DX)
def DZ : N := bo .eql [vn 0, vv (bs [111, 114])] (.br (vn 15) DV DY)
def D0 : N := bo .eql [vn 0, vv (bs [97, 110, 100])] (.br (vn 14) DS DZ)
def D1 : N := bo .eql [vn 0, vv (bs [61])] (.br (vn 13) DO D0)
def D2 : N := bo .eql [vn 0, vv (bs [62])] (.br (vn 12) DN D1)
def D3 : N := bo .eql [vn 0, vv (bs [60])] (.br (vn 11) DL D2)
def D4 : N := bo .eql [vn 0, vv (bs [109, 97, 120])] (.br (vn 10) DJ D3)
def D5 : N := bo .eql [vn 0, vv (bs [109, 105, 110])] (.br (vn 9) DG D4)
def D6 : N := bo .eql [vn 0, vv (bs [97, 98, 115])] (.br (vn 8) DE D5)
def D7 : N := bo .eql [vn 0, vv (bs [110, 101, 103])] (.br (vn 7) DD D6)
def D8 : N := bo .eql [vn 0, vv (bs [109, 111, 100])] (.br (vn 6) DC D7)
def D9 : N := bo .eql [vn 0, vv (bs [47])] (.br (vn 5) DA D8)
def Da : N := bo .eql [vn 0, vv (bs [42])] (.br (vn 4) Cy D9)
def Db : N := bo .eql [vn 0, vv (bs [45])] (.br (vn 3) Cw Da)
def t44 : N := bo .eql [vn 0, vv (bs [43])] (.br (vn 2) Cu Db)
def Dc : N := .op (.idxA 1) [vn 1, vi 0] (ld 3 (.call 78 [vn 4] (.op (.build [(.int .i64 0)] [(0, 1)]) [vn 5] (.op (.newSl 41 [.nilIface] [(0, 1)]) [.ifc 45 (.n 6)] (.op .tup [.sl (.n 7) 1, vi 0] (.fin 1 [vn 8]))))))
def Dd : N := ld 5 (.op (.idxA 1) [vn 1, vi 1] (ld 7 (.call 79 [vn 6, vn 8] (.save (.op (.ext 0) [vn 9] (.op (.ext 1) [vn 9] (.call 73 [vn 10, vn 11] (.save (.op (.ext 0) [vn 12] (.op (.ext 1) [vn 12] (.self (vn 1) (.chk 0 (.idxA 1) [vn 1, vi 0] (vn 5) (.chk 0 (.load none) [vn 5] (vn 6) (.self (vn 1) (.chk 0 (.idxA 1) [vn 1, vi 1] (vn 7) (.chk 0 (.load none) [vn 7] (vn 8) (.chk 1 (.ext 0) [vn 9] (vn 10) (.chk 1 (.ext 1) [vn 9] (vn 11) (.chk 2 (.ext 0) [vn 12] (vn 13) (.chk 2 (.ext 1) [vn 12] (vn 14) (.self (vn 13) (.self (vn 14) (.op .tup [vn 13, vn 14] (.fin 1 [vn 15]))))))))))))))))))))))))
def De : N := .bump 14 (.save (.op (.idxA 1) [vn 1, vi 0] Dd))
def Df : N := ld 6 (.op (.idxA 1) [vn 1, vi 1] (ld 8 (.call 79 [vn 7, vn 9] (.save (.op (.ext 0) [vn 10] (.op (.ext 1) [vn 10] (.call 73 [vn 11, vn 12] (.save (.op (.ext 0) [vn 13] (.op (.ext 1) [vn 13] (.self (vn 1) (.chk 0 (.idxA 1) [vn 1, vi 0] (vn 6) (.chk 0 (.load none) [vn 6] (vn 7) (.self (vn 1) (.chk 0 (.idxA 1) [vn 1, vi 1] (vn 8) (.chk 0 (.load none) [vn 8] (vn 9) (.chk 1 (.ext 0) [vn 10] (vn 11) (.chk 1 (.ext 1) [vn 10] (vn 12) (.chk 2 (.ext 0) [vn 13] (vn 14) (.chk 2 (.ext 1) [vn 13] (vn 15) (.self (vn 14) (.self (vn 15) (.op .tup [vn 14, vn 15] (.fin 1 [vn 16]))))))))))))))))))))))))
def Dg : N := .bump 14 (.save (.op (.idxA 1) [vn 1, vi 0] Df))
def Dh : N := .op (.fld 0) [vn 18] (ld 20 (.op (.idxA 1) [vn 21, vi 0] (ld 22 (.call 73 [vn 23, vn 14] (.op (.ext 0) [vn 24] (.op (.ext 1) [vn 24] (.op .tup [vn 25, vn 26] (.fin 1 [vn 27]))))))))
def Di : N := .call 73 [vn 13, vn 14] (.op (.ext 0) [vn 20] (.op (.ext 1) [vn 20] (.op .tup [vn 21, vn 22] (.fin 1 [vn 23]))))
def Dj : N := .op (.idxA 1) [vn 1, vi 0] (ld 6 (.call 75 [vn 7] (bo .add [vn 8, vi 1] (.op (.idxA 1) [vn 1, vi 1] (ld 10 (.call 80 [vn 8, vn 9, vn 11] (.op (.ext 0) [vn 12] (.op (.ext 1) [vn 12] (.op (.ta 52 (.agg #[(.slice none 0 0)]) true) [vn 13] (.op (.ext 0) [vn 15] (.op (.ext 1) [vn 15] (.op (.alloc 52 [(.slice none 0 0)]) [] (.op (.store 1) [vn 18, vn 16] (.br (vn 17) Dh Di))))))))))))))
def Dk : N := .chk 0 (.idxA 1) [vn 1, vi 0] (vn 8) (.chk 0 (.load none) [vn 8] (vn 9) (.self (vn 1) (.self (vn 1) (.chk 1 (.idxA 1) [vn 1, vi 1] (vn 11) (.chk 0 (.idxA 1) [vn 1, vi 1] (vn 11) (.chk 1 (.load none) [vn 11] (vn 12) (.chk 0 (.load none) [vn 11] (vn 12) (.self (vn 1) (.self (vn 1) (.self (vn 1) (.chk 2 (.idxA 1) [vn 1, vi 2] (vn 14) (.chk 1 (.idxA 1) [vn 1, vi 2] (vn 14) (.chk 0 (.idxA 1) [vn 1, vi 2] (vn 14) (.chk 2 (.load none) [vn 14] (vn 15) (.chk 1 (.load none) [vn 14] (vn 15) (.chk 0 (.load none) [vn 14] (vn 15) (.chk 3 (.ext 0) [vn 16] (vn 17) (.chk 3 (.ext 1) [vn 16] (vn 18) (.chk 4 (.ext 0) [vn 19] (vn 20) (.chk 4 (.ext 1) [vn 19] (vn 21) (.self (vn 20) (.self (vn 21) (.op .tup [vn 20, vn 21] (.fin 1 [vn 22]))))))))))))))))))))))))
def Dl : N := .bump 19 (.save (.op (.idxA 1) [vn 1, vi 0] (ld 8 (.call 75 [vn 9] (.save (.op (.idxA 1) [vn 1, vi 1] (ld 11 (.call 75 [vn 12] (.save (.op (.idxA 1) [vn 1, vi 2] (ld 14 (.call 80 [vn 10, vn 13, vn 15] (.save (.op (.ext 0) [vn 16] (.op (.ext 1) [vn 16] (.call 73 [vn 17, vn 18] (.save (.op (.ext 0) [vn 19] (.op (.ext 1) [vn 19] (.self (vn 1) Dk))))))))))))))))))))
def Dm : N := .op (.build [(.slice none 0 0)] [(0, 1)]) [vn 1] (.op (.newSl 41 [.nilIface] [(0, 1)]) [.ifc 52 (.n 8)] (.op .tup [.sl (.n 9) 1, vi 0] (.fin 1 [vn 10])))
def Dn : N := .op (.build [(.slice none 0 0)] [(0, 1)]) [vn 1] (.op (.newSl 41 [.nilIface] [(0, 1)]) [.ifc 52 (.n 9)] (.op .tup [.sl (.n 10) 1, vi 0] (.fin 1 [vn 11])))
def Do : N := .op .tup [vv (.slice none 0 0), vi 4] (.fin 1 [vn 16])
def Dp : N := .op .tup [vn 13, vi 0] (.fin 1 [vn 16])
def Dq : N := .op (.idxA 1) [vn 1, vi 0] (ld 10 (.op (.ta 52 (.agg #[(.slice none 0 0)]) false) [vn 11] (.op (.field 0 none) [vn 12] (.op .lenL [vn 13] (bo .neq [vn 14, vi 2] (.br (vn 15) Do Dp))))))
def Dr : N := .op (.idxA 1) [vn 1, vi 0] (ld 11 (.call 81 [vn 12] (.op (.newSl 41 [.nilIface] [(0, 1)]) [vn 13] (.op .tup [.sl (.n 14) 1, vi 0] (.fin 1 [vn 15])))))
def Ds : N := .op (.idxA 1) [vn 1, vi 1] (ld 17 (.op (.ta 76 (.agg #[(.slice none 0 0)]) false) [vn 18] (.op (.field 0 none) [vn 19] (.opAt 12 11 (.newSl 73 [(.slice none 0 0), (.slice none 0 0)] [(0, 1), (1, 1)]) [.sl (.n 16) 1, vn 20] (.call 82 [.sl (.n 21) 2] (.save (.op (.build [(.slice none 0 0)] [(0, 1)]) [vn 22] (.opAt 12 15 (.newSl 41 [.nilIface] [(0, 1)]) [.ifc 76 (.n 23)] (.self (vn 1) (.chk 0 (.idxA 1) [vn 1, vi 0] (vn 13) (.chk 0 (.load none) [vn 13] (vn 14) (.chk 0 (.build [.nilIface] [(0, 1)]) [vn 14] (vn 15) (.self (.ifc 134 (.n 15)) (.self (vn 1) (.chk 0 (.idxA 1) [vn 1, vi 1] (vn 17) (.chk 0 (.load none) [vn 17] (vn 18) (.chk 0 (.ta 76 (.agg #[(.slice none 0 0)]) false) [vn 18] (vn 19) (.chk 0 (.field 0 none) [vn 19] (vn 20) (.chk 1 (.build [(.slice none 0 0)] [(0, 1)]) [vn 22] (vn 23) (.self (.ifc 76 (.n 23)) (.self (.sl (.n 24) 1) (.self (vi 0) (.op .tup [.sl (.n 24) 1, vi 0] (.fin 1 [vn 25]))))))))))))))))))))))))
def Dt : N := .bump 18 (.save (.op (.idxA 1) [vn 1, vi 0] (ld 13 (.op (.build [.nilIface] [(0, 1)]) [vn 14] (.opAt 12 5 (.newSl 100 [.nilIface] [(0, 1)]) [.ifc 134 (.n 15)] Ds)))))
def Du : N := .op (.idxA 1) [vn 1, vi 0] (ld 13 (.call 83 [vn 14] (.op (.build [(bs [])] [(0, 1)]) [vn 15] (.op (.newSl 41 [.nilIface] [(0, 1)]) [.ifc 72 (.n 16)] (.op .tup [.sl (.n 17) 1, vi 0] (.fin 1 [vn 18]))))))
def Dv : N := .op (.idxA 1) [vn 1, vi 0] (ld 13 (.op (.ta 72 (.agg #[(bs [])]) false) [vn 14] (.op (.field 0 none) [vn 15] (.call 84 [vn 16] (.op (.ext 0) [vn 17] (.op (.ext 1) [vn 17] (.op (.build [(.int .i64 0)] [(0, 1)]) [vn 18] (.op (.newSl 41 [.nilIface] [(0, 1)]) [.ifc 45 (.n 20)] (.op .tup [.sl (.n 21) 1, vn 19] (.fin 1 [vn 22]))))))))))
def Dw : N := bo .eql [vn 0, vv (bs [62, 115, 116, 114])] (.br (vn 12) Du Dv)
def Dx : N := bo .eql [vn 0, vv (bs [99, 117, 114, 114, 121])] (.br (vn 11) Dt Dw)
def Dy : N := bo .eql [vn 0, vv (bs [114, 101, 118, 101, 114, 115, 101])] (.br (vn 10) Dr Dx)
def Dz : N := bo .eql [vn 0, vv (bs [117, 110, 112, 97, 105, 114])] (.br (vn 9) Dq Dy)
def EA : N := bo .eql [vn 0, vv (bs [112, 97, 105, 114])] (.br (vn 8) Dn Dz)
def EB : N := bo .eql [vn 0, vv (bs [119, 114, 97, 112])] (.br (vn 7) Dm EA)
def EC : N := bo .eql [vn 0, vv (bs [115, 108, 105, 99, 101])] (.br (vn 6) Dl EB)
def ED : N := bo .eql [vn 0, vv (bs [110, 116, 104])] (.br (vn 5) Dj EC)
def EE : N := bo .eql [vn 0, vv (bs [99, 111, 109, 112, 111, 115, 101])] (.br (vn 4) Dg ED)
def EF : N := bo .eql [vn 0, vv (bs [97, 112, 112, 101, 110, 100])] (.br (vn 3) De EE)
def t45 : N := bo .eql [vn 0, vv (bs [108, 101, 110, 103, 116, 104])] (.br (vn 2) Dc EF)
def t73 : N := .op (.newSl 41 [.nilIface] [(0, 1)]) [vn 0] (.op .tup [.sl (.n 2) 1, vn 1] (.fin 1 [vn 3]))
def t75 : N := .op (.ta 45 (.agg #[(.int .i64 0)]) false) [vn 0] (.op (.field 0 none) [vn 1] (.fin 1 [vn 2]))
end Go.AM.PV
