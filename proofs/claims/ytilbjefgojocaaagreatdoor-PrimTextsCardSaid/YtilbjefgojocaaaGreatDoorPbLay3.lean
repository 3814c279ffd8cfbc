/- The library's own laws, laid over this seat. -/
import Derived.Test.YtilbjefgojocaaaGreatDoorSxOk2
import Derived.OpenShut
import Derived.MakeChecks
import Derived.Test.YtilbjefgojocaaaGreatDoorPvRead
import Derived.Test.YtilbjefgojocaaaGreatDoorPbBad
import Derived.Lib.ItoaNum
import Derived.Lib.ItoaLen
import Derived.Laws.RangeString
import Derived.Test.YtilbjefgojocaaaGreatDoorProg
import Derived.Ground.NamesProg
import Derived.WalkKit
import Derived.WalkMore
import Derived.Below
import Derived.Shelf.Strconv.Itoa4
namespace Go.AM
open Go
section
variable {H : Type} {enc : TypeId × Value -> H} {Pg : Program} {w : World} {base : Nat} {spare : Nat -> Bool} {held : Bool}
def e8 {α β : Type} (f : α -> Option β) : List α -> Option (List β)
 | [] => some []
 | x :: l => match f x, e8 f l with
  | some y, some ys => some (y :: ys)
  | _, _ => none
theorem mb {α β : Type} {f : α -> Option β} : ∀ {l : List α} {r : List β}, e8 f l = some r -> r.length = l.length
 | [], r, h => by simp only [e8, Option.some.injEq] at h; subst h; rfl
 | x :: l, r, h => by
  simp only [e8] at h
  split at h
  ·rename_i y ys h1 h2
   simp only [Option.some.injEq] at h
   subst h
   simp only [List.length_cons, mb h2]
  ·cases h
theorem mc {α β : Type} {f : α -> Option β} : ∀ {l : List α} {r : List β}, e8 f l = some r -> ∀ (i : Nat) (x : α), l[i]? = some x -> ∃ y, r[i]? = some y /\ f x = some y
 | [], r, h, i, x, hi => by simp at hi
 | x :: l, r, h, i, z, hi => by
  simp only [e8] at h
  split at h
  ·rename_i y ys h1 h2
   simp only [Option.some.injEq] at h
   subst h
   cases i with
   | zero => simp only [List.getElem?_cons_zero, Option.some.injEq] at hi; subst hi; exact ⟨y, rfl, h1⟩
   | succ i => rw [List.getElem?_cons_succ] at hi ⊢; exact mc h2 i z hi
  ·cases h
def dx (Pg : Program) : Nat -> TypeId -> DataW H -> Option (List Value)
 | 0, _, _ => none
 | n + 1, t, d => match Pg.underlying t, d with
  | some .bool, .lit (.bool b) => some [.bool b]
  | some (.int _), .lit (.int k z) => some [.int k z]
  | some (.array m e), .agg ds => match e8 (dx Pg n e) ds with
   | some ls => if ls.all (fun l => Nat.beq l.length (Pg.cellsOf e)) && Nat.beq ds.length m && Nat.beq (Pg.cellsOf t) (m * Pg.cellsOf e) then some ls.flatten else none
   | none => none
  | some (.struct fs), .agg ds => match e8 (fun x : Field × DataW H => match dx Pg n x.1.type x.2 with
    | some l => if Nat.beq l.length 1 && Nat.beq (Pg.cellsOf x.1.type) 1 then some l else none
    | none => none) (fs.toList.zip ds) with
   | some ls => if Nat.beq ds.length fs.size && Nat.beq (Pg.cellsOf t) fs.size && (fs.toList.zipIdx.all fun x => Nat.beq x.1.offset x.2) then some ls.flatten else none
   | none => none
  | _, _ => none
theorem chunks {sz : Nat} : ∀ {ls : List (List Value)} {cs : List Value}, (∀ (i : Nat) (l : List Value), ls[i]? = some l -> (cs.drop (i * sz)).take sz = l) -> (∀ (i : Nat) (l : List Value), ls[i]? = some l -> l.length = sz) -> cs.length = ls.length * sz -> cs = ls.flatten
 | [], cs, _, _, hl => by
  have : cs.length = 0 := by simpa using hl
  rw [List.eq_nil_of_length_eq_zero this]; rfl
 | l :: ls, cs, h, hs, hl => by
  have h0 := h 0 l rfl
  rw [Nat.zero_mul, List.drop_zero] at h0
  have h1 : cs.drop sz = ls.flatten := by
   refine chunks (sz := sz) (fun i m hi => ?_) (fun i m hi => hs (i + 1) m (by rw [List.getElem?_cons_succ]; exact hi)) ?_
   ·have := h (i + 1) m (by rw [List.getElem?_cons_succ]; exact hi)
    rw [List.drop_drop, <- this, Nat.add_mul, Nat.one_mul, Nat.add_comm]
   ·rw [List.length_drop, hl, List.length_cons, Nat.add_mul, Nat.one_mul]; omega
  rw [List.flatten_cons, <- h1, <- h0, List.take_append_drop]
theorem me : ∀ (n fuel : Nat) (t : TypeId) (cs : List Value) (d : DataW H) (p : List MemPlace) (l : List Value), DataW.trod enc Pg w base spare held fuel t cs = some (d, p) -> dx Pg n t d = some l -> cs = l
 | 0, _, _, _, _, _, _, _, h => by simp [dx] at h
 | n + 1, fuel, t, cs, d, p, l, ht, h => by
  simp only [dx] at h
  split at h
  ·rename_i b hu
   obtain ⟨b', rfl, e⟩ := DataW.trod_bool hu ht
   simp only [Prod.mk.injEq, DataW.lit.injEq, Lit.bool.injEq] at e
   rw [<- e.1]; simpa using h
  ·rename_i k' k z hu
   obtain ⟨z', rfl, e, _⟩ := DataW.trod_int hu ht
   simp only [Prod.mk.injEq, DataW.lit.injEq, Lit.int.injEq] at e
   obtain ⟨⟨rfl, rfl⟩, _⟩ := e
   simpa using h
  ·rename_i m e ds hu
   split at h
   ·rename_i ls hls
    split at h
    ·rename_i hc
     simp only [Bool.and_eq_true] at hc
     obtain ⟨⟨c1, c2⟩, c3⟩ := hc
     cases h
     obtain ⟨xs, f', _, hx, hlen, hxl, hel⟩ := DataW.trod_array hu ht
     simp only [Prod.mk.injEq, DataW.agg.injEq] at hx
     have hds : ds = xs.map (·.1) := hx.1
     have hll := mb hls
     have hmd : ds.length = m := Nat.eq_of_beq_eq_true c2
     refine chunks (sz := Pg.cellsOf e) (fun i r hi => ?_) (fun i r hi => Nat.eq_of_beq_eq_true (List.all_eq_true.1 c1 r (List.mem_of_getElem? hi))) (by rw [hlen, Nat.eq_of_beq_eq_true c3, hll, hmd])
     have hi' : i < ls.length := (List.getElem?_eq_some_iff.1 hi).1
     have hix : i < xs.length := by omega
     have h1 := hel i (by omega)
     rw [List.getElem?_eq_getElem hix] at h1
     obtain ⟨y, hy1, hy2⟩ := mc hls i xs[i].1 (by rw [hds, List.getElem?_map, List.getElem?_eq_getElem hix]; rfl)
     rw [hi] at hy1
     cases hy1
     exact me n _ e _ xs[i].1 xs[i].2 r h1 hy2
    ·cases h
   ·cases h
  ·rename_i fs ds hu
   split at h
   ·rename_i ls hls
    split at h
    ·rename_i hc
     simp only [Bool.and_eq_true] at hc
     obtain ⟨⟨c1, c2⟩, c3⟩ := hc
     cases h
     obtain ⟨xs, f', _, hx, hlen, hxl, hel⟩ := DataW.trod_struct hu ht
     simp only [Prod.mk.injEq, DataW.agg.injEq] at hx
     have hds : ds = xs.map (·.1) := hx.1
     have hll := mb hls
     have hmd : ds.length = fs.size := Nat.eq_of_beq_eq_true c1
     have hzl : (fs.toList.zip ds).length = fs.size := by rw [List.length_zip, hmd]; simp
     have key : ∀ (i : Nat) (r : List Value), ls[i]? = some r -> (cs.drop (i * 1)).take 1 = r /\ r.length = 1 := by
      intro i r hi
      have hi' : i < ls.length := (List.getElem?_eq_some_iff.1 hi).1
      have hix : i < xs.length := by omega
      have hif : i < fs.size := by omega
      have hz : (fs.toList.zip ds)[i]? = some (fs[i], xs[i].1) := by
       rw [List.getElem?_zip_eq_some]
       refine ⟨by simp [hif], ?_⟩
       show ds[i]? = some xs[i].1
       rw [hds, List.getElem?_map, List.getElem?_eq_getElem hix]; rfl
      obtain ⟨y, hy1, hy2⟩ := mc hls i _ hz
      rw [hi] at hy1
      cases hy1
      dsimp only at hy2
      split at hy2
      ·rename_i l' hl'
       split at hy2
       ·rename_i hc'
        simp only [Bool.and_eq_true] at hc'
        cases hy2
        have h1 := hel i fs[i] (by simp [hif])
        rw [List.getElem?_eq_getElem hix, Nat.eq_of_beq_eq_true hc'.2] at h1
        have ho : fs[i].offset = i := Nat.eq_of_beq_eq_true (List.all_eq_true.1 c3 (fs[i], i) (by
         rw [List.mem_zipIdx_iff_getElem?]
         simp [hif]))
        rw [ho] at h1
        rw [Nat.mul_one]
        exact ⟨me n _ _ _ xs[i].1 xs[i].2 r h1 hl', Nat.eq_of_beq_eq_true hc'.1⟩
       ·cases hy2
      ·cases hy2
     exact chunks (sz := 1) (fun i r hi => (key i r hi).1) (fun i r hi => (key i r hi).2) (by rw [hlen, Nat.eq_of_beq_eq_true c2, hll, hzl, Nat.mul_one])
    ·cases h
   ·cases h
  ·cases h
end
theorem mf {Pg : Program} {w : World} {x : String} {d : DataW Unit} {g n : Nat} {t : TypeId} {l : List Value} : ∀ {laid : List (String × DataW Unit)}, laidMet Pg laid w -> (x, d) ∈ laid -> Pg.globalNamed x = some g -> (Pg.globals[g]?).map (·.type) = some t -> dx Pg n t d = some l ->
  ∃ t' fz, w.heap[g]? = some (.cells l.toArray t' fz) := by
 intro laid hm hx hg ht hl
 obtain ⟨ps, hv, h2⟩ := hm
 clear h2
 induction laid generalizing ps with
 | nil => cases hx
 | cons y laid ih =>
  obtain ⟨y1, y2⟩ := y
  obtain ⟨g', t', cs, fuel, p, q, e1, e2, e3, e4, e5, _⟩ := hv
  rcases List.mem_cons.1 hx with e | hx
  ·cases e
   rw [hg] at e1; cases e1
   rw [ht] at e2; cases e2
   have hcs := me n fuel t cs.toList d p l e4 hl
   have hcs2 : cs = l.toArray := Array.ext' (by simpa using hcs)
   simp only [World.var?, hg, Option.bind_some] at e3
   split at e3
   ·rename_i c2 t2 fz hh
    cases e3
    rw [hcs2] at hh
    exact ⟨t2, fz, hh⟩
   ·cases e3
  ·exact ih hx q e5
end Go.AM
namespace Go.AM.PV
open Go Go.AM Go.AM.SX
inductive RdV (Pg : Program) {H : Type} : TypeId -> DataW H -> P -> Prop where
 | one (t : TypeId) (d : DataW H) (p : P) : (∀ fs, Pg.underlying t ≠ some (.struct fs)) -> Rd Pg t d [p] -> RdV Pg t d p
 | agg (t : TypeId) (fs : Array Field) (d : DataW H) (ps : List P) : Pg.underlying t = some (.struct fs) -> Rd Pg t d ps -> RdV Pg t d (.agg ps)
inductive RdA (Pg : Program) {H : Type} : List TypeId -> List (DataW H) -> List P -> Prop where
 | nil : RdA Pg [] [] []
 | cons (t : TypeId) (ts : List TypeId) (d : DataW H) (ds : List (DataW H)) (p : P) (ps : List P) : RdV Pg t d p -> RdA Pg ts ds ps -> RdA Pg (t :: ts) (d :: ds) (p :: ps)
section
variable {nm : Nm} {H : Type} {enc : TypeId × Value -> H} {Pg : Program} {w : World} {ts : List TypeId}
theorem CU (hts : jL Pg ts = true) {t : TypeId} {v : Value} {d : DataW H} {p : List MemPlace} (ht : t ∈ ts) (h : DataW.Trod enc Pg w 0 (fun _ => true) true t v d p) {base : Nat} (hv : Value.okWide Pg w .any base t v) {R : List SRow} (hR : GoodR nm w R) (hC : CloR R) :
  ∃ X v0 q, RdV Pg t d q /\ GoodR nm w (R ++ X) /\ Rep [] (c7 (R ++ X).length) (ak (R ++ X)).h v0 q /\ VR nm (au (R ++ X)) v0 v := by
 obtain ⟨n, hn⟩ := h
 obtain ⟨X, vs, ps, k1, k2⟩ := nf (nm := nm) hts n t _ _ ht hn R hR hC
 have hsc : (∀ fs, Pg.underlying t ≠ some (.struct fs)) -> v.cells.toList = [v] -> ∃ X v0 q, RdV Pg t d q /\ GoodR nm w (R ++ X) /\ Rep [] (c7 (R ++ X).length) (ak (R ++ X)).h v0 q /\ VR nm (au (R ++ X)) v0 v := by
  intro hns hc
  have hrel := k2.rel
  rw [hc] at hrel
  have hl : vs.length = 1 := hrel.length
  obtain ⟨v0, rfl⟩ : ∃ v0, vs = [v0] := by
   match vs, hl with
   | [v0], _ => exact ⟨v0, rfl⟩
  have hrep := k2.rep
  cases hrep with
  | cons _ q _ qs h1 h2 =>
   cases h2
   exact ⟨X, v0, q, .one t d q hns k1, k2.good, h1, hrel.head⟩
 have hok := List.all_eq_true.1 hts t ht
 unfold n9 at hok
 split at hok
 ·rename_i hu
  obtain ⟨b, rfl⟩ := Go.WideShapes.okWide_bool hu hv
  exact hsc (fun fs => by rw [hu]; exact fun e => by cases e) rfl
 ·rename_i hu
  obtain ⟨b, rfl⟩ := Go.WideShapes.okWide_string hu hv
  exact hsc (fun fs => by rw [hu]; exact fun e => by cases e) rfl
 ·rename_i k hu
  obtain ⟨b, rfl⟩ := Go.WideShapes.okWide_int hu hv
  exact hsc (fun fs => by rw [hu]; exact fun e => by cases e) rfl
 ·rename_i e hu
  obtain ⟨a, l, c, rfl⟩ := Go.WideShapes.okWide_slice hu hv
  exact hsc (fun fs => by rw [hu]; exact fun e => by cases e) rfl
 ·rename_i fs hu
  obtain ⟨cs, rfl, _⟩ := Go.WideShapes.okWide_struct hu hv
  refine ⟨X, .agg vs.toArray, .agg ps, .agg t fs d ps hu k1, k2.good, .agg vs ps k2.rep, VR.agg' ?_⟩
  have hrel := k2.rel
  exact hrel
 ·cases hok
theorem rT (hts : jL Pg ts = true) {base : Nat} : ∀ (tl : List TypeId) (vals : List Value) (ds : List (DataW H)) (p : List MemPlace), (∀ t, t ∈ tl -> t ∈ ts) -> DataW.TrodAll enc Pg w 0 (fun _ => true) true tl vals ds p ->
  (∀ (j : Nat) t v, tl[j]? = some t -> vals[j]? = some v -> Value.okWide Pg w .any base t v) -> ∀ R, GoodR nm w R -> CloR R ->
  ∃ X vs ps, RdA Pg tl ds ps /\ GoodR nm w (R ++ X) /\ RepL [] (c7 (R ++ X).length) (ak (R ++ X)).h vs ps /\ LR nm (au (R ++ X)) vs vals
 | [], vals, ds, p, _, h, _, R, hR, _ => by
  obtain ⟨rfl, rfl, _⟩ := Go.ChangeShapes.trodAll_nil h
  exact ⟨[], [], [], .nil, by rw [List.append_nil]; exact hR, .nil, .nil⟩
 | t :: tl, vals, ds, p, ht, h, hv, R, hR, hC => by
  obtain ⟨v, vals', d, ds', p1, q1, rfl, rfl, _, h1, h2⟩ := Go.ChangeShapes.trodAll_cons h
  obtain ⟨X, v0, q, k1, k2, k3, k4⟩ := CU hts (ht t (by simp)) h1 (hv 0 t v rfl rfl) hR hC
  obtain ⟨Y, vs, ps, m1, m2, m3, m4⟩ := rT hts tl vals' ds' q1 (fun t' h' => ht t' (by simp [h'])) h2 (fun j t' v' e1 e2 => hv (j + 1) t' v' (by simpa using e1) (by simpa using e2)) (R ++ X) k2 (hC.ext X)
  refine ⟨X ++ Y, v0 :: vs, q :: ps, .cons t tl d ds' q ps k1 m1, ?_, ?_, ?_⟩
  ·rw [<- List.append_assoc]; exact m2
  ·rw [<- List.append_assoc]
   refine .cons _ _ _ _ ?_ m3
   have := (RepL.one k3).ext Y
   cases this with
   | cons _ _ _ _ h _ => exact h
  ·rw [<- List.append_assoc]
   exact .cons (k4.mono (jM _ _)) m4
end
section
variable {nm : Nm} {H : Type} {enc : TypeId × Value -> H} {Pg : Program} {w : World} {ts : List TypeId} {E : Env}
theorem CY {w' : World} {tl : List TypeId} {vs : List Value} {ds : List (DataW H)} {p : List MemPlace} (hl : Go.laidOutB Pg = true) (hm : Go.mapsRowed Pg = true) (hz : ((List.range Pg.types.size).all fun t => match Pg.underlying t with | some (.slice e) => decide (0 < Pg.cellsOf e) | _ => true) = true)
  (htl : tl.all (fun t => Nat.blt t Pg.types.size) = true) (h : DataW.TrodAll enc Pg w 0 (fun _ => true) true tl vs ds p) (hp : ∀ x, x ∈ p -> x.block < w.heap.size) (hk : w.keptBut w' (fun _ => False)) :
  DataW.TrodAll enc Pg w' 0 (fun b => decide (b < w.heap.size)) true tl vs ds p := by
 have hsame : ∀ x, x ∈ p -> w.sameAt w' x := by
  intro x hx
  have hb := hp x hx
  have h2 := hk.2.2 x.block hb
  cases x with
  | cell b off =>
   show w'.cell? ⟨b, off, none⟩ = w.cell? ⟨b, off, none⟩
   have h2 : (match w.heap[b]?, w'.heap[b]? with
    | some (.cells c t fr), some (.cells c' t' fr') => t' = t /\ fr' = fr /\ c'.size = c.size /\ ∀ j : Nat, ¬ False -> c'[j]? = c[j]?
    | some (.map es clock), some (.map es' clock') => False \/ (es' = es /\ clock' = clock)
    | o, o' => o' = o) := h2
   unfold World.cell?
   split at h2
   ·rename_i c t fr c' t' fr' e1 e2
    dsimp only
    rw [e1, e2]
    dsimp only
    rw [h2.2.2.2 off (fun h => h)]
   ·rename_i e1 e2
    dsimp only
    rw [e1, e2]
   ·dsimp only
    rw [h2]
  | map b =>
   show w'.heap[b]? = w.heap[b]?
   have h2 : (match w.heap[b]?, w'.heap[b]? with
    | some (.cells c t fr), some (.cells c' t' fr') => t' = t /\ fr' = fr /\ c'.size = c.size /\ ∀ j : Nat, ¬ False -> c'[j]? = c[j]?
    | some (.map es clock), some (.map es' clock') => False \/ (es' = es /\ clock' = clock)
    | o, o' => o' = o) := h2
   split at h2
   ·rename_i c t fr c' t' fr' e1 e2
    obtain ⟨rfl, rfl, h3, h4⟩ := h2
    rw [e1, e2]
    have : c' = c := Array.ext_getElem? fun i => h4 i (fun h => h)
    rw [this]
   ·rename_i e1 e2
    rw [e1, e2, (h2.resolve_left id).1, (h2.resolve_left id).2]
   ·exact h2
 have hcar : ∀ (tl : List TypeId) (vs : List Value) (ds : List (DataW H)) (p : List MemPlace), DataW.TrodAll enc Pg w 0 (fun _ => true) true tl vs ds p -> (∀ x, x ∈ p -> w.sameAt w' x) -> DataW.TrodAll enc Pg w' 0 (fun _ => true) true tl vs ds p := by
  intro tl
  induction tl with
  | nil =>
   intro vs ds p h _
   obtain ⟨rfl, rfl, rfl⟩ := Go.ChangeShapes.trodAll_nil h
   exact Go.ChangeShapes.trodAll_mk0
  | cons t tl ih =>
   intro vs ds p h hs
   obtain ⟨v, vs', d, ds', p1, q1, rfl, rfl, rfl, ⟨n, h1⟩, h2⟩ := Go.ChangeShapes.trodAll_cons h
   exact ⟨p1, q1, ⟨n, DataW.trod_carry n t _ _ h1 fun x hx => hs x (List.mem_append_left _ hx)⟩, ih vs' ds' q1 h2 fun x hx => hs x (List.mem_append_right _ hx), rfl⟩
 have h2 := hcar tl vs ds p h hsame
 exact DataW.TrodAll.respare (kids_rows hl hm) (fun t e ht hu => slices_full_of Pg hz t e ht hu) (fun t ht => Nat.le_of_ble_eq_true (List.all_eq_true.1 htl t ht)) h2 fun x hx => decide_eq_true (hp x hx)
end
section
variable {H : Type} {Pg : Program} {t : TypeId} {d : DataW H} {ps : List P}
theorem Qb (hu : Pg.underlying t = some .bool) (h : Rd Pg t d ps) : ∃ b, d = .lit (.bool b) /\ ps = [.c (.bool b)] := by
 cases h with
 | bool _ b _ => exact ⟨b, rfl, rfl⟩
 | int _ k n h _ => rw [hu] at h; cases h
 | str _ s h _ => rw [hu] at h; cases h
 | nils _ e h => rw [hu] at h; cases h
 | slice _ e ds rest ps h _ => rw [hu] at h; cases h
 | struct _ fs ds ps h _ => rw [hu] at h; cases h
theorem rU {k : IntKind} (hu : Pg.underlying t = some (.int k)) (h : Rd Pg t d ps) : ∃ n, d = .lit (.int k n) /\ ps = [.c (.int k n)] /\ (Lit.int k n).wf = true := by
 cases h with
 | bool _ b h => rw [hu] at h; cases h
 | int _ k' n h hw => rw [hu] at h; cases h; exact ⟨n, rfl, rfl, hw⟩
 | str _ s h _ => rw [hu] at h; cases h
 | nils _ e h => rw [hu] at h; cases h
 | slice _ e ds rest ps h _ => rw [hu] at h; cases h
 | struct _ fs ds ps h _ => rw [hu] at h; cases h
theorem mg {t : TypeId} {ts : List TypeId} {ds : List (DataW H)} (h : RdA Pg (t :: ts) ds ps) : ∃ d ds' p ps', ds = d :: ds' /\ ps = p :: ps' /\ RdV Pg t d p /\ RdA Pg ts ds' ps' := by
 cases h with
 | cons _ _ d ds p ps h1 h2 => exact ⟨d, ds, p, ps, rfl, rfl, h1, h2⟩
theorem C3 {ds : List (DataW H)} (h : RdA Pg [] ds ps) : ds = [] /\ ps = [] := by
 cases h; exact ⟨rfl, rfl⟩
theorem tc {p : P} (hu : ∀ fs, Pg.underlying t ≠ some (.struct fs)) (h : RdV Pg t d p) : Rd Pg t d [p] := by
 cases h with
 | one _ _ _ h => exact h
 | agg _ fs' ps h1 h2 => exact (hu _ h1).elim
end
end Go.AM.PV
namespace Go.AM.PV
open Go Go.AM Go.AM.SX
def l4 (f : Nat -> TypeId) (c : Nat -> Nat) (gl : List GRow) (i : Nat) : SRow := match gl.find? fun r => Nat.beq r.g i with
 | some r => { row := { own := false, size := r.cells.length, cells := T.ofList r.cells, elem := f i, esz := 0, opn := false, grp := i, frz := 0, sb := false }, pl := { blk := i, off := 0, csz := r.cells.length, esz := 0, opn := false } }
 | none => { row := { own := false, size := 0, cells := T.nil, elem := f i, esz := 0, opn := true, grp := i, frz := 0, sb := false }, pl := { blk := i, off := 0, csz := c i, esz := 0, opn := true } }
def fc (f : Nat -> TypeId) (c : Nat -> Nat) (gl : List GRow) (n : Nat) : List SRow := (List.range n).map (l4 f c gl)
theorem ua {f : Nat -> TypeId} {c : Nat -> Nat} {gl : List GRow} {n i : Nat} (h : i < n) : (fc f c gl n)[i]? = some (l4 f c gl i) := by
 unfold fc
 rw [List.getElem?_map, List.getElem?_range h]
 rfl
theorem Qc {nm : Nm} {w : World} {f : Nat -> TypeId} {c : Nat -> Nat} {gl : List GRow} {n : Nat} (hrows : ∀ r, r ∈ gl -> ∃ fz, w.heap[r.g]? = some (.cells r.cells.toArray (f r.g) fz)) (hall : ∀ i, i < n -> ∃ cs fz, w.heap[i]? = some (.cells cs (f i) fz) /\ cs.size = c i)
  (hpl : gl.all (fun r => r.cells.all aL) = true) : GoodR nm w (fc f c gl n) := by
 intro s hs
 obtain ⟨i, hi, rfl⟩ := List.mem_map.1 hs
 have hi := List.mem_range.1 hi
 unfold l4
 cases hf : gl.find? (fun r => Nat.beq r.g i) with
 | some r =>
  have hr := List.mem_of_find?_eq_some hf
  have hri : r.g = i := Nat.eq_of_beq_eq_true (List.find?_some (p := fun r : GRow => Nat.beq r.g i) hf)
  obtain ⟨fz, h1⟩ := hrows r hr
  rw [hri] at h1
  refine ⟨rfl, r.cells.toArray, fz, { blk := h1, csz := by simp, opn := rfl, esz := fun h => (by cases h), fit := by simp, cell := fun j hj => ?_, frz := fun h => (by cases h), sb := fun h => (by cases h), exact := fun _ => ⟨rfl, by simp⟩ }⟩
  have hj' : j < r.cells.length := hj
  refine ⟨r.cells[j], (T.get_ofList _ _).trans (List.getElem?_eq_getElem hj'), ?_⟩
  have : r.cells.toArray.getD (0 + j) undef = r.cells[j] := by
   rw [Nat.zero_add, Array.getD_eq_getD_getElem?]
   simp [hj']
  rw [this]
  exact .of_plainV (List.all_eq_true.1 (List.all_eq_true.1 hpl r hr) _ (List.getElem_mem hj'))
 | none =>
  obtain ⟨cs, fz, h1, h2⟩ := hall i hi
  exact ⟨rfl, cs, fz, { blk := h1, csz := h2.symm, opn := rfl, esz := fun _ => rfl, fit := Nat.zero_le _, cell := fun j hj => absurd hj (Nat.not_lt_zero _), frz := fun h => (by cases h), sb := fun h => (by cases h), exact := fun h => (by cases h) }⟩
section
variable {nm : Nm} {H : Type} {enc : TypeId × Value -> H} {Pg : Program} {w : World} {ts : List TypeId} {E : Env}
theorem Qd (ok : EnvOk E Pg nm) {f : FuncId} {gl : List GRow} {n : Nat} {x : Value} (hx : aL x = true) (hts : jL Pg ts = true) (hng : E.ng <= n) (hn : 0 < n) (h0 : (gl.find? fun r => Nat.beq r.g 0).isSome = true) (hlt : gl.all (fun r => Nat.blt r.g n) = true) (hpl : gl.all (fun r => r.cells.all aL) = true)
  (hlook : ∀ (g : Nat -> TypeId) (c : Nat -> Nat), gl.all (fun r => bQ (ak (fc g c gl n)) r) = true) (hrows : ∀ r, r ∈ gl -> ∃ t fz, w.heap[r.g]? = some (.cells r.cells.toArray t fz)) (hall : ∀ i, i < n -> ∃ cs t fz, w.heap[i]? = some (.cells cs t fz))
  {tl : List TypeId} {args : Array Value} {ds : List (DataW H)} {p : List MemPlace} {base : Nat} (htl : ∀ t, t ∈ tl -> t ∈ ts) (hA : DataW.TrodAll enc Pg w 0 (fun _ => true) true tl args.toList ds p)
  (hv : ∀ (j : Nat) t v, tl[j]? = some t -> args.toList[j]? = some v -> Value.okWide Pg w .any base t v) (hPR : ∀ ps, RdA Pg tl ds ps -> ∃ μ, PR E gl f ps [] (.c x) μ) :
  Calls Pg f args w fun e w' => e = .returned x /\ w.keptBut w' (fun _ => False) := by
 let g : Nat -> TypeId := fun g => match w.heap[g]? with
  | some (.cells _ t _) => t
  | _ => 0
 let c : Nat -> Nat := fun g => match w.heap[g]? with
  | some (.cells cs _ _) => cs.size
  | _ => 0
 have hr2 : ∀ r, r ∈ gl -> ∃ fz, w.heap[r.g]? = some (.cells r.cells.toArray (g r.g) fz) := by
  intro r hr
  obtain ⟨t, fz, h1⟩ := hrows r hr
  refine ⟨fz, ?_⟩
  have : g r.g = t := by simp only [g, h1]
  rw [this]
  exact h1
 have ha2 : ∀ i, i < n -> ∃ cs fz, w.heap[i]? = some (.cells cs (g i) fz) /\ cs.size = c i := by
  intro i hi
  obtain ⟨cs, t, fz, h1⟩ := hall i hi
  refine ⟨cs, fz, ?_, ?_⟩
  ·have : g i = t := by simp only [g, h1]
   rw [this]
   exact h1
  ·simp only [c, h1]
 have hgood : GoodR nm w (fc g c gl n) := Qc hr2 ha2 hpl
 have hlen : (fc g c gl n).length = n := by simp [fc]
 have hclo : CloR (fc g c gl n) := by
  refine ⟨l4 g c gl 0, ua hn, ?_⟩
  obtain ⟨r, hr⟩ := Option.isSome_iff_exists.1 h0
  unfold l4
  rw [hr]
 obtain ⟨X, vs, ps, k1, k2, k3, k4⟩ := rT (nm := nm) hts tl args.toList ds p htl hA hv (fc g c gl n) hgood hclo
 obtain ⟨μ, hP⟩ := hPR ps k1
 obtain ⟨B, m, hrun⟩ := hP.start (rows := fc g c gl n ++ X) (fun r hr => by
  have h2 : r.g < n := Nat.le_of_ble_eq_true (List.all_eq_true.1 hlt r hr)
  refine ⟨by rw [List.length_append, hlen]; omega, ?_⟩
  have h3 := List.all_eq_true.1 (hlook g c) r hr
  unfold bQ at h3 ⊢
  rw [tI _ _ (by rw [hlen]; exact h2)]
  exact h3) k3
 refine (Om ok hrun hx k2 ?_ k4).mono ?_
 ·intro b hb
  have hb2 : b < n := Nat.lt_of_lt_of_le hb hng
  refine ⟨(l4 g c gl b).pl, jM _ _ _ _ ?_, ?_, ?_⟩
  ·unfold au
   rw [ua hb2]
   rfl
  ·unfold l4
   split <;> rfl
  ·unfold l4
   split <;> rfl
 ·rintro e w' ⟨h1, h2, _⟩
  exact ⟨h1, h2⟩
end
end Go.AM.PV
namespace Go.AM.PV
open Go Go.AM Go.AM.SX
def C5 : N := bo .add [vn 5, vi 1] (.fin 0 [vn 2, vn 3, vn 11, vn 14])
def C6 : N := .op (.idxA 1) [vn 1, vn 5] (ld 8 (.call 13 [vn 9, vn 4] (.op (.ext 0) [vn 10] (.op (.ext 1) [vn 10] (bo .neq [vn 12, vi 0] (.br (vn 13) (.fin 1 [vv (.slice none 0 0), vn 12, vn 4, vn 5]) C5))))))
def C7 : N := .op .lenL [vn 1] (bo .lss [vn 5, vn 6] (.br (vn 7) C6 (.fin 2 [vn 2, vn 3, vn 4, vn 5])))
def C8 : N := .op .tup [vn 3, vn 4] (.fin 1 [vn 7])
def C9 : N := .op .tup [vn 5, vi 0] (.fin 1 [vn 7])
def Ca : N := .sw 2 2 C9 .bad
def Cb : N := .sw 2 1 C8 Ca
def t17 : N := .loop [vv (.slice none 0 0), vi 0, vn 0, vi 0] C7 Cb
def Cc : N := .op (.newSl 9 [(bs [])] [(0, 1)]) [vv (bs [114, 111, 116])] (.call 17 [vn 12, .sl (.n 18) 1] (.op (.ext 0) [vn 19] (.op (.ext 1) [vn 19] (bo .eql [vn 21, vi 1] (.fin 1 [vn 22])))))
def Cd : N := .op (.newSl 9 [(bs [])] [(0, 1)]) [vv (bs [114, 111, 116])] (.call 17 [vn 12, .sl (.n 22) 1] (.op (.ext 0) [vn 23] (.op (.ext 1) [vn 23] (bo .eql [vn 25, vi 1] (.fin 1 [vn 26])))))
def Ce : N := .op (.newSl 9 [(bs [])] [(0, 1)]) [vv (bs [114, 111, 116])] (.call 17 [vn 12, .sl (.n 26) 1] (.op (.ext 0) [vn 27] (.op (.ext 1) [vn 27] (bo .eql [vn 29, vi 1] (.fin 1 [vn 30])))))
def Cf : N := bo .eql [vn 57, vi 11] (.fin 1 [vn 59])
def Cg : N := .call 18 [vn 56, vn 13] (.fin 1 [vn 59])
def Ch : N := .op (.newSl 9 [(bs []), (bs [])] [(0, 1), (1, 1)]) [vv (bs [112, 97, 105, 114]), vv (bs [117, 110, 112, 97, 105, 114])] (.call 17 [vn 12, .sl (.n 54) 2] (.op (.ext 0) [vn 55] (.op (.ext 1) [vn 55] (bo .neq [vn 57, vi 0] (.br (vn 58) Cf Cg)))))
def Ci : N := .op .lenL [vn 40] (bo .neq [vn 52, vi 3] (.br (vn 53) (.fin 1 [vv (.bool false)]) Ch))
def Cj : N := .call 18 [vn 36, vn 13] (.op .not [vn 50] (.br (vn 51) (.fin 1 [vv (.bool false)]) Ci))
def Ck : N := .call 18 [vn 32, vn 13] (.op .not [vn 48] (.br (vn 49) (.fin 1 [vv (.bool false)]) Cj))
def Cl : N := .call 18 [vn 28, vn 13] (.op .not [vn 46] (.br (vn 47) (.fin 1 [vv (.bool false)]) Ck))
def Cm : N := bo .neq [vn 41, vi 0] (.br (vn 45) (.fin 1 [vv (.bool false)]) Cl)
def Cn : N := bo .neq [vn 37, vi 0] (.br (vn 44) (.fin 1 [vv (.bool false)]) Cm)
def Co : N := bo .neq [vn 33, vi 0] (.br (vn 43) (.fin 1 [vv (.bool false)]) Cn)
def Cp : N := .op (.newSl 9 [(bs []), (bs [])] [(0, 1), (1, 1)]) [vv (bs [115, 119, 97, 112]), vv (bs [115, 119, 97, 112])] (.call 17 [vn 12, .sl (.n 26) 2] (.op (.ext 0) [vn 27] (.op (.ext 1) [vn 27] (.op (.newSl 9 [(bs []), (bs []), (bs [])] [(0, 1), (1, 1), (2, 1)]) [vv (bs [114, 111, 116]), vv (bs [114, 111, 116]), vv (bs [114, 111, 116])] (.call 17 [vn 12, .sl (.n 30) 3] (.op (.ext 0) [vn 31] (.op (.ext 1) [vn 31] (.op (.newSl 9 [(bs []), (bs [])] [(0, 1), (1, 1)]) [vv (bs [100, 117, 112]), vv (bs [100, 114, 111, 112])] (.call 17 [vn 12, .sl (.n 34) 2] (.op (.ext 0) [vn 35] (.op (.ext 1) [vn 35] (.op (.newSl 9 [(bs []), (bs []), (bs []), (bs []), (bs [])] [(0, 1), (1, 1), (2, 1), (3, 1), (4, 1)]) [vv (bs [111, 118, 101, 114]), vv (bs [110, 105, 112]), vv (bs [115, 119, 97, 112]), vv (bs [100, 114, 111, 112]), vv (bs [111, 118, 101, 114])] (.call 17 [vn 12, .sl (.n 38) 5] (.op (.ext 0) [vn 39] (.op (.ext 1) [vn 39] (bo .neq [vn 29, vi 0] (.br (vn 42) (.fin 1 [vv (.bool false)]) Co)))))))))))))))))
def Cq : N := .op (.idxA 4) [vn 13, vi 2] (.op (.load (some 4)) [vn 22] (.call 16 [vn 23] (.op .not [vn 24] (.br (vn 25) Ce Cp))))
def Cr : N := .op (.idxA 4) [vn 13, vi 1] (.op (.load (some 4)) [vn 18] (.call 16 [vn 19] (.op .not [vn 20] (.br (vn 21) Cd Cq))))
def Cs : N := .op (.load (some 4)) [vn 3] (.op (.load (some 4)) [vn 4] (.op (.load (some 4)) [vn 5] (.op (.newSl 35 [(.int .i64 0), (.int .i64 0), (bs []), (.slice none 0 0), (.int .i64 0), (.int .i64 0), (bs []), (.slice none 0 0), (.int .i64 0), (.int .i64 0), (bs []), (.slice none 0 0)] [(0, 4), (4, 4), (8, 4)]) [vn 8, vn 9, vn 10] (.call 12 [.sl (.n 11) 3] (.call 11 [vn 12] (.op (.idxA 4) [vn 13, vi 0] (.op (.load (some 4)) [vn 14] (.call 16 [vn 15] (.op .not [vn 16] (.br (vn 17) Cc Cr))))))))))
def t4 : N := .op (.box 35) [vn 0] (.op (.box 35) [vn 1] (.op (.box 35) [vn 2] (.call 10 [] (.op .not [vn 6] (.br (vn 7) (.fin 1 [vv (.bool false)]) Cs)))))
def Ct : N := .op (.ext 1) [vn 10] (.call 73 [vn 11, vn 12] (.save (.op (.ext 0) [vn 13] (.op (.ext 1) [vn 13] (.self (vn 0) (.self (vn 0) (.self (vn 0) (.self (vn 1) (.chk 0 (.idxA 1) [vn 1, vi 0] (vn 4) (.chk 0 (.load none) [vn 4] (vn 5) (.self (vn 1) (.self (vn 1) (.chk 1 (.idxA 1) [vn 1, vi 1] (vn 7) (.chk 0 (.idxA 1) [vn 1, vi 1] (vn 7) (.chk 1 (.load none) [vn 7] (vn 8) (.chk 0 (.load none) [vn 7] (vn 8) (.chk 3 (.ext 0) [vn 10] (vn 11) (.chk 3 (.ext 1) [vn 10] (vn 12) (.chk 4 (.ext 0) [vn 13] (vn 14) (.chk 4 (.ext 1) [vn 13] (vn 15) (.self (vn 14) (.self (vn 15) (.op .tup [vn 14, vn 15] (.fin 1 [vn 16]))))))))))))))))))))))))
def Cu : N := .bump 17 (.save (.op (.idxA 1) [vn 1, vi 0] (ld 4 (.call 75 [vn 5] (.save (.op (.idxA 1) [vn 1, vi 1] (ld 7 (.call 75 [vn 8] (.save (.call 74 [vn 0, vn 6, vn 9] (.save (.op (.ext 0) [vn 10] Ct))))))))))))
def Cv : N := .op (.ext 1) [vn 11] (.call 73 [vn 12, vn 13] (.save (.op (.ext 0) [vn 14] (.op (.ext 1) [vn 14] (.self (vn 0) (.self (vn 0) (.self (vn 0) (.self (vn 1) (.chk 0 (.idxA 1) [vn 1, vi 0] (vn 5) (.chk 0 (.load none) [vn 5] (vn 6) (.self (vn 1) (.self (vn 1) (.chk 1 (.idxA 1) [vn 1, vi 1] (vn 8) (.chk 0 (.idxA 1) [vn 1, vi 1] (vn 8) (.chk 1 (.load none) [vn 8] (vn 9) (.chk 0 (.load none) [vn 8] (vn 9) (.chk 3 (.ext 0) [vn 11] (vn 12) (.chk 3 (.ext 1) [vn 11] (vn 13) (.chk 4 (.ext 0) [vn 14] (vn 15) (.chk 4 (.ext 1) [vn 14] (vn 16) (.self (vn 15) (.self (vn 16) (.op .tup [vn 15, vn 16] (.fin 1 [vn 17]))))))))))))))))))))))))
def Cw : N := .bump 17 (.save (.op (.idxA 1) [vn 1, vi 0] (ld 5 (.call 75 [vn 6] (.save (.op (.idxA 1) [vn 1, vi 1] (ld 8 (.call 75 [vn 9] (.save (.call 74 [vn 0, vn 7, vn 10] (.save (.op (.ext 0) [vn 11] Cv))))))))))))
def Cx : N := .op (.ext 1) [vn 12] (.call 73 [vn 13, vn 14] (.save (.op (.ext 0) [vn 15] (.op (.ext 1) [vn 15] (.self (vn 0) (.self (vn 0) (.self (vn 0) (.self (vn 1) (.chk 0 (.idxA 1) [vn 1, vi 0] (vn 6) (.chk 0 (.load none) [vn 6] (vn 7) (.self (vn 1) (.self (vn 1) (.chk 1 (.idxA 1) [vn 1, vi 1] (vn 9) (.chk 0 (.idxA 1) [vn 1, vi 1] (vn 9) (.chk 1 (.load none) [vn 9] (vn 10) (.chk 0 (.load none) [vn 9] (vn 10) (.chk 3 (.ext 0) [vn 12] (vn 13) (.chk 3 (.ext 1) [vn 12] (vn 14) (.chk 4 (.ext 0) [vn 15] (vn 16) (.chk 4 (.ext 1) [vn 15] (vn 17) (.self (vn 16) (.self (vn 17) (.op .tup [vn 16, vn 17] (.fin 1 [vn 18]))))))))))))))))))))))))
def Cy : N := .bump 17 (.save (.op (.idxA 1) [vn 1, vi 0] (ld 6 (.call 75 [vn 7] (.save (.op (.idxA 1) [vn 1, vi 1] (ld 9 (.call 75 [vn 10] (.save (.call 74 [vn 0, vn 8, vn 11] (.save (.op (.ext 0) [vn 12] Cx))))))))))))
def Cz : N := .op (.ext 1) [vn 13] (.call 73 [vn 14, vn 15] (.save (.op (.ext 0) [vn 16] (.op (.ext 1) [vn 16] (.self (vn 0) (.self (vn 0) (.self (vn 0) (.self (vn 1) (.chk 0 (.idxA 1) [vn 1, vi 0] (vn 7) (.chk 0 (.load none) [vn 7] (vn 8) (.self (vn 1) (.self (vn 1) (.chk 1 (.idxA 1) [vn 1, vi 1] (vn 10) (.chk 0 (.idxA 1) [vn 1, vi 1] (vn 10) (.chk 1 (.load none) [vn 10] (vn 11) (.chk 0 (.load none) [vn 10] (vn 11) (.chk 3 (.ext 0) [vn 13] (vn 14) (.chk 3 (.ext 1) [vn 13] (vn 15) (.chk 4 (.ext 0) [vn 16] (vn 17) (.chk 4 (.ext 1) [vn 16] (vn 18) (.self (vn 17) (.self (vn 18) (.op .tup [vn 17, vn 18] (.fin 1 [vn 19]))))))))))))))))))))))))
def DA : N := .bump 17 (.save (.op (.idxA 1) [vn 1, vi 0] (ld 7 (.call 75 [vn 8] (.save (.op (.idxA 1) [vn 1, vi 1] (ld 10 (.call 75 [vn 11] (.save (.call 74 [vn 0, vn 9, vn 12] (.save (.op (.ext 0) [vn 13] Cz))))))))))))
def DB : N := .op (.ext 1) [vn 14] (.call 73 [vn 15, vn 16] (.save (.op (.ext 0) [vn 17] (.op (.ext 1) [vn 17] (.self (vn 0) (.self (vn 0) (.self (vn 0) (.self (vn 1) (.chk 0 (.idxA 1) [vn 1, vi 0] (vn 8) (.chk 0 (.load none) [vn 8] (vn 9) (.self (vn 1) (.self (vn 1) (.chk 1 (.idxA 1) [vn 1, vi 1] (vn 11) (.chk 0 (.idxA 1) [vn 1, vi 1] (vn 11) (.chk 1 (.load none) [vn 11] (vn 12) (.chk 0 (.load none) [vn 11] (vn 12) (.chk 3 (.ext 0) [vn 14] (vn 15) (.chk 3 (.ext 1) [vn 14] (vn 16) (.chk 4 (.ext 0) [vn 17] (vn 18) (.chk 4 (.ext 1) [vn 17] (vn 19) (.self (vn 18) (.self (vn 19) (.op .tup [vn 18, vn 19] (.fin 1 [vn 20]))))))))))))))))))))))))
def DC : N := .bump 17 (.save (.op (.idxA 1) [vn 1, vi 0] (ld 8 (.call 75 [vn 9] (.save (.op (.idxA 1) [vn 1, vi 1] (ld 11 (.call 75 [vn 12] (.save (.call 74 [vn 0, vn 10, vn 13] (.save (.op (.ext 0) [vn 14] DB))))))))))))
def DD : N := .op (.idxA 1) [vn 1, vi 0] (ld 8 (.call 75 [vn 9] (.call 76 [vn 0, vn 10] (.op (.ext 0) [vn 11] (.op (.ext 1) [vn 11] (.call 73 [vn 12, vn 13] (.op (.ext 0) [vn 14] (.op (.ext 1) [vn 14] (.op .tup [vn 15, vn 16] (.fin 1 [vn 17]))))))))))
def DE : N := .op (.idxA 1) [vn 1, vi 0] (ld 9 (.call 75 [vn 10] (.call 76 [vn 0, vn 11] (.op (.ext 0) [vn 12] (.op (.ext 1) [vn 12] (.call 73 [vn 13, vn 14] (.op (.ext 0) [vn 15] (.op (.ext 1) [vn 15] (.op .tup [vn 16, vn 17] (.fin 1 [vn 18]))))))))))
def DF : N := .call 75 [vn 12] (.save (.op (.idxA 1) [vn 1, vi 1] (ld 14 (.call 75 [vn 15] (.save (.op (.mm false) [vn 13, vn 16] (.op (.build [(.int .i64 0)] [(0, 1)]) [vn 17] (.opAt 10 11 (.newSl 41 [.nilIface] [(0, 1)]) [.ifc 45 (.n 18)] (.self (vn 1) (.chk 0 (.idxA 1) [vn 1, vi 0] (vn 11) (.chk 0 (.load none) [vn 11] (vn 12) (.self (vn 1) (.self (vn 1) (.chk 1 (.idxA 1) [vn 1, vi 1] (vn 14) (.chk 0 (.idxA 1) [vn 1, vi 1] (vn 14) (.chk 1 (.load none) [vn 14] (vn 15) (.chk 0 (.load none) [vn 14] (vn 15) (.chk 2 (.mm false) [vn 13, vn 16] (vn 17) (.chk 2 (.build [(.int .i64 0)] [(0, 1)]) [vn 17] (vn 18) (.self (.ifc 45 (.n 18)) (.self (.sl (.n 19) 1) (.self (vi 0) (.op .tup [.sl (.n 19) 1, vi 0] (.fin 1 [vn 20]))))))))))))))))))))))))
def DG : N := .bump 14 (.save (.op (.idxA 1) [vn 1, vi 0] (ld 11 DF)))
def DH : N := .call 75 [vn 13] (.save (.op (.idxA 1) [vn 1, vi 1] (ld 15 (.call 75 [vn 16] (.save (.op (.mm true) [vn 14, vn 17] (.op (.build [(.int .i64 0)] [(0, 1)]) [vn 18] (.opAt 11 11 (.newSl 41 [.nilIface] [(0, 1)]) [.ifc 45 (.n 19)] (.self (vn 1) (.chk 0 (.idxA 1) [vn 1, vi 0] (vn 12) (.chk 0 (.load none) [vn 12] (vn 13) (.self (vn 1) (.self (vn 1) (.chk 1 (.idxA 1) [vn 1, vi 1] (vn 15) (.chk 0 (.idxA 1) [vn 1, vi 1] (vn 15) (.chk 1 (.load none) [vn 15] (vn 16) (.chk 0 (.load none) [vn 15] (vn 16) (.chk 2 (.mm true) [vn 14, vn 17] (vn 18) (.chk 2 (.build [(.int .i64 0)] [(0, 1)]) [vn 18] (vn 19) (.self (.ifc 45 (.n 19)) (.self (.sl (.n 20) 1) (.self (vi 0) (.op .tup [.sl (.n 20) 1, vi 0] (.fin 1 [vn 21]))))))))))))))))))))))))
def DJ : N := .bump 14 (.save (.op (.idxA 1) [vn 1, vi 0] (ld 12 DH)))
def DK : N := .op (.idxA 1) [vn 1, vi 0] (ld 13 (.call 75 [vn 14] (.save (.op (.idxA 1) [vn 1, vi 1] (ld 16 (.call 75 [vn 17] (.save (bo .lss [vn 15, vn 18] (.call 72 [vn 19] (.save (.self (vn 1) (.chk 0 (.idxA 1) [vn 1, vi 0] (vn 13) (.chk 0 (.load none) [vn 13] (vn 14) (.self (vn 1) (.self (vn 1) (.chk 1 (.idxA 1) [vn 1, vi 1] (vn 16) (.chk 0 (.idxA 1) [vn 1, vi 1] (vn 16) (.chk 1 (.load none) [vn 16] (vn 17) (.chk 0 (.load none) [vn 16] (vn 17) (.chk 2 (.bin .lss) [vn 15, vn 18] (vn 19) (.self (vn 20) (.self (vi 0) (.op .tup [vn 20, vi 0] (.fin 1 [vn 21]))))))))))))))))))))))))
def DL : N := .bump 12 (.save DK)
def DM : N := .op (.idxA 1) [vn 1, vi 0] (ld 14 (.call 75 [vn 15] (.save (.op (.idxA 1) [vn 1, vi 1] (ld 17 (.call 75 [vn 18] (.save (bo .gtr [vn 16, vn 19] (.call 72 [vn 20] (.save (.self (vn 1) (.chk 0 (.idxA 1) [vn 1, vi 0] (vn 14) (.chk 0 (.load none) [vn 14] (vn 15) (.self (vn 1) (.self (vn 1) (.chk 1 (.idxA 1) [vn 1, vi 1] (vn 17) (.chk 0 (.idxA 1) [vn 1, vi 1] (vn 17) (.chk 1 (.load none) [vn 17] (vn 18) (.chk 0 (.load none) [vn 17] (vn 18) (.chk 2 (.bin .gtr) [vn 16, vn 19] (vn 20) (.self (vn 21) (.self (vi 0) (.op .tup [vn 21, vi 0] (.fin 1 [vn 22]))))))))))))))))))))))))
def DN : N := .bump 12 (.save DM)
def DO : N := .bump 10 (.save (.op (.idxA 1) [vn 1, vi 0] (ld 15 (.op (.idxA 1) [vn 1, vi 1] (ld 17 (.call 77 [vn 16, vn 18] (.save (.call 72 [vn 19] (.save (.self (vn 1) (.chk 0 (.idxA 1) [vn 1, vi 0] (vn 15) (.chk 0 (.load none) [vn 15] (vn 16) (.self (vn 1) (.chk 0 (.idxA 1) [vn 1, vi 1] (vn 17) (.chk 0 (.load none) [vn 17] (vn 18) (.self (vn 20) (.self (vi 0) (.op .tup [vn 20, vi 0] (.fin 1 [vn 21])))))))))))))))))))
def DP : N := .op (.idxA 1) [vn 1, vi 1] (ld 19 (.op (.ta 49 (.agg #[(.bool false)]) false) [vn 20] (.op (.field 0 none) [vn 21] (.call 72 [vn 22] (.op .tup [vn 23, vi 0] (.fin 1 [vn 24]))))))
def DQ : N := .call 72 [vv (.bool false)] (.op .tup [vn 19, vi 0] (.fin 1 [vn 20]))
def DS : N := .op (.idxA 1) [vn 1, vi 0] (ld 15 (.op (.ta 49 (.agg #[(.bool false)]) false) [vn 16] (.op (.field 0 none) [vn 17] (.br (vn 18) DP DQ))))
def DT : N := .call 72 [vv (.bool true)] (.op .tup [vn 20, vi 0] (.fin 1 [vn 21]))
def DU : N := .op (.idxA 1) [vn 1, vi 1] (ld 20 (.op (.ta 49 (.agg #[(.bool false)]) false) [vn 21] (.op (.field 0 none) [vn 22] (.call 72 [vn 23] (.op .tup [vn 24, vi 0] (.fin 1 [vn 25]))))))
def DV : N := .op (.idxA 1) [vn 1, vi 0] (ld 16 (.op (.ta 49 (.agg #[(.bool false)]) false) [vn 17] (.op (.field 0 none) [vn 18] (.br (vn 19) DT DU))))
def DW : N := .op (.idxA 1) [vn 1, vi 0] (ld 17 (.op (.ta 49 (.agg #[(.bool false)]) false) [vn 18] (.op (.field 0 none) [vn 19] (.op .not [vn 20] (.call 72 [vn 21] (.op .tup [vn 22, vi 0] (.fin 1 [vn 23])))))))
def DX : N := .op .tup [vv (.slice none 0 0), vi 0] (.fin 1 [vn 17])
def DY : N := bo .eql [vn 0, vv (bs [110, 111, 116])] (.br (vn 16) DW DX)
def DZ : N := bo .eql [vn 0, vv (bs [111, 114])] (.br (vn 15) DV DY)
def D0 : N := bo .eql [vn 0, vv (bs [97, 110, 100])] (.br (vn 14) DS DZ)
def D1 : N := bo .eql [vn 0, vv (bs [61])] (.br (vn 13) DO D0)
def D2 : N := bo .eql [vn 0, vv (bs [62])] (.br (vn 12) DN D1)
def D3 : N := bo .eql [vn 0, vv (bs [60])] (.br (vn 11) DL D2)
def D4 : N := bo .eql [vn 0, vv (bs [109, 97, 120])] (.br (vn 10) DJ D3)
def D5 : N := bo .eql [vn 0, vv (bs [109, 105, 110])] (.br (vn 9) DG D4)
def D6 : N := bo .eql [vn 0, vv (bs [97, 98, 115])] (.br (vn 8) DE D5)
def D7 : N := bo .eql [vn 0, vv (bs [110, 101, 103])] (.br (vn 7) DD D6)
def D8 : N := bo .eql [vn 0, vv (bs [109, 111, 100])] (.br (vn 6) DC D7)
def D9 : N := bo .eql [vn 0, vv (bs [47])] (.br (vn 5) DA D8)
def Da : N := bo .eql [vn 0, vv (bs [42])] (.br (vn 4) Cy D9)
def Db : N := bo .eql [vn 0, vv (bs [45])] (.br (vn 3) Cw Da)
def t44 : N := bo .eql [vn 0, vv (bs [43])] (.br (vn 2) Cu Db)
def Dc : N := .op (.idxA 1) [vn 1, vi 0] (ld 3 (.call 78 [vn 4] (.op (.build [(.int .i64 0)] [(0, 1)]) [vn 5] (.op (.newSl 41 [.nilIface] [(0, 1)]) [.ifc 45 (.n 6)] (.op .tup [.sl (.n 7) 1, vi 0] (.fin 1 [vn 8]))))))
def Dd : N := ld 5 (.op (.idxA 1) [vn 1, vi 1] (ld 7 (.call 79 [vn 6, vn 8] (.save (.op (.ext 0) [vn 9] (.op (.ext 1) [vn 9] (.call 73 [vn 10, vn 11] (.save (.op (.ext 0) [vn 12] (.op (.ext 1) [vn 12] (.self (vn 1) (.chk 0 (.idxA 1) [vn 1, vi 0] (vn 5) (.chk 0 (.load none) [vn 5] (vn 6) (.self (vn 1) (.chk 0 (.idxA 1) [vn 1, vi 1] (vn 7) (.chk 0 (.load none) [vn 7] (vn 8) (.chk 1 (.ext 0) [vn 9] (vn 10) (.chk 1 (.ext 1) [vn 9] (vn 11) (.chk 2 (.ext 0) [vn 12] (vn 13) (.chk 2 (.ext 1) [vn 12] (vn 14) (.self (vn 13) (.self (vn 14) (.op .tup [vn 13, vn 14] (.fin 1 [vn 15]))))))))))))))))))))))))
def De : N := .bump 14 (.save (.op (.idxA 1) [vn 1, vi 0] Dd))
def Df : N := ld 6 (.op (.idxA 1) [vn 1, vi 1] (ld 8 (.call 79 [vn 7, vn 9] (.save (.op (.ext 0) [vn 10] (.op (.ext 1) [vn 10] (.call 73 [vn 11, vn 12] (.save (.op (.ext 0) [vn 13] (.op (.ext 1) [vn 13] (.self (vn 1) (.chk 0 (.idxA 1) [vn 1, vi 0] (vn 6) (.chk 0 (.load none) [vn 6] (vn 7) (.self (vn 1) (.chk 0 (.idxA 1) [vn 1, vi 1] (vn 8) (.chk 0 (.load none) [vn 8] (vn 9) (.chk 1 (.ext 0) [vn 10] (vn 11) (.chk 1 (.ext 1) [vn 10] (vn 12) (.chk 2 (.ext 0) [vn 13] (vn 14) (.chk 2 (.ext 1) [vn 13] (vn 15) (.self (vn 14) (.self (vn 15) (.op .tup [vn 14, vn 15] (.fin 1 [vn 16]))))))))))))))))))))))))
def Dg : N := .bump 14 (.save (.op (.idxA 1) [vn 1, vi 0] Df))
def Dh : N := .op (.fld 0) [vn 18] (ld 20 (.op (.idxA 1) [vn 21, vi 0] (ld 22 (.call 73 [vn 23, vn 14] (.op (.ext 0) [vn 24] (.op (.ext 1) [vn 24] (.op .tup [vn 25, vn 26] (.fin 1 [vn 27]))))))))
def Di : N := .call 73 [vn 13, vn 14] (.op (.ext 0) [vn 20] (.op (.ext 1) [vn 20] (.op .tup [vn 21, vn 22] (.fin 1 [vn 23]))))
def Dj : N := .op (.idxA 1) [vn 1, vi 0] (ld 6 (.call 75 [vn 7] (bo .add [vn 8, vi 1] (.op (.idxA 1) [vn 1, vi 1] (ld 10 (.call 80 [vn 8, vn 9, vn 11] (.op (.ext 0) [vn 12] (.op (.ext 1) [vn 12] (.op (.ta 52 (.agg #[(.slice none 0 0)]) true) [vn 13] (.op (.ext 0) [vn 15] (.op (.ext 1) [vn 15] (.op (.alloc 52 [(.slice none 0 0)]) [] (.op (.store 1) [vn 18, vn 16] (.br (vn 17) Dh Di))))))))))))))
def Dk : N := .chk 0 (.idxA 1) [vn 1, vi 0] (vn 8) (.chk 0 (.load none) [vn 8] (vn 9) (.self (vn 1) (.self (vn 1) (.chk 1 (.idxA 1) [vn 1, vi 1] (vn 11) (.chk 0 (.idxA 1) [vn 1, vi 1] (vn 11) (.chk 1 (.load none) [vn 11] (vn 12) (.chk 0 (.load none) [vn 11] (vn 12) (.self (vn 1) (.self (vn 1) (.self (vn 1) (.chk 2 (.idxA 1) [vn 1, vi 2] (vn 14) (.chk 1 (.idxA 1) [vn 1, vi 2] (vn 14) (.chk 0 (.idxA 1) [vn 1, vi 2] (vn 14) (.chk 2 (.load none) [vn 14] (vn 15) (.chk 1 (.load none) [vn 14] (vn 15) (.chk 0 (.load none) [vn 14] (vn 15) (.chk 3 (.ext 0) [vn 16] (vn 17) (.chk 3 (.ext 1) [vn 16] (vn 18) (.chk 4 (.ext 0) [vn 19] (vn 20) (.chk 4 (.ext 1) [vn 19] (vn 21) (.self (vn 20) (.self (vn 21) (.op .tup [vn 20, vn 21] (.fin 1 [vn 22]))))))))))))))))))))))))
def Dl : N := .bump 19 (.save (.op (.idxA 1) [vn 1, vi 0] (ld 8 (.call 75 [vn 9] (.save (.op (.idxA 1) [vn 1, vi 1] (ld 11 (.call 75 [vn 12] (.save (.op (.idxA 1) [vn 1, vi 2] (ld 14 (.call 80 [vn 10, vn 13, vn 15] (.save (.op (.ext 0) [vn 16] (.op (.ext 1) [vn 16] (.call 73 [vn 17, vn 18] (.save (.op (.ext 0) [vn 19] (.op (.ext 1) [vn 19] (.self (vn 1) Dk))))))))))))))))))))
def Dm : N := .op (.build [(.slice none 0 0)] [(0, 1)]) [vn 1] (.op (.newSl 41 [.nilIface] [(0, 1)]) [.ifc 52 (.n 8)] (.op .tup [.sl (.n 9) 1, vi 0] (.fin 1 [vn 10])))
def Dn : N := .op (.build [(.slice none 0 0)] [(0, 1)]) [vn 1] (.op (.newSl 41 [.nilIface] [(0, 1)]) [.ifc 52 (.n 9)] (.op .tup [.sl (.n 10) 1, vi 0] (.fin 1 [vn 11])))
def Do : N := .op .tup [vv (.slice none 0 0), vi 4] (.fin 1 [vn 16])
def Dp : N := .op .tup [vn 13, vi 0] (.fin 1 [vn 16])
def Dq : N := .op (.idxA 1) [vn 1, vi 0] (ld 10 (.op (.ta 52 (.agg #[(.slice none 0 0)]) false) [vn 11] (.op (.field 0 none) [vn 12] (.op .lenL [vn 13] (bo .neq [vn 14, vi 2] (.br (vn 15) Do Dp))))))
def Dr : N := .op (.idxA 1) [vn 1, vi 0] (ld 11 (.call 81 [vn 12] (.op (.newSl 41 [.nilIface] [(0, 1)]) [vn 13] (.op .tup [.sl (.n 14) 1, vi 0] (.fin 1 [vn 15])))))
def Ds : N := .op (.idxA 1) [vn 1, vi 1] (ld 17 (.op (.ta 76 (.agg #[(.slice none 0 0)]) false) [vn 18] (.op (.field 0 none) [vn 19] (.opAt 12 11 (.newSl 73 [(.slice none 0 0), (.slice none 0 0)] [(0, 1), (1, 1)]) [.sl (.n 16) 1, vn 20] (.call 82 [.sl (.n 21) 2] (.save (.op (.build [(.slice none 0 0)] [(0, 1)]) [vn 22] (.opAt 12 15 (.newSl 41 [.nilIface] [(0, 1)]) [.ifc 76 (.n 23)] (.self (vn 1) (.chk 0 (.idxA 1) [vn 1, vi 0] (vn 13) (.chk 0 (.load none) [vn 13] (vn 14) (.chk 0 (.build [.nilIface] [(0, 1)]) [vn 14] (vn 15) (.self (.ifc 134 (.n 15)) (.self (vn 1) (.chk 0 (.idxA 1) [vn 1, vi 1] (vn 17) (.chk 0 (.load none) [vn 17] (vn 18) (.chk 0 (.ta 76 (.agg #[(.slice none 0 0)]) false) [vn 18] (vn 19) (.chk 0 (.field 0 none) [vn 19] (vn 20) (.chk 1 (.build [(.slice none 0 0)] [(0, 1)]) [vn 22] (vn 23) (.self (.ifc 76 (.n 23)) (.self (.sl (.n 24) 1) (.self (vi 0) (.op .tup [.sl (.n 24) 1, vi 0] (.fin 1 [vn 25]))))))))))))))))))))))))
def Dt : N := .bump 18 (.save (.op (.idxA 1) [vn 1, vi 0] (ld 13 (.op (.build [.nilIface] [(0, 1)]) [vn 14] (.opAt 12 5 (.newSl 100 [.nilIface] [(0, 1)]) [.ifc 134 (.n 15)] Ds)))))
def Du : N := .op (.idxA 1) [vn 1, vi 0] (ld 13 (.call 83 [vn 14] (.op (.build [(bs [])] [(0, 1)]) [vn 15] (.op (.newSl 41 [.nilIface] [(0, 1)]) [.ifc 72 (.n 16)] (.op .tup [.sl (.n 17) 1, vi 0] (.fin 1 [vn 18]))))))
def Dv : N := .op (.idxA 1) [vn 1, vi 0] (ld 13 (.op (.ta 72 (.agg #[(bs [])]) false) [vn 14] (.op (.field 0 none) [vn 15] (.call 84 [vn 16] (.op (.ext 0) [vn 17] (.op (.ext 1) [vn 17] (.op (.build [(.int .i64 0)] [(0, 1)]) [vn 18] (.op (.newSl 41 [.nilIface] [(0, 1)]) [.ifc 45 (.n 20)] (.op .tup [.sl (.n 21) 1, vn 19] (.fin 1 [vn 22]))))))))))
def Dw : N := bo .eql [vn 0, vv (bs [62, 115, 116, 114])] (.br (vn 12) Du Dv)
def Dx : N := bo .eql [vn 0, vv (bs [99, 117, 114, 114, 121])] (.br (vn 11) Dt Dw)
def Dy : N := bo .eql [vn 0, vv (bs [114, 101, 118, 101, 114, 115, 101])] (.br (vn 10) Dr Dx)
def Dz : N := bo .eql [vn 0, vv (bs [117, 110, 112, 97, 105, 114])] (.br (vn 9) Dq Dy)
def EA : N := bo .eql [vn 0, vv (bs [112, 97, 105, 114])] (.br (vn 8) Dn Dz)
def EB : N := bo .eql [vn 0, vv (bs [119, 114, 97, 112])] (.br (vn 7) Dm EA)
def EC : N := bo .eql [vn 0, vv (bs [115, 108, 105, 99, 101])] (.br (vn 6) Dl EB)
def ED : N := bo .eql [vn 0, vv (bs [110, 116, 104])] (.br (vn 5) Dj EC)
def EE : N := bo .eql [vn 0, vv (bs [99, 111, 109, 112, 111, 115, 101])] (.br (vn 4) Dg ED)
def EF : N := bo .eql [vn 0, vv (bs [97, 112, 112, 101, 110, 100])] (.br (vn 3) De EE)
def t45 : N := bo .eql [vn 0, vv (bs [108, 101, 110, 103, 116, 104])] (.br (vn 2) Dc EF)
def t73 : N := .op (.newSl 41 [.nilIface] [(0, 1)]) [vn 0] (.op .tup [.sl (.n 2) 1, vn 1] (.fin 1 [vn 3]))
def t75 : N := .op (.ta 45 (.agg #[(.int .i64 0)]) false) [vn 0] (.op (.field 0 none) [vn 1] (.fin 1 [vn 2]))
end Go.AM.PV
namespace Go.AM.PV
open Go Go.AM Go.AM.SX
def cc : List UInt8 -> Nat -> Nat
 | [], a => a
 | c :: l, a => cc l (10 * a + (c.toNat - 48))
def nb (l : List UInt8) : Prop := ∀ c, c ∈ l -> 48 <= c.toNat /\ c.toNat <= 57
theorem qc : ∀ (l : List UInt8) (a : Nat), a <= cc l a
 | [], a => Nat.le_refl a
 | c :: l, a => by
  have := qc l (10 * a + (c.toNat - 48))
  simp only [cc]
  omega
theorem ub : ∀ (l : List UInt8) (c : UInt8) (a : Nat), cc (l ++ [c]) a = 10 * cc l a + (c.toNat - 48)
 | [], _, _ => rfl
 | b :: l, c, a => by
  simp only [List.cons_append, cc]
  exact ub l c _
theorem ra (u : Nat) : cc (Lib.decDigits u) 0 = u /\ nb (Lib.decDigits u) /\ Lib.decDigits u ≠ [] := by
 induction u using Nat.strongRecOn with
 | _ u ih =>
  have ht : ∀ d, d < 10 -> (UInt8.ofNat (48 + d)).toNat = 48 + d := fun d hd => by
   rw [UInt8.toNat_ofNat']
   omega
  rw [Lib.decDigits]
  by_cases h : u < 10
  ·rw [dif_pos h]
   refine ⟨?_, ?_, by simp⟩
   ·simp only [cc, ht u h]; omega
   ·intro c hc
    obtain rfl := List.mem_singleton.1 hc
    rw [ht u h]; omega
  ·rw [dif_neg h]
   obtain ⟨h1, h2, h3⟩ := ih (u / 10) (by omega)
   refine ⟨?_, ?_, by simp⟩
   ·rw [ub, h1, ht _ (by omega)]; omega
   ·intro c hc
    rcases List.mem_append.1 hc with hc | hc
    ·exact h2 c hc
    ·obtain rfl := List.mem_singleton.1 hc
     rw [ht _ (by omega)]; omega
theorem uc {r : Int} (h0 : 48 <= r) (h1 : r <= 57) : digit r = (r - 48, 48, true) := by
 have h : script r = 48 := by unfold script; rw [if_pos ⟨h0, h1⟩]
 unfold digit
 rw [h, if_neg (by decide)]
theorem nc {d : Int} (h0 : 0 <= d) (h9 : d <= 9) : IntKind.wrap .i64 ((1152921504606846976 - d).tdiv 10) = (1152921504606846976 - d) / 10 := by
 rw [Int.tdiv_eq_ediv_of_nonneg (by omega), <- qC, ki (by omega) (by omega)]
theorem ud {u : ByteArray} {pos : Nat} (hd : nb u.data.toList) (hlt : pos < u.size) : ∃ c : UInt8, Utf8.decode u pos = (c.toNat, 1) /\ u.data.toList.drop pos = c :: u.data.toList.drop (pos + 1) /\ 48 <= c.toNat /\ c.toNat <= 57 := by
 have hl : pos < u.data.toList.length := by rw [<- Lib.size_eq]; exact hlt
 have hm := hd _ (List.getElem_mem hl)
 have e : u[pos]'hlt = u.data.toList[pos]'hl := by simp [ByteArray.getElem_eq_getElem_data]
 refine ⟨u.data.toList[pos]'hl, ?_, List.drop_eq_getElem_cons hl, hm⟩
 have := decode_ascii u pos hlt (by rw [e]; omega)
 rw [this, e]
attribute [local irreducible] pz aY
section
variable {E : Env} {gl : List GRow} {cfg : Cfg} {fuel : Nat}
set_option maxHeartbeats 4000000 in
theorem Qe (hE : SxEnv E) (h124 : aC E cfg fuel 124 1 = some t124) (h146 : aC E cfg fuel 146 1 = some t146) {s : ByteArray} (hd : nb s.data.toList) (hne : 0 < s.size) (hlen : s.size <= 1048576) (hv : cc s.data.toList 0 <= 1152921504606846975)
  (hp1 : PR E gl 67 [St s, St ⟨[45].toArray⟩] [] (Bo false) []) (hp2 : PR E gl 67 [St s, St ⟨[226, 136, 146].toArray⟩] [] (Bo false) []) :
  PR E gl 124 [St s] [] (.tup [I (cc s.data.toList 0 : Nat), Bo true, Bo true]) [] := by
 refine fnZ hE (cfg := cfg) (fuel := fuel) h124 (by kernel_rfl) ?_
 unfold t124
 try refine aI rfl hp1 (Nat.le_refl _) ?_
 try dsimp only [go_sem]
 try refine aA ?_
 try refine aI rfl hp2 (Nat.le_refl _) ?_
 try dsimp only [go_sem]
 try refine aA ?_
 refine gY rfl ?_
 try dsimp only [go_sem]
 refine ah (fun κ vs ν => ∃ (pos m : Nat) (b : Int), κ = s.size - pos /\ pos <= s.size /\ vs = [Bo false, R32 b, Bo true, I m] /\ ν = [.sit s pos] /\ (b = 48 \/ b = -1 /\ pos = 0) /\ cc (s.data.toList.drop pos) m = cc s.data.toList 0) rfl s.size
  _ (LeL.refl _) ⟨0, 0, -1, by omega, by omega, rfl, rfl, .inr ⟨rfl, rfl⟩, by rw [List.drop_zero]⟩ ?_
 rintro κ vs ν ⟨pos, m, b, rfl, hps, rfl, rfl, hb, heq⟩
 try dsimp only [go_sem]
 refine gZ (i := 0) (s := s) (pos := pos) rfl rfl (fun hlt => ?_) (fun hge => ?_)
 ·obtain ⟨c, hdec, hdr, hc0, hc9⟩ := ud hd hlt
  rw [hdr] at heq
  simp only [cc] at heq
  have hge := qc (s.data.toList.drop (pos + 1)) (10 * m + (c.toNat - 48))
  have hdg := nT (gl := gl) hE h146 ((c.toNat : Nat) : Int)
  rw [uc (by omega) (by omega)] at hdg
  dsimp only at hdg
  rw [hdec]
  obtain ⟨dd, hdd⟩ : ∃ dd : Nat, c.toNat = 48 + dd := ⟨c.toNat - 48, by omega⟩
  rw [hdd] at hdg heq hge ⊢
  have e1 : ((48 + dd : Nat) : Int) - 48 = (dd : Int) := by omega
  rw [e1] at hdg
  have e2 : 48 + dd - 48 = dd := by omega
  rw [e2] at heq hge
  try dsimp only [go_sem]
  try refine aA ?_
  try refine aI rfl (hdg.frame rfl _) (Nat.le_refl _) ?_
  try dsimp only [go_sem]
  try refine aA ?_
  have hnx : ∀ x : Int, x = 10 * (m : Int) + (dd : Int) -> ∃ j, j < s.size - pos /\ ∃ (pos' m' : Nat) (b' : Int), j = s.size - pos' /\ pos' <= s.size /\ [Bo false, R32 48, Bo true, I x] = [Bo false, R32 b', Bo true, I m'] /\ [Ob.sit s (pos + 1)] = [Ob.sit s pos'] /\ (b' = 48 \/ b' = -1 /\ pos' = 0) /\
    cc (s.data.toList.drop pos') m' = cc s.data.toList 0 := by
   rintro x rfl
   exact ⟨_, by omega, pos + 1, 10 * m + dd, 48, rfl, by omega, by rw [show ((10 * m + dd : Nat) : Int) = 10 * (m : Int) + (dd : Int) by omega], rfl, .inl rfl, heq⟩
  rcases hb with rfl | ⟨rfl, rfl⟩
  ·refine aA ?_
   refine hJ rfl (by decide) ?_
   try dsimp only [go_sem]
   rw [nc (by omega) (by omega)]
   try refine aA ?_
   refine aF rfl ?_
   exact hnx _ (by rw [ki (n := 10 * (m : Int)) (by omega) (by omega), ki (by omega) (by omega)])
  ·refine aA ?_
   refine hJ rfl (by decide) ?_
   try dsimp only [go_sem]
   rw [nc (by omega) (by omega)]
   try refine aA ?_
   refine aF rfl ?_
   exact hnx _ (by rw [ki (n := 10 * (m : Int)) (by omega) (by omega), ki (by omega) (by omega)])
 ·obtain rfl : pos = s.size := by omega
  rw [List.drop_eq_nil_of_le (by rw [<- Lib.size_eq]; exact Nat.le_refl _)] at heq
  simp only [cc] at heq
  subst heq
  obtain rfl : b = 48 := by rcases hb with h | h; exact h; omega
  try dsimp only [go_sem]
  try refine aA ?_
  refine aF rfl ?_
  try dsimp only [go_sem]
  repeat (refine aA ?_)
  rw [show decide ((48 : Int) >= 0) = true from rfl, decide_eq_true (show ((cc s.data.toList 0 : Nat) : Int) <= 1152921504606846975 by omega)]
  exact aE 0 rfl (Nat.zero_le _) rfl rfl ⟨rfl, rfl⟩
set_option maxHeartbeats 4000000 in
theorem Qf (hE : SxEnv E) (h124 : aC E cfg fuel 124 1 = some t124) (h146 : aC E cfg fuel 146 1 = some t146) {s : ByteArray} (hk : 1 <= s.size) (hd : nb (s.extract 1 s.size).data.toList) (hne : 0 < (s.extract 1 s.size).size) (hlen : s.size <= 1048576) (hv : cc (s.extract 1 s.size).data.toList 0 <= 1152921504606846976)
  (hp1 : PR E gl 67 [St s, St ⟨[45].toArray⟩] [] (Bo true) []) {r0 : Int} (hde : PR E gl 145 [St s] [] (.c (.tuple #[.int .i32 r0, .int .i64 ((1 : Nat) : Int)])) []) :
  PR E gl 124 [St s] [] (.tup [I (-((cc (s.extract 1 s.size).data.toList 0 : Nat) : Int)), Bo true, Bo true]) [] := by
 refine fnZ hE (cfg := cfg) (fuel := fuel) h124 (by kernel_rfl) ?_
 unfold t124
 try refine aI rfl hp1 (Nat.le_refl _) ?_
 try dsimp only [go_sem]
 try refine aA ?_
 try refine aI rfl hde (Nat.le_refl _) ?_
 try dsimp only [go_sem]
 try refine aA ?_
 refine qK (s := s) (l := 1) rfl hk ?_
 try dsimp only [go_sem]
 try refine aA ?_
 have hul : (s.extract 1 s.size).size <= 1048576 := by rw [Lib.ext_size]; omega
 clear hde hp1
 generalize s.extract 1 s.size = u at hul hd hne hv ⊢
 refine gY rfl ?_
 try dsimp only [go_sem]
 refine ah (fun κ vs ν => ∃ (pos m : Nat) (b : Int), κ = u.size - pos /\ pos <= u.size /\ vs = [Bo false, R32 b, Bo true, I m] /\ ν = [.sit u pos] /\ (b = 48 \/ b = -1 /\ pos = 0) /\ cc (u.data.toList.drop pos) m = cc u.data.toList 0) rfl u.size
  _ (LeL.refl _) ⟨0, 0, -1, by omega, by omega, rfl, rfl, .inr ⟨rfl, rfl⟩, by rw [List.drop_zero]⟩ ?_
 rintro κ vs ν ⟨pos, m, b, rfl, hps, rfl, rfl, hb, heq⟩
 try dsimp only [go_sem]
 refine gZ (i := 0) (s := u) (pos := pos) rfl rfl (fun hlt => ?_) (fun hge => ?_)
 ·obtain ⟨c, hdec, hdr, hc0, hc9⟩ := ud hd hlt
  rw [hdr] at heq
  simp only [cc] at heq
  have hge := qc (u.data.toList.drop (pos + 1)) (10 * m + (c.toNat - 48))
  have hdg := nT (gl := gl) hE h146 ((c.toNat : Nat) : Int)
  rw [uc (by omega) (by omega)] at hdg
  dsimp only at hdg
  rw [hdec]
  obtain ⟨dd, hdd⟩ : ∃ dd : Nat, c.toNat = 48 + dd := ⟨c.toNat - 48, by omega⟩
  rw [hdd] at hdg heq hge ⊢
  have e1 : ((48 + dd : Nat) : Int) - 48 = (dd : Int) := by omega
  rw [e1] at hdg
  have e2 : 48 + dd - 48 = dd := by omega
  rw [e2] at heq hge
  try dsimp only [go_sem]
  try refine aA ?_
  try refine aI rfl (hdg.frame rfl _) (Nat.le_refl _) ?_
  try dsimp only [go_sem]
  try refine aA ?_
  have hnx : ∀ x : Int, x = 10 * (m : Int) + (dd : Int) -> ∃ j, j < u.size - pos /\ ∃ (pos' m' : Nat) (b' : Int), j = u.size - pos' /\ pos' <= u.size /\ [Bo false, R32 48, Bo true, I x] = [Bo false, R32 b', Bo true, I m'] /\ [Ob.sit u (pos + 1)] = [Ob.sit u pos'] /\ (b' = 48 \/ b' = -1 /\ pos' = 0) /\
    cc (u.data.toList.drop pos') m' = cc u.data.toList 0 := by
   rintro x rfl
   exact ⟨_, by omega, pos + 1, 10 * m + dd, 48, rfl, by omega, by rw [show ((10 * m + dd : Nat) : Int) = 10 * (m : Int) + (dd : Int) by omega], rfl, .inl rfl, heq⟩
  rcases hb with rfl | ⟨rfl, rfl⟩
  ·refine aA ?_
   refine hJ rfl (by decide) ?_
   try dsimp only [go_sem]
   rw [nc (by omega) (by omega)]
   try refine aA ?_
   refine aF rfl ?_
   exact hnx _ (by rw [ki (n := 10 * (m : Int)) (by omega) (by omega), ki (by omega) (by omega)])
  ·refine aA ?_
   refine hJ rfl (by decide) ?_
   try dsimp only [go_sem]
   rw [nc (by omega) (by omega)]
   try refine aA ?_
   refine aF rfl ?_
   exact hnx _ (by rw [ki (n := 10 * (m : Int)) (by omega) (by omega), ki (by omega) (by omega)])
 ·obtain rfl : pos = u.size := by omega
  rw [List.drop_eq_nil_of_le (by rw [<- Lib.size_eq]; exact Nat.le_refl _)] at heq
  simp only [cc] at heq
  subst heq
  obtain rfl : b = 48 := by rcases hb with h | h; exact h; omega
  try dsimp only [go_sem]
  try refine aA ?_
  refine aF rfl ?_
  try dsimp only [go_sem]
  repeat (refine aA ?_)
  rw [show IntKind.wrap .i64 (0 - ((cc u.data.toList 0 : Nat) : Int)) = -((cc u.data.toList 0 : Nat) : Int) from by rw [<- qC, ki (by omega) (by omega)]; omega, decide_eq_true (show -((cc u.data.toList 0 : Nat) : Int) <= 1152921504606846975 by omega)]
  exact aE 0 rfl (Nat.zero_le _) rfl rfl ⟨rfl, rfl⟩
end
end Go.AM.PV
namespace Go.AM.PV
open Go Go.AM Go.AM.SX
def Qg : N := bo .eql [vn 10, vi 1] (.fin 1 [vn 13])
def Qh : N := .call 11 [vn 18] (.call 11 [vn 27] (.call 15 [vn 35, vn 36] (.fin 1 [vn 37])))
def Qi : N := bo .eql [vn 28, vi 0] (.br (vn 34) Qh (.fin 1 [vv (.bool false)]))
def Qj : N := bo .eql [vn 19, vi 0] (.br (vn 33) Qi (.fin 1 [vv (.bool false)]))
def Qk : N := .op (.build [(.int .i64 0), (.int .i64 0), (bs []), (.slice none 0 0)] [(0, 1), (1, 1)]) [vi 1, vn 0] (.op (.newSl 35 [(.int .i64 0), (.int .i64 0), (bs []), (.slice none 0 0)] [(0, 4)]) [vn 30] (.call 18 [vn 9, .sl (.n 31) 1] (.br (vn 32) Qj (.fin 1 [vv (.bool false)]))))
def Ql : N := .op (.build [(.bool false)] [(0, 1)]) [vn 1] (.op (.build [(.bool false)] [(0, 1)]) [vn 2] (.op (.newSl 41 [.nilIface, .nilIface] [(0, 1), (1, 1)]) [.ifc 49 (.n 13), .ifc 49 (.n 14)] (.op (.newSl 9 [(bs []), (bs [])] [(0, 1), (1, 1)]) [vv (bs [97, 110, 100]), vv (bs [110, 111, 116])] (.call 17 [.sl (.n 15) 2, .sl (.n 16) 2] (.op (.ext 0) [vn 17] (.op (.ext 1) [vn 17] (.op .not [vn 1] (.op (.build [(.bool false)] [(0, 1)]) [vn 20] (.op .not [vn 2] (.op (.build [(.bool false)] [(0, 1)]) [vn 22] (.op (.newSl 41 [.nilIface, .nilIface] [(0, 1), (1, 1)]) [.ifc 49 (.n 21), .ifc 49 (.n 23)] (.op (.newSl 9 [(bs [])] [(0, 1)]) [vv (bs [111, 114])] (.call 17 [.sl (.n 24) 2, .sl (.n 25) 1] (.op (.ext 0) [vn 26] (.op (.ext 1) [vn 26] (bo .eql [vn 10, vi 0] (.br (vn 29) Qk (.fin 1 [vv (.bool false)]))))))))))))))))))
def Qm : N := .op (.build [(.int .i64 0)] [(0, 1)]) [vn 0] (.op (.newSl 41 [.nilIface] [(0, 1)]) [.ifc 45 (.n 5)] (.op (.newSl 9 [(bs []), (bs [])] [(0, 1), (1, 1)]) [vv (bs [62, 115, 116, 114]), vv (bs [62, 105, 110, 116])] (.call 17 [.sl (.n 6) 1, .sl (.n 7) 2] (.op (.ext 0) [vn 8] (.op (.ext 1) [vn 8] (.call 21 [vn 0] (.op .not [vn 11] (.br (vn 12) Qg Ql))))))))
def t6 : N := .call 10 [] (.op .not [vn 3] (.br (vn 4) (.fin 1 [vv (.bool false)]) Qm))
def Qn : N := .op (.alloc 45 [(.int .i64 0)]) [] (.op (.store 1) [vn 4, vn 3] (.op (.fld 0) [vn 4] (ld 6 (.call 118 [vn 7, vi 10] (.fin 1 [vn 8])))))
def Qo : N := .op (.alloc 72 [(bs [])]) [] (.op (.store 1) [vn 7, vn 6] (.op (.fld 0) [vn 7] (ld 9 (.call 119 [vn 10] (.op (.ext 0) [vn 11] (.op (.ext 1) [vn 11] (.fin 1 [vn 12])))))))
def Qp : N := .op (.alloc 49 [(.bool false)]) [] (.op (.store 1) [vn 10, vn 9] (.op (.fld 0) [vn 10] (ld 12 (.br (vn 13) (.fin 1 [vv (bs [116])]) (.fin 1 [vv (bs [102])])))))
def Qq : N := .op (.alloc 52 [(.slice none 0 0)]) [] (.op (.store 1) [vn 13, vn 12] (.op (.fld 0) [vn 13] (ld 15 (.op .lenL [vn 16] (.call 120 [vv (bs [123]), vv (bs [125]), vn 17, .fn 121 [(.n 13)]] (.fin 1 [vn 18]))))))
def Qr : N := .op (.alloc 76 [(.slice none 0 0)]) [] (.op (.store 1) [vn 16, vn 15] (.op (.fld 0) [vn 16] (ld 18 (.op .lenL [vn 19] (.call 120 [vv (bs [91]), vv (bs [93]), vn 20, .fn 122 [(.n 16)]] (.fin 1 [vn 21]))))))
def Qs : N := .op (.ta 76 (.agg #[(.slice none 0 0)]) true) [vn 0] (.op (.ext 1) [vn 13] (.op (.ext 0) [vn 13] (.br (vn 14) Qr (.fin 1 [vv (bs [98, 111, 120])]))))
def Qt : N := .op (.ta 52 (.agg #[(.slice none 0 0)]) true) [vn 0] (.op (.ext 1) [vn 10] (.op (.ext 0) [vn 10] (.br (vn 11) Qq Qs)))
def Qu : N := .op (.ta 49 (.agg #[(.bool false)]) true) [vn 0] (.op (.ext 1) [vn 7] (.op (.ext 0) [vn 7] (.br (vn 8) Qp Qt)))
def Qv : N := .op (.ta 72 (.agg #[(bs [])]) true) [vn 0] (.op (.ext 1) [vn 4] (.op (.ext 0) [vn 4] (.br (vn 5) Qo Qu)))
def t83 : N := .op (.ta 45 (.agg #[(.int .i64 0)]) true) [vn 0] (.op (.ext 1) [vn 1] (.op (.ext 0) [vn 1] (.br (vn 2) Qn Qv)))
def Qw : N := .op .tup [vi 0, vi 9] (.fin 1 [vn 6])
def Qx : N := .op .tup [vi 0, vi 11] (.fin 1 [vn 7])
def Qy : N := .op .tup [vn 2, vi 0] (.fin 1 [vn 7])
def Qz : N := .op .not [vn 4] (.br (vn 6) Qx Qy)
def t84 : N := .call 124 [vn 0] (.op (.ext 0) [vn 1] (.op (.ext 1) [vn 1] (.op (.ext 2) [vn 1] (.op .not [vn 3] (.br (vn 5) Qw Qz)))))
end Go.AM.PV
namespace Go.Proofs
open Go.Shelf
def Tryz.laysM173_ren : Go.Shelf.Ren := ⟨fun | 173 => 118 | 246 => 141 | 283 => 159 | 284 => 160 | 285 => 161 | 286 => 162 | 129 => 173 | 317 => 172 | 318 => 174 | 319 => 175 | 320 => 176 | 337 => 182 | 338 => 183 | n => n, fun | 2 => 2 | 3 => 3 | 9 => 9 | 4 => 4 | 171 => 230 | 0 => 0 | 53 => 165 | 37 => 112 | 5 => 5 | 173 => 233 | 212 => 258 | 51 => 162 | 20 => 20 | 213 => 259 | 46 => 107 | 232 => 280 | 233 => 281 | n => n, fun | 17 => 5 | 18 => 6 | 19 => 7 | n => n⟩
theorem Tryz.laysM173 : Go.Proofs.LaysM.n173 Tryz.prog Tryz.laysM173_ren := {
 mixed := by kernel_rfl
 f129 := Tryz.func173.trans (congrArg some (by kernel_rfl))
 f173 := Tryz.func118.trans (congrArg some (by kernel_rfl))
 f246 := Tryz.func141.trans (congrArg some (by kernel_rfl))
 f283 := Tryz.func159.trans (congrArg some (by kernel_rfl))
 f284 := Tryz.func160.trans (congrArg some (by kernel_rfl))
 f285 := Tryz.func161.trans (congrArg some (by kernel_rfl))
 f286 := Tryz.func162.trans (congrArg some (by kernel_rfl))
 f317 := Tryz.func172.trans (congrArg some (by kernel_rfl))
 f318 := Tryz.func174.trans (congrArg some (by kernel_rfl))
 f319 := Tryz.func175.trans (congrArg some (by kernel_rfl))
 f320 := Tryz.func176.trans (congrArg some (by kernel_rfl))
 f337 := Tryz.func182.trans (congrArg some (by kernel_rfl))
 f338 := Tryz.func183.trans (congrArg some (by kernel_rfl))
 t0 := Tryz.underlying0
 a0 := Tryz.isAgg0
 z0 := Tryz.sizeOf0
 v0 := Tryz.zeroValue0
 t2 := Tryz.underlying2
 a2 := Tryz.isAgg2
 z2 := Tryz.sizeOf2
 v2 := Tryz.zeroValue2
 t3 := Tryz.underlying3
 a3 := Tryz.isAgg3
 z3 := Tryz.sizeOf3
 v3 := Tryz.zeroValue3
 t4 := Tryz.underlying4
 a4 := Tryz.isAgg4
 z4 := Tryz.sizeOf4
 v4 := Tryz.zeroValue4
 t5 := Tryz.underlying5
 a5 := Tryz.isAgg5
 z5 := Tryz.sizeOf5
 v5 := Tryz.zeroValue5
 t9 := Tryz.underlying9
 a9 := Tryz.isAgg9
 z9 := Tryz.sizeOf9
 v9 := Tryz.zeroValue9
 t20 := Tryz.underlying20
 a20 := Tryz.isAgg20
 z20 := Tryz.sizeOf20
 v20 := Tryz.zeroValue20
 t37 := Tryz.underlying112
 a37 := Tryz.isAgg112
 z37 := Tryz.sizeOf112
 v37 := Tryz.zeroValue112
 t46 := Tryz.underlying107
 a46 := Tryz.isAgg107
 z46 := Tryz.sizeOf107
 v46 := Tryz.zeroValue107
 t51 := Tryz.underlying162
 a51 := Tryz.isAgg162
 z51 := Tryz.sizeOf162
 v51 := Tryz.zeroValue162
 t53 := Tryz.underlying165
 a53 := Tryz.isAgg165
 z53 := Tryz.sizeOf165
 v53 := Tryz.zeroValue165
 t171 := Tryz.underlying230
 a171 := Tryz.isAgg230
 z171 := Tryz.sizeOf230
 v171 := Tryz.zeroValue230
 t173 := Tryz.underlying233
 a173 := Tryz.isAgg233
 z173 := Tryz.sizeOf233
 v173 := Tryz.zeroValue233
 t212 := Tryz.underlying258
 a212 := Tryz.isAgg258
 z212 := Tryz.sizeOf258
 v212 := Tryz.zeroValue258
 t213 := Tryz.underlying259
 a213 := Tryz.isAgg259
 z213 := Tryz.sizeOf259
 t232 := Tryz.underlying280
 a232 := Tryz.isAgg280
 z232 := Tryz.sizeOf280
 v232 := Tryz.zeroValue280
 t233 := Tryz.underlying281
 a233 := Tryz.isAgg281
 z233 := Tryz.sizeOf281
 v233 := Tryz.zeroValue281
 g17 := by kernel_rfl
 g18 := by kernel_rfl
 g19 := by kernel_rfl
 i0 := by kernel_rfl
 i2 := by kernel_rfl
 i3 := by kernel_rfl
 i4 := by kernel_rfl
 i5 := by kernel_rfl
 i9 := by kernel_rfl
 i20 := by kernel_rfl
 i37 := by kernel_rfl
 i46 := by kernel_rfl
 i51 := by kernel_rfl
 i53 := by kernel_rfl
 i171 := by kernel_rfl
 i173 := by kernel_rfl
 i212 := by kernel_rfl
 i232 := by kernel_rfl
 i233 := by kernel_rfl
 m17 := by kernel_rfl
 m18 := by kernel_rfl
 m19 := by kernel_rfl }
end Go.Proofs
