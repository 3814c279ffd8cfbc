/- A text has a bad rune just when it is not valid UTF-8. -/
import Derived.Test.YtilbjefgojocaaaGreatDoorPvAuto
import Derived.Lib.RuneCount
import Derived.Lib.MapLaws
import Derived.Lib.ValidLaws
import Derived.Lib.ValidAsc
namespace Go.AM.PV
open Go Go.AM Go.AM.SX
def mS (op : BinOp) (as : List P) : Option P := match as with
 | [.c (.int k a), .c (.int k' b)] => if k = k' then (match op with
   | .eql => some (.c (.bool (decide (a = b))))
   | .neq => some (.c (.bool !decide (a = b)))
   | .lss => some (.c (.bool (decide (a < b))))
   | .leq => some (.c (.bool (decide (a <= b))))
   | .gtr => some (.c (.bool (decide (a > b))))
   | .geq => some (.c (.bool (decide (a >= b))))
   | _ => none) else none
 | as => aS (.bin op) as
def tz (r : SX.R) (as : List P) : Option P := match r with
 | .bin op => mS op as
 | .conv _ => none
 | .lenS => (match as with
  | [.c (.string s)] => some (.c (.int .i64 (s.size : Int)))
  | _ => none)
 | .lenL => (match as with
  | [.sl _ n _] | [.fx _ n _] => some (.c (.int .i64 (n : Int)))
  | as => aS .lenL as)
 | .not => (match as with
  | [.c (.bool t)] => some (.c (.bool !t))
  | _ => none)
 | r => aS r as
theorem wT {op : BinOp} {as : List P} {p : P} (h : mS op as = some p) : aS (.bin op) as = some p := by
 unfold mS at h
 split at h
 ·rename_i k a k' b
  split at h
  ·rename_i hk
   subst hk
   cases op <;> first
    | (cases h; done)
    | (cases h; exact ke kg)
  ·cases h
 ·exact h
theorem wU {r : SX.R} {as : List P} {p : P} (h : tz r as = some p) : aS r as = some p := by
 unfold tz at h
 split at h
 ·exact wT h
 ·cases h
 ·split at h
  ·cases h; rfl
  ·cases h
 ·split at h
  ·cases h; rfl
  ·cases h; rfl
  ·exact h
 ·split at h
  ·cases h; rfl
  ·cases h
 ·exact h
def mT (op : BinOp) (as : List P) : Option P := match as with
 | [.c (.int k a), .c (.int k' b)] => if k = k' then (match op with
   | .add => some (.c (.int k (aT k (a + b))))
   | .sub => some (.c (.int k (aT k (a - b))))
   | .mul => some (.c (.int k (aT k (a * b))))
   | _ => none) else none
 | _ => none
def tw (r : SX.R) (as : List P) : Option P := match r with
 | .bin op => mT op as
 | .conv k => (match as with
  | [.c (.int _ a)] => some (.c (.int k (aT k a)))
  | _ => none)
 | _ => none
theorem wV {op : BinOp} {as : List P} {p : P} (h : mT op as = some p) : aS (.bin op) as = some p := by
 unfold mT at h
 split at h
 ·rename_i k a k' b
  split at h
  ·rename_i hk
   subst hk
   cases op <;> first
    | (cases h; done)
    | (cases h; exact ke kg)
  ·cases h
 ·cases h
theorem wW {r : SX.R} {as : List P} {p : P} (h : tw r as = some p) : aS r as = some p := by
 unfold tw at h
 split at h
 ·exact wV h
 ·split at h
  ·rename_i k _ kd a
   cases h
   show some (P.c (.int k (IntKind.wrap k a))) = _
   rw [nS]
  ·cases h
 ·cases h
def stz (r : SX.R) (xs : List X) (ps : List P) (μ : Mu) : Option (List P × Mu) :=
 match r with
 | .load n => match denF ps xs with
  | some as => match aS (.load n) as with
   | some p => some (ps ++ [p], μ)
   | none => none
  | none => none
 | .store _ | .app _ _ _ | .toBytes _ | .range _ | .next _ => none
 | .alloc t z => match denF ps xs with
  | some as => match bg (.alloc t z) as μ with
   | some (p, μ') => some (ps ++ [p], μ')
   | none => none
  | none => none
 | .box t => match denF ps xs with
  | some as => match bg (.box t) as μ with
   | some (p, μ') => some (ps ++ [p], μ')
   | none => none
  | none => none
 | .newSl t z pl => match denF ps xs with
  | some as => match bg (.newSl t z pl) as μ with
   | some (p, μ') => some (ps ++ [p], μ')
   | none => none
  | none => none
 | .mkSl t z b => match denF ps xs with
  | some as => match bg (.mkSl t z b) as μ with
   | some (p, μ') => some (ps ++ [p], μ')
   | none => none
  | none => none
 | r => match denF ps xs with
  | some as => match tz r as with
   | some p => some (ps ++ [p], μ)
   | none => none
  | none => none
section
variable {E : Env} {gl : List GRow} {k a b : N} {m : Nat} {rv : Rv} {d : Bool} {hs : List Nat} {ps ps' : List P} {μ μ' : Mu} {Q : aU} {xs : List X}
theorem mU {r : SX.R} (h : stz r xs ps μ = some (ps', μ')) (hk : pz E gl k m rv d hs ps' μ' Q) : pz E gl (.op r xs k) m rv d hs ps μ Q := by
 unfold stz at h
 cases r <;> simp only at h <;> first
  | (cases h; done)
  | (split at h
     ·rename_i as hd
      split at h
      ·rename_i p hp
       cases h
       exact ⟨as, p, hd, wU hp, hk⟩
      ·cases h
     ·cases h)
  | (split at h
     ·rename_i as hd
      split at h
      ·rename_i p μ1 hp
       cases h
       exact ⟨as, p, _, hd, hp, hk⟩
      ·cases h
     ·cases h)
  | skip
 case load n =>
  split at h
  ·rename_i as hd
   split at h
   ·rename_i p hp
    cases h
    exact .inl ⟨as, p, hd, hp, hk⟩
   ·cases h
  ·cases h
theorem wX {n : Option Nat} {i off : Nat} {p : P} (h : denF ps xs = some [.lp i off]) (hp : cM μ n i off = some p) (hd : d = false \/ bM k = true) (hk : pz E gl k m rv d hs (ps ++ [fz p]) μ Q) : pz E gl (.op (.load n) xs k) m rv d hs ps μ Q := .inr (.inl ⟨i, off, p, h, hp, hd, hk⟩)
theorem gW {x : X} (h : denF ps [x] = some [.c (.bool true)]) (hk : pz E gl a m rv d hs ps μ Q) : pz E gl (.br x a b) m rv d hs ps μ Q := ⟨true, h, fun _ => hk, fun e => (by cases e)⟩
theorem gX {x : X} (h : denF ps [x] = some [.c (.bool false)]) (hk : pz E gl b m rv d hs ps μ Q) : pz E gl (.br x a b) m rv d hs ps μ Q := ⟨false, h, fun e => (by cases e), fun _ => hk⟩
theorem aG {x : X} {t : Bool} (h : denF ps [x] = some [.c (.bool t)]) (ha : t = true -> pz E gl a m rv d hs ps μ Q) (hb : t = false -> pz E gl b m rv d hs ps μ Q) : pz E gl (.br x a b) m rv d hs ps μ Q := ⟨t, h, ha, hb⟩
theorem aI {f : FuncId} {as : List P} {r : P} (h : denF ps xs = some as) (hp : PR E gl f as μ r μ') (hl : μ.length <= μ'.length) (hk : pz E gl k m rv true hs (ps ++ [r]) μ' Q) : pz E gl (.call f xs k) m rv d hs ps μ Q := .inl ⟨as, r, μ', h, hp, hl, hk⟩
theorem aF {o : Nat} {as : List P} (h : aj ps xs = some (as, ps')) (hq : Q o as μ) : pz E gl (.fin o xs) m rv d hs ps μ Q := ⟨as, ps', as, h, .refl as, .inl hq⟩
theorem aE {o : Nat} {as : List P} (n : Nat) (h : aj ps xs = some (as, ps')) (hm : m <= n) (h1 : okm.okL n as = true) (h2 : okM n (μ.take n) = true) (hq : Q o as (μ.take n)) : pz E gl (.fin o xs) m rv d hs ps μ Q := ⟨as, ps', as, h, .refl as, .inr ⟨n, hm, h1, h2, hq⟩⟩
theorem a7 {o : Nat} {as outs : List P} (n : Nat) (h : aj ps xs = some (as, ps')) (hl : LeL as outs) (hm : m <= n) (h1 : okm.okL n outs = true) (h2 : okM n (μ.take n) = true) (hq : Q o outs (μ.take n)) : pz E gl (.fin o xs) m rv d hs ps μ Q := ⟨as, ps', outs, h, hl, .inr ⟨n, hm, h1, h2, hq⟩⟩
theorem wY {e : TypeId} {i : TypeInfo} {z : Value} {p q c : P} (h : aj ps xs = some ([p, q], ps')) (ha : jQ e i z p (fz q) = some c) (hk : pz E gl k m rv d hs (ps' ++ [c]) μ Q) : pz E gl (.op (.app e i z) xs k) m rv d hs ps μ Q := ⟨p, q, ps', c, h, ha, hk⟩
theorem gY {s : ByteArray} (h : denF ps xs = some [.c (.string s)]) (hk : pz E gl k m rv d hs (ps ++ [.lp μ.length 0]) (μ ++ [.sit s 0]) Q) : pz E gl (.op (.range true) xs k) m rv d hs ps μ Q := ⟨s, rfl, h, hk⟩
theorem gZ {i pos : Nat} {s : ByteArray} (h : denF ps xs = some [.lp i 0]) (hi : μ[i]? = some (.sit s pos))
  (h1 : pos < s.size -> pz E gl k m rv true hs (ps ++ [.tup [.c (.bool true), .c (goInt pos), .c (.int .i32 (Utf8.decode s pos).1)]]) (μ.set i (.sit s (pos + (Utf8.decode s pos).2))) Q)
  (h2 : s.size <= pos -> pz E gl k m rv true hs (ps ++ [.tup [.c (.bool false)]]) μ Q) : pz E gl (.op (.next true) xs k) m rv d hs ps μ Q := ⟨i, s, pos, rfl, h, hi, h1, h2⟩
theorem wZ {x : X} {p : P} (h : denF ps [x] = some [p]) (hs0 : shal 40 p = true) (hk : pz E gl k m rv d hs ps μ Q) : pz E gl (.self x k) m rv d hs ps μ Q := ⟨⟨p, h, hs0⟩, hk⟩
theorem gf {bb off n : Nat} {us : List Nat} {r : SX.R} {as : List P} {p : P} (hr : rv = some (bb, n, us)) (h1 : Nat.blt off n = true) (h2 : us.contains off = false) (hd : denF ps xs = some as) (hn : bg r as μ = some (p, μ')) (hk : pz E gl k m (some (bb, n, off :: us)) d hs (ps ++ [p]) μ' Q) : pz E gl (.opAt bb off r xs k) m rv d hs ps μ Q :=
 ⟨n, us, as, p, μ', hr, Nat.le_of_ble_eq_true h1, by simpa using h2, hd, hn, hk⟩
end
section
variable {E : Env} {gl : List GRow}
theorem ah {xs : List X} {body k : N} {m : Nat} {rv : Rv} {d : Bool} {hs : List Nat} {ps ps' : List P} {μ : Mu} {Q : aU} {as : List P} (I : Nat -> List P -> Mu -> Prop) (h : aj ps xs = some (as, ps')) (κ : Nat) (vs : List P) (hl : LeL as vs) (h0 : I κ vs μ)
  (step : ∀ κ vs ν, I κ vs ν -> pz E gl body μ.length none false hs (ps'.map fz ++ vs) ν fun o outs ν' => match o with
   | 0 => ∃ j, j < κ /\ I j outs ν'
   | o + 1 => pz E gl k m none false hs (ps'.map fz ++ .c (goInt (o + 1 : Nat)) :: outs) ν' Q) : pz E gl (.loop xs body k) m rv d hs ps μ Q := by
 refine ⟨as, ps', κ + 1, vs, h, hl, ?_⟩
 have gen : ∀ κ vs ν, I κ vs ν -> aY (fun vs μ' Q' => pz E gl body μ.length none false hs (ps'.map fz ++ vs) μ' Q') (fun o outs μ' => pz E gl k m none false hs (ps'.map fz ++ .c (goInt o) :: outs) μ' Q) (κ + 1) vs ν := by
  intro κ
  induction κ using Nat.strongRecOn with
  | _ κ ih =>
   intro vs ν hI
   refine ae body ?_ (step κ vs ν hI)
   intro o outs ν' hp
   cases o with
   | zero =>
    obtain ⟨j, hj, hI'⟩ := hp
    refine sU ?_ (j + 1) κ outs ν' hj (ih j hj outs ν' hI')
    exact fun _ _ _ _ hp hw => ae body hp hw
   | succ o => exact hp
 exact gen κ vs μ h0
end
section
variable {E : Env} {gl : List GRow} {k a b : N} {m : Nat} {rv : Rv} {d : Bool} {hs : List Nat} {ps ps' : List P} {μ μ' : Mu} {Q : aU} {xs : List X}
theorem kH {i : Nat} (h : denF ps xs = some [.c (.int .i64 i), .c (.int .i64 1)]) (hi : i < 4611686018427387904) (hk : pz E gl k m rv d hs (ps ++ [.c (.int .i64 ((i + 1 : Nat) : Int))]) μ Q) : pz E gl (.op (.bin .add) xs k) m rv d hs ps μ Q := by
 refine ⟨_, _, h, ?_, hk⟩
 show (some (P.c (.int .i64 (aT .i64 ((i : Int) + 1)))) : Option P) = _
 rw [oL (by omega) (by omega)]
 rfl
theorem cW {e : TypeId} {i : TypeInfo} {z : Value} {sz n c d1 : Nat} {l l' : List P} {p : P} (hc : ps.getD c (.c undef) = p) (hd : ps.getD d1 (.c undef) = .lit l') (hcd : Nat.beq d1 c = false) (hz : i.size = sz) (hp : oN e sz p = some (n, l)) (hl : l'.length = sz) (h0 : Nat.beq sz 0 = false) (hzc : z.cells.size = sz) (hb : (n + 1) * i.bytes <= 140737488355328) (hn : n + 1 <= 4611686018427387904)
  (hk : pz E gl k m rv d hs (ps.set c (fz p) ++ [.ow e sz (n + 1) (l ++ l')]) μ Q) : pz E gl (.op (.app e i z) [vn c, .sl (.n d1) 1] k) m rv d hs ps μ Q := by
 subst hz
 subst hc
 have hne : d1 ≠ c := fun e => by rw [e, Nat.beq_refl] at hcd; cases hcd
 have hz0 : i.size ≠ 0 := fun e => by rw [e] at h0; cases h0
 have hd' : (ps.set c (fz (ps.getD c (.c undef)))).getD d1 (.c undef) = .lit l' := by
  rw [<- hd, List.getD_eq_getElem?_getD, List.getElem?_set_ne (Ne.symm hne), <- List.getD_eq_getElem?_getD]
 have ht : aj ps [vn c, .sl (.n d1) 1] = some ([ps.getD c (.c undef), .fx i.size 1 l'], ps.set c (fz (ps.getD c (.c undef)))) := by
  have h1 : ft (ps.set c (fz (ps.getD c (.c undef)))) (.sl (.n d1) 1) = some (.fx i.size 1 l', ps.set c (fz (ps.getD c (.c undef)))) := by
   show (match bN _ (X.sl (.n d1) 1) with | some p => some (fz p, _) | none => none) = _
   simp only [bN, bI, hd']
   rw [if_pos (by simp)]
   simp only [hl, Nat.div_one, fz, Nat.one_ne_zero, if_false]
  simp only [aj, vn, ft] at h1 ⊢
  rw [h1]
 refine wY ht (c := .ow e i.size (n + 1) (l ++ l')) ?_ hk
 unfold jQ
 have hq : iC i.size (fz (.fx i.size 1 l')) = some (1, l') := by simp only [fz, iC, if_true]
 rw [hp, hq]
 simp only
 rw [if_pos ⟨hz0, hzc, hb, hn⟩]
theorem kI {t : TypeId} {z0 : Value} {p q : P} (h : denF ps xs = some [q]) (hq : q = p) (h2 : aW p = [p]) (h3 : cL p = true) (hk : pz E gl k m rv d hs (ps ++ [.lit [p]]) μ Q) : pz E gl (.op (.newSl t [z0] [(0, 1)]) xs k) m rv d hs ps μ Q := by
 subst hq
 refine ⟨_, .lit [q], μ, h, ?_, hk⟩
 have h4 : cv [(0, 1)] [q] (List.map P.c [z0]) = some [q] := by
  simp only [cv, h2, nK, nL, List.length_cons, List.length_nil, Nat.zero_add, Nat.le_refl, and_self, if_true, c8, nM]
 unfold bg
 simp only [h4, List.all_cons, List.all_nil, h3, Bool.and_self, if_true]
theorem qG {z0 : Value} {p q : P} (h : denF ps xs = some [q]) (hq : q = p) (h2 : aW p = [p]) (hk : pz E gl k m rv d hs (ps ++ [.agg [p]]) μ Q) : pz E gl (.op (.build [z0] [(0, 1)]) xs k) m rv d hs ps μ Q := by
 subst hq
 refine ⟨_, .agg [q], h, ?_, hk⟩
 have h4 : cv [(0, 1)] [q] (List.map P.c [z0]) = some [q] := by
  simp only [cv, h2, nK, nL, List.length_cons, List.length_nil, Nat.zero_add, Nat.le_refl, and_self, if_true, c8, nM]
 unfold aS
 have : bd (.build [z0] [(0, 1)]) [q] = none := rfl
 rw [this]
 simp only [h4]
theorem kJ {n i off : Nat} {l : List P} {p : P} (h : aj ps xs = some ([.lp i off, p], ps')) (hi : μ[i]? = some (.cells l)) (hl : (aW p).length = n) (ho : (aW p).all cL = true) (hle : off + n <= l.length) (hk : pz E gl k m rv true hs (ps' ++ [.c undef]) (μ.set i (.cells (c8 l off (aW p)))) Q) : pz E gl (.op (.store n) xs k) m rv d hs ps μ Q :=
 ⟨i, off, p, ps', l, h, hi, hl, ho, hle, hk⟩
end
section
variable {E : Env} {gl : List GRow} {k a b : N} {m : Nat} {rv : Rv} {d : Bool} {hs : List Nat} {ps ps' : List P} {μ μ' : Mu} {Q : aU} {xs : List X}
theorem qH {x y : Int} (h : denF ps xs = some [.c (.int .i64 x), .c (.int .i64 y)]) (h0 : -9223372036854775808 <= x + y) (h1 : x + y <= 9223372036854775807) (hk : pz E gl k m rv d hs (ps ++ [.c (.int .i64 (x + y))]) μ Q) : pz E gl (.op (.bin .add) xs k) m rv d hs ps μ Q :=
 ⟨_, _, h, (ke kg).trans (by simp only [ki h0 h1]), hk⟩
theorem qI {x y : Int} (h : denF ps xs = some [.c (.int .i64 x), .c (.int .i64 y)]) (h0 : -9223372036854775808 <= x - y) (h1 : x - y <= 9223372036854775807) (hk : pz E gl k m rv d hs (ps ++ [.c (.int .i64 (x - y))]) μ Q) : pz E gl (.op (.bin .sub) xs k) m rv d hs ps μ Q :=
 ⟨_, _, h, (ke kg).trans (by simp only [ki h0 h1]), hk⟩
theorem qJ {kd : IntKind} {x : Int} (h : denF ps xs = some [.c (.int kd x)]) (h0 : -9223372036854775808 <= x) (h1 : x <= 9223372036854775807) (hk : pz E gl k m rv d hs (ps ++ [.c (.int .i64 x)]) μ Q) : pz E gl (.op (.conv .i64) xs k) m rv d hs ps μ Q := by
 refine ⟨_, .c (.int .i64 x), h, ?_, hk⟩
 show some (P.c (.int .i64 (IntKind.wrap .i64 x))) = _
 rw [nS, ki h0 h1]
theorem bF {p : Prop} [Decidable p] {x : X} (h : denF ps [x] = some [.c (.bool (decide p))]) (ha : p -> pz E gl a m rv d hs ps μ Q) (hb : ¬ p -> pz E gl b m rv d hs ps μ Q) : pz E gl (.br x a b) m rv d hs ps μ Q :=
 ⟨decide p, h, fun e => ha (of_decide_eq_true e), fun e => hb (of_decide_eq_false e)⟩
theorem bS {p : Prop} [Decidable p] {x : X} (h : denF ps [x] = some [.c (.bool !decide p)]) (ha : ¬ p -> pz E gl a m rv d hs ps μ Q) (hb : p -> pz E gl b m rv d hs ps μ Q) : pz E gl (.br x a b) m rv d hs ps μ Q :=
 ⟨!decide p, h, fun e => ha (of_decide_eq_false (by simpa using e)), fun e => hb (of_decide_eq_true (by simpa using e))⟩
theorem ax {sz n i : Nat} {l : List P} (h : denF ps xs = some [.sl sz n l, .c (.int .i64 i)]) (hi : i < n) (hk : pz E gl k m rv d hs (ps ++ [.ip l (i * sz)]) μ Q) : pz E gl (.op (.idxA sz) xs k) m rv d hs ps μ Q := by
 have e : aS (.idxA sz) [.sl sz n l, .c (.int .i64 (i : Int))] = some (.ip l (i * sz)) := (IW (sz := sz) (n := n) (i := (i : Int)) (l := l) (by omega) (by omega)).trans (by rw [Int.toNat_natCast])
 exact ⟨_, .ip l (i * sz), h, e, hk⟩
theorem mV {sz n i : Nat} {l : List P} (h : denF ps xs = some [.fx sz n l, .c (.int .i64 i)]) (hi : i < n) (hk : pz E gl k m rv d hs (ps ++ [.ip l (i * sz)]) μ Q) : pz E gl (.op (.idxA sz) xs k) m rv d hs ps μ Q := by
 have e : aS (.idxA sz) [.fx sz n l, .c (.int .i64 (i : Int))] = some (.ip l (i * sz)) := (IX (sz := sz) (n := n) (i := (i : Int)) (l := l) (by omega) (by omega)).trans (by rw [Int.toNat_natCast])
 exact ⟨_, .ip l (i * sz), h, e, hk⟩
theorem bG {off : Nat} {l : List P} {p : P} (h : denF ps xs = some [.ip l off]) (hl : l[off]? = some p) (hk : pz E gl k m rv d hs (ps ++ [p]) μ Q) : pz E gl (.op (.load none) xs k) m rv d hs ps μ Q :=
 .inl ⟨_, p, h, IY hl, hk⟩
theorem gg {n off : Nat} {l : List P} (h : denF ps xs = some [.ip l off]) (hle : off + n <= l.length) (hk : pz E gl k m rv d hs (ps ++ [.agg ((l.drop off).take n)]) μ Q) : pz E gl (.op (.load (some n)) xs k) m rv d hs ps μ Q :=
 .inl ⟨_, _, h, I0 hle, hk⟩
theorem mW {sz n i : Nat} {l : List P} (h : denF ps xs = some [.sl sz n l, .c (.int .i64 i)]) (hi : i <= n) (hk : pz E gl k m rv d hs (ps ++ [.sl sz (n - i) ((l.drop (i * sz)).take ((n - i) * sz))]) μ Q) : pz E gl (.op (.subL sz true false false) xs k) m rv d hs ps μ Q := by
 have e : aS (.subL sz true false false) [.sl sz n l, .c (.int .i64 (i : Int))] = some (.sl sz (n - i) ((l.drop (i * sz)).take ((n - i) * sz))) := by
  unfold aS
  have : bd (.subL sz true false false) [.sl sz n l, .c (.int .i64 (i : Int))] = none := rfl
  rw [this]
  simp only [fD, if_true, List.head?_cons, List.tail_cons, Bool.false_eq_true, if_false, fC, bound]
  rw [if_pos (by omega)]
  simp
 exact ⟨_, _, h, e, hk⟩
theorem w6 {s : ByteArray} {l h : Nat} (h1 : l <= h) (h2 : h <= s.size) : aS (.subS true true) [.c (.string s), .c (.int .i64 l), .c (.int .i64 h)] = some (.c (.string (s.extract l h))) := by
 have e1 : aJ (some (.int .i64 (h : Int))) s.size s.size = some h := by
  show bound (.int .i64 (h : Int)) s.size = _
  unfold bound
  simp only
  rw [if_pos (by omega)]
  simp
 have e2 : aJ (some (.int .i64 (l : Int))) h 0 = some l := by
  show bound (.int .i64 (l : Int)) h = _
  unfold bound
  simp only
  rw [if_pos (by omega)]
  simp
 have e3 : aB (.subS true true) [.string s, .int .i64 (l : Int), .int .i64 (h : Int)] st0 = some (.string (s.extract l h), st0) := by
  show (match aJ (some (.int .i64 (h : Int))) s.size s.size with
   | some h => match aJ (some (.int .i64 (l : Int))) h 0 with
    | some l => some (Value.string (s.extract l h), st0)
    | none => none
   | none => none) = _
  rw [e1]
  simp only
  rw [e2]
 have e4 : bd (.subS true true) [.c (.string s), .c (.int .i64 l), .c (.int .i64 h)] = some (.c (.string (s.extract l h))) := by
  show (match aB (.subS true true) [.string s, .int .i64 (l : Int), .int .i64 (h : Int)] st0 with
   | some (v, _) => some (P.c v)
   | none => none) = _
  rw [e3]
 unfold aS
 rw [e4]
theorem w7 {s : ByteArray} {h : Nat} (h2 : h <= s.size) : aS (.subS false true) [.c (.string s), .c (.int .i64 h)] = some (.c (.string (s.extract 0 h))) := by
 have e1 : aJ (some (.int .i64 (h : Int))) s.size s.size = some h := by
  show bound (.int .i64 (h : Int)) s.size = _
  unfold bound
  simp only
  rw [if_pos (by omega)]
  simp
 have e3 : aB (.subS false true) [.string s, .int .i64 (h : Int)] st0 = some (.string (s.extract 0 h), st0) := by
  show (match aJ (some (.int .i64 (h : Int))) s.size s.size with
   | some h => match aJ none h 0 with
    | some l => some (Value.string (s.extract l h), st0)
    | none => none
   | none => none) = _
  rw [e1]
  rfl
 have e4 : bd (.subS false true) [.c (.string s), .c (.int .i64 h)] = some (.c (.string (s.extract 0 h))) := by
  show (match aB (.subS false true) [.string s, .int .i64 (h : Int)] st0 with
   | some (v, _) => some (P.c v)
   | none => none) = _
  rw [e3]
 unfold aS
 rw [e4]
theorem w8 {s : ByteArray} {l : Nat} (h2 : l <= s.size) : aS (.subS true false) [.c (.string s), .c (.int .i64 l)] = some (.c (.string (s.extract l s.size))) := by
 have e1 : aJ (some (.int .i64 (l : Int))) s.size 0 = some l := by
  show bound (.int .i64 (l : Int)) s.size = _
  unfold bound
  simp only
  rw [if_pos (by omega)]
  simp
 have e3 : aB (.subS true false) [.string s, .int .i64 (l : Int)] st0 = some (.string (s.extract l s.size), st0) := by
  show (match aJ (some (.int .i64 (l : Int))) s.size 0 with
    | some l => some (Value.string (s.extract l s.size), st0)
    | none => none) = _
  rw [e1]
 have e4 : bd (.subS true false) [.c (.string s), .c (.int .i64 l)] = some (.c (.string (s.extract l s.size))) := by
  show (match aB (.subS true false) [.string s, .int .i64 (l : Int)] st0 with
   | some (v, _) => some (P.c v)
   | none => none) = _
  rw [e3]
 unfold aS
 rw [e4]
theorem w9 {s : ByteArray} {l h : Nat} (hd : denF ps xs = some [.c (.string s), .c (.int .i64 l), .c (.int .i64 h)]) (h1 : l <= h) (h2 : h <= s.size) (hk : pz E gl k m rv d hs (ps ++ [.c (.string (s.extract l h))]) μ Q) : pz E gl (.op (.subS true true) xs k) m rv d hs ps μ Q := ⟨_, _, hd, w6 h1 h2, hk⟩
theorem wa {s : ByteArray} {h : Nat} (hd : denF ps xs = some [.c (.string s), .c (.int .i64 h)]) (h2 : h <= s.size) (hk : pz E gl k m rv d hs (ps ++ [.c (.string (s.extract 0 h))]) μ Q) : pz E gl (.op (.subS false true) xs k) m rv d hs ps μ Q := ⟨_, _, hd, w7 h2, hk⟩
theorem qK {s : ByteArray} {l : Nat} (hd : denF ps xs = some [.c (.string s), .c (.int .i64 l)]) (h2 : l <= s.size) (hk : pz E gl k m rv d hs (ps ++ [.c (.string (s.extract l s.size))]) μ Q) : pz E gl (.op (.subS true false) xs k) m rv d hs ps μ Q := ⟨_, _, hd, w8 h2, hk⟩
theorem wb {sz n j : Nat} {l : List P} (h : denF ps xs = some [.sl sz n l, .c (.int .i64 j)]) (hj : j <= n) (hk : pz E gl k m rv d hs (ps ++ [.sl sz j (l.take (j * sz))]) μ Q) : pz E gl (.op (.subL sz false true false) xs k) m rv d hs ps μ Q := by
 refine ⟨_, .sl sz j (l.take (j * sz)), h, ?_, hk⟩
 unfold aS
 have : bd (.subL sz false true false) [.sl sz n l, .c (.int .i64 j)] = none := rfl
 rw [this]
 simp only [fD, if_true, List.head?_cons, fC, bound, Bool.false_eq_true, if_false]
 rw [if_pos (by omega)]
 simp
theorem wc {body : N} {as vs : List P} (n : Nat) (h : aj ps xs = some (as, ps')) (hl : LeL as vs)
  (hq : aY (fun vs μ' Q' => pz E gl body μ.length none false hs (ps'.map fz ++ vs) μ' Q') (fun o outs μ' => pz E gl k m none false hs (ps'.map fz ++ .c (goInt o) :: outs) μ' Q) n vs μ) : pz E gl (.loop xs body k) m rv d hs ps μ Q := ⟨as, ps', n, vs, h, hl, hq⟩
theorem we {W : List P -> Mu -> aU -> Prop} {Q : aU} {n : Nat} {vs : List P} (h : W vs μ fun o outs μ' => match o with
  | 0 => aY W Q n outs μ'
  | o + 1 => Q (o + 1) outs μ') : aY W Q (n + 1) vs μ := h
theorem wg (x : Nat) (l m : List Nat) : (x :: l) ++ m = x :: (l ++ m) := rfl
theorem wh (m : List Nat) : [] ++ m = m := rfl
theorem wi {x y : Int} (h : denF ps xs = some [.c (.int .i64 x), .c (.int .i64 y)]) (h0 : 0 <= x) (h1 : 0 < y) (h2 : x <= 9223372036854775807) (hk : pz E gl k m rv d hs (ps ++ [.c (.int .i64 (x / y))]) μ Q) : pz E gl (.op (.bin .quo) xs k) m rv d hs ps μ Q := by
 refine ⟨_, .c (.int .i64 (x / y)), h, ?_, hk⟩
 have e : aS (.bin .quo) [.c (.int .i64 x), .c (.int .i64 y)] = (if y = 0 then none else some (.c (.int .i64 (IntKind.wrap .i64 (x.tdiv y))))) := by
  by_cases hy : y = 0
  ·subst hy; rfl
  ·unfold aS bd
   simp only [jP, unc, aB, fy, cQ, if_true, jX, Bool.false_eq_true, if_false, lJ, hy]
 rw [e, if_neg (by omega), Int.tdiv_eq_ediv_of_nonneg h0, nS, ki]
 ·have := Int.ediv_nonneg h0 (by omega : 0 <= y); omega
 ·have := Int.ediv_le_self y h0; omega
def adm (T : N) (rv : Rv) (d : Bool) (hs : List Nat) (ps : List P) : Option (N × Rv × Bool × List Nat × List P) := match T with
 | .bump n k => some (k, some (ps.length, n, []), false, hs, ps ++ [.any])
 | .save k => some (k, rv, d, hs ++ [ps.length], ps)
 | .self x k => match denF ps [x] with
  | some [p] => if shal 40 p then some (k, rv, d, hs, ps) else none
  | _ => none
 | .chk i r xs x k => match denF ps [x] with
  | some [p] => if shal 40 p then (if eD r then some (k, rv, d, hs, ps) else match denF ps xs with
   | some as => if dZ r as then (match x, hs[i]? with
    | .at (.n j), some nv => if Nat.ble nv j then some (k, rv, d, hs, ps) else none
    | _, _ => none) else some (k, rv, d, hs, ps)
   | none => none) else none
  | _ => none
 | .sw x c a b => match oO (ps.getD x .any) with
  | some n => if Nat.beq n c then some (a, rv, d, hs, ps) else some (b, rv, d, hs, ps)
  | none => none
 | _ => none
theorem qL {T T' : N} {rv' : Rv} {d' : Bool} {hs' : List Nat} (h : adm T rv d hs ps = some (T', rv', d', hs', ps')) (hk : pz E gl T' m rv' d' hs' ps' μ Q) : pz E gl T m rv d hs ps μ Q := by
 unfold adm at h
 split at h
 ·cases h; exact hk
 ·cases h; exact hk
 ·split at h
  ·rename_i p hp
   split at h
   ·rename_i hs0; cases h; exact ⟨⟨p, hp, hs0⟩, hk⟩
   ·cases h
  ·cases h
 ·split at h
  ·rename_i p hp
   split at h
   ·rename_i hs0
    split at h
    ·rename_i hm; cases h; exact ⟨⟨⟨p, hp, hs0⟩, .inl hm⟩, hk⟩
    ·split at h
     ·rename_i as ha
      split at h
      ·split at h
       ·rename_i j nv hv
        split at h
        ·rename_i hb; cases h; exact ⟨⟨⟨p, hp, hs0⟩, .inr (.inr ⟨nv, j, hv, rfl, Nat.le_of_ble_eq_true hb⟩)⟩, hk⟩
        ·cases h
       ·cases h
      ·rename_i hl
       cases h
       exact ⟨⟨⟨p, hp, hs0⟩, .inr (.inl ⟨as, ha, by simpa using hl⟩)⟩, hk⟩
     ·cases h
   ·cases h
  ·cases h
 ·split at h
  ·rename_i n hn
   split at h
   ·rename_i hb
    cases h
    have := Nat.eq_of_beq_eq_true hb
    subst this
    exact ⟨n, hn, fun _ => hk, fun e => absurd rfl e⟩
   ·rename_i hb
    cases h
    exact ⟨n, hn, fun e => (by subst e; exact absurd (Nat.beq_refl n) hb), fun _ => hk⟩
  ·cases h
 ·cases h
theorem wj {r : SX.R} {as : List P} {p : P} (h : denF ps xs = some as) (hp : tw r as = some p) (hk : pz E gl k m rv d hs (ps ++ [p]) μ Q) : pz E gl (.op r xs k) m rv d hs ps μ Q := by
 have hq := wW hp
 cases r <;> first
  | (cases hp; done)
  | exact ⟨as, p, h, hq, hk⟩
end
attribute [go_sem] IH II wg wh IJ IK IF IG bI gd0 gds H5 H6 H7 H8 H9 Ha Hb Hc Hd He Hf Hg Hh Hi Hj Hk Hl Hm Hn Ho Hp Hq Hr Ht Hu Hv Hw Hx Hy Hz IA IB List.length_cons List.length_nil Nat.zero_add Nat.add_zero nM IC ID IE nK nL c8 ite_true ite_false if_true List.drop_zero List.take_succ_cons List.take_zero List.take_nil
end Go.AM.PV
namespace Go.AM.PV
open Go Go.AM Go.AM.SX
attribute [local irreducible] pz
structure Reach (E : Env) (gl : List GRow) (m : Nat) (Q : aU) (T : N) (rv : Rv) (d : Bool) (hs : List Nat) (ps : List P) (μ : Mu) (T' : N) (rv' : Rv) (d' : Bool) (hs' : List Nat) (ps' : List P) (μ' : Mu) : Prop where
 go : pz E gl T' m rv' d' hs' ps' μ' Q -> pz E gl T m rv d hs ps μ Q
section
variable {E : Env} {gl : List GRow} {k a b T T' T1 : N} {m : Nat} {rv rv' rv1 : Rv} {d d' d1 : Bool} {hs hs' hs1 : List Nat} {ps ps' ps1 : List P} {μ μ' μ1 : Mu} {Q : aU} {xs : List X}
theorem wm : Reach E gl m Q T rv d hs ps μ T rv d hs ps μ := ⟨id⟩
theorem qM {r : SX.R} (h : stz r xs ps μ = some (ps1, μ1)) (hk : Reach E gl m Q k rv d hs ps1 μ1 T' rv' d' hs' ps' μ') : Reach E gl m Q (.op r xs k) rv d hs ps μ T' rv' d' hs' ps' μ' := ⟨fun z => mU h (hk.go z)⟩
theorem qN (h : adm T rv d hs ps = some (T1, rv1, d1, hs1, ps1)) (hk : Reach E gl m Q T1 rv1 d1 hs1 ps1 μ T' rv' d' hs' ps' μ') : Reach E gl m Q T rv d hs ps μ T' rv' d' hs' ps' μ' := ⟨fun z => qL h (hk.go z)⟩
theorem qO {x y : Int} (h : denF ps xs = some [.c (.int .i64 x), .c (.int .i64 y)]) (h1 : -9223372036854775808 <= x + y /\ x + y <= 9223372036854775807) (hk : Reach E gl m Q k rv d hs (ps ++ [.c (.int .i64 (x + y))]) μ T' rv' d' hs' ps' μ') : Reach E gl m Q (.op (.bin .add) xs k) rv d hs ps μ T' rv' d' hs' ps' μ' := ⟨fun z => qH h h1.1 h1.2 (hk.go z)⟩
theorem qP {x y : Int} (h : denF ps xs = some [.c (.int .i64 x), .c (.int .i64 y)]) (h1 : -9223372036854775808 <= x - y /\ x - y <= 9223372036854775807) (hk : Reach E gl m Q k rv d hs (ps ++ [.c (.int .i64 (x - y))]) μ T' rv' d' hs' ps' μ') : Reach E gl m Q (.op (.bin .sub) xs k) rv d hs ps μ T' rv' d' hs' ps' μ' := ⟨fun z => qI h h1.1 h1.2 (hk.go z)⟩
theorem qQ {kd : IntKind} {x : Int} (h : denF ps xs = some [.c (.int kd x)]) (h1 : -9223372036854775808 <= x /\ x <= 9223372036854775807) (hk : Reach E gl m Q k rv d hs (ps ++ [.c (.int .i64 x)]) μ T' rv' d' hs' ps' μ') : Reach E gl m Q (.op (.conv .i64) xs k) rv d hs ps μ T' rv' d' hs' ps' μ' := ⟨fun z => qJ h h1.1 h1.2 (hk.go z)⟩
theorem qR {sz n i : Nat} {l : List P} (h : denF ps xs = some [.sl sz n l, .c (.int .i64 i)]) (hi : i < n) (hk : Reach E gl m Q k rv d hs (ps ++ [.ip l (i * sz)]) μ T' rv' d' hs' ps' μ') : Reach E gl m Q (.op (.idxA sz) xs k) rv d hs ps μ T' rv' d' hs' ps' μ' := ⟨fun z => ax h hi (hk.go z)⟩
theorem qS {sz n i : Nat} {l : List P} (h : denF ps xs = some [.fx sz n l, .c (.int .i64 i)]) (hi : i < n) (hk : Reach E gl m Q k rv d hs (ps ++ [.ip l (i * sz)]) μ T' rv' d' hs' ps' μ') : Reach E gl m Q (.op (.idxA sz) xs k) rv d hs ps μ T' rv' d' hs' ps' μ' := ⟨fun z => mV h hi (hk.go z)⟩
theorem qT {off : Nat} {l : List P} {p : P} (h : denF ps xs = some [.ip l off]) (hl : l[off]? = some p) (hk : Reach E gl m Q k rv d hs (ps ++ [p]) μ T' rv' d' hs' ps' μ') : Reach E gl m Q (.op (.load none) xs k) rv d hs ps μ T' rv' d' hs' ps' μ' := ⟨fun z => bG h hl (hk.go z)⟩
theorem qU {n : Option Nat} {i off : Nat} {p : P} (h : denF ps xs = some [.lp i off]) (hp : cM μ n i off = some p) (hd : (!d || bM k) = true) (hk : Reach E gl m Q k rv d hs (ps ++ [fz p]) μ T' rv' d' hs' ps' μ') : Reach E gl m Q (.op (.load n) xs k) rv d hs ps μ T' rv' d' hs' ps' μ' := ⟨fun z => wX h hp (by cases d with
 | false => exact .inl rfl
 | true => exact .inr hd) (hk.go z)⟩
theorem qV {n i off : Nat} {l : List P} {p : P} (h : aj ps xs = some ([.lp i off, p], ps1)) (hi : μ[i]? = some (.cells l)) (hc : (Nat.beq (aW p).length n && (aW p).all cL && Nat.ble (off + n) l.length) = true) (hk : Reach E gl m Q k rv true hs (ps1 ++ [.c undef]) (μ.set i (.cells (c8 l off (aW p)))) T' rv' d' hs' ps' μ') : Reach E gl m Q (.op (.store n) xs k) rv d hs ps μ T' rv' d' hs' ps' μ' := ⟨fun z => by
 simp only [Bool.and_eq_true] at hc
 exact kJ h hi (Nat.eq_of_beq_eq_true hc.1.1) hc.1.2 (Nat.le_of_ble_eq_true hc.2) (hk.go z)⟩
theorem qW {p : Prop} {dp : Decidable p} {x : X} (h : denF ps [x] = some [.c (.bool (@decide p dp))]) (hp : p) (hk : Reach E gl m Q a rv d hs ps μ T' rv' d' hs' ps' μ') : Reach E gl m Q (.br x a b) rv d hs ps μ T' rv' d' hs' ps' μ' := ⟨fun z => bF h (fun _ => hk.go z) (fun e => absurd hp e)⟩
theorem qX {p : Prop} {dp : Decidable p} {x : X} (h : denF ps [x] = some [.c (.bool (@decide p dp))]) (hp : ¬ p) (hk : Reach E gl m Q b rv d hs ps μ T' rv' d' hs' ps' μ') : Reach E gl m Q (.br x a b) rv d hs ps μ T' rv' d' hs' ps' μ' := ⟨fun z => bF h (fun e => absurd e hp) (fun _ => hk.go z)⟩
theorem qY {p : Prop} {dp : Decidable p} {x : X} (h : denF ps [x] = some [.c (.bool !@decide p dp)]) (hp : ¬ p) (hk : Reach E gl m Q a rv d hs ps μ T' rv' d' hs' ps' μ') : Reach E gl m Q (.br x a b) rv d hs ps μ T' rv' d' hs' ps' μ' := ⟨fun z => bS h (fun _ => hk.go z) (fun e => absurd e hp)⟩
theorem qZ {p : Prop} {dp : Decidable p} {x : X} (h : denF ps [x] = some [.c (.bool !@decide p dp)]) (hp : p) (hk : Reach E gl m Q b rv d hs ps μ T' rv' d' hs' ps' μ') : Reach E gl m Q (.br x a b) rv d hs ps μ T' rv' d' hs' ps' μ' := ⟨fun z => bS h (fun e => absurd hp e) (fun _ => hk.go z)⟩
theorem q7 {x : X} (h : denF ps [x] = some [.c (.bool true)]) (hk : Reach E gl m Q a rv d hs ps μ T' rv' d' hs' ps' μ') : Reach E gl m Q (.br x a b) rv d hs ps μ T' rv' d' hs' ps' μ' := ⟨fun z => gW h (hk.go z)⟩
theorem q8 {x : X} (h : denF ps [x] = some [.c (.bool false)]) (hk : Reach E gl m Q b rv d hs ps μ T' rv' d' hs' ps' μ') : Reach E gl m Q (.br x a b) rv d hs ps μ T' rv' d' hs' ps' μ' := ⟨fun z => gX h (hk.go z)⟩
theorem q9 {x : X} {t : Bool} (h : denF ps [x] = some [.c (.bool t)]) (ht : t = true) (hk : Reach E gl m Q a rv d hs ps μ T' rv' d' hs' ps' μ') : Reach E gl m Q (.br x a b) rv d hs ps μ T' rv' d' hs' ps' μ' := ⟨fun z => gW (ht ▸ h) (hk.go z)⟩
theorem qd {x : X} {t : Bool} (h : denF ps [x] = some [.c (.bool t)]) (ht : t = false) (hk : Reach E gl m Q b rv d hs ps μ T' rv' d' hs' ps' μ') : Reach E gl m Q (.br x a b) rv d hs ps μ T' rv' d' hs' ps' μ' := ⟨fun z => gX (ht ▸ h) (hk.go z)⟩
theorem qe {p : Prop} {dp : Decidable p} {x : X} (_ : denF ps [x] = some [.c (.bool (@decide p dp))]) (hk : Reach E gl m Q a rv d hs ps μ T' rv' d' hs' ps' μ') (hb : Reach E gl m Q b rv d hs ps μ T' rv' d' hs' ps' μ') : Reach E gl m Q (.br x a b) rv d hs ps μ T' rv' d' hs' ps' μ' := ⟨fun z => by
 rename_i h
 exact bF h (fun _ => hk.go z) (fun _ => hb.go z)⟩
theorem qf {p : Prop} {dp : Decidable p} {x : X} (_ : denF ps [x] = some [.c (.bool !@decide p dp)]) (hk : Reach E gl m Q a rv d hs ps μ T' rv' d' hs' ps' μ') (hb : Reach E gl m Q b rv d hs ps μ T' rv' d' hs' ps' μ') : Reach E gl m Q (.br x a b) rv d hs ps μ T' rv' d' hs' ps' μ' := ⟨fun z => by
 rename_i h
 exact bS h (fun _ => hk.go z) (fun _ => hb.go z)⟩
theorem qg {f : FuncId} {ys : List P} {r : P} (h : denF ps xs = some ys) (hp : PR E gl f ys μ r μ1) (hl : Nat.ble μ.length μ1.length = true) (hk : Reach E gl m Q k rv true hs (ps ++ [r]) μ1 T' rv' d' hs' ps' μ') : Reach E gl m Q (.call f xs k) rv d hs ps μ T' rv' d' hs' ps' μ' := ⟨fun z => aI h hp (Nat.le_of_ble_eq_true hl) (hk.go z)⟩
theorem qh {f : FuncId} {ys : List P} {r : P} (h : denF ps xs = some ys) (hp : PR E gl f ys [] r []) (ho : okm.okL 0 ys = true) (hk : Reach E gl m Q k rv true hs (ps ++ [r]) μ T' rv' d' hs' ps' μ') : Reach E gl m Q (.call f xs k) rv d hs ps μ T' rv' d' hs' ps' μ' := ⟨fun z => aI h (hp.frame ho μ) (Nat.le_refl _) (hk.go z)⟩
theorem qi {r : SX.R} {ys : List P} {p : P} (h : denF ps xs = some ys) (hp : tw r ys = some p) (hk : Reach E gl m Q k rv d hs (ps ++ [p]) μ T' rv' d' hs' ps' μ') : Reach E gl m Q (.op r xs k) rv d hs ps μ T' rv' d' hs' ps' μ' := ⟨fun z => wj h hp (hk.go z)⟩
theorem aA (hk : pz E gl T' m rv' d' hs' ps' μ' Q) (h : Reach E gl m Q T rv d hs ps μ T' rv' d' hs' ps' μ' := by
  (first
   | (apply qM; rfl; (try dsimp only [go_sem]))
   | (apply qN; rfl; (try dsimp only [go_sem]))
   | (apply qO; rfl; omega; (try dsimp only [go_sem]))
   | (apply qP; rfl; omega; (try dsimp only [go_sem]))
   | (apply qQ; rfl; omega; (try dsimp only [go_sem]))
   | (apply qR; rfl; omega; (try dsimp only [go_sem]))
   | (apply qS; rfl; omega; (try dsimp only [go_sem]))
   | (apply qT; rfl; assumption; (try dsimp only [go_sem]))
   | (apply qU; rfl; rfl; rfl; (try dsimp only [go_sem]))
   | (apply qV; rfl; rfl; rfl; (try dsimp only [go_sem]))
   | (apply qW; rfl; omega)
   | (apply qX; rfl; omega)
   | (apply qY; rfl; omega)
   | (apply qZ; rfl; omega)
   | (apply q9; rfl; assumption)
   | (apply qd; rfl; assumption)
   | (apply qg; rfl; apply_assumption; rfl; (try dsimp only [go_sem]))
   | (apply qh; rfl; apply_assumption; rfl; (try dsimp only [go_sem]))
   | ((fail_if_success (apply qe; rfl)); (fail_if_success (apply qf; rfl)); (first | (apply q7; rfl) | (apply q8; rfl)))
   | (apply qi; rfl; rfl; (try dsimp only [go_sem])))
  (repeat (first
   | (apply qM; rfl; (try dsimp only [go_sem]))
   | (apply qN; rfl; (try dsimp only [go_sem]))
   | (apply qO; rfl; omega; (try dsimp only [go_sem]))
   | (apply qP; rfl; omega; (try dsimp only [go_sem]))
   | (apply qQ; rfl; omega; (try dsimp only [go_sem]))
   | (apply qR; rfl; omega; (try dsimp only [go_sem]))
   | (apply qS; rfl; omega; (try dsimp only [go_sem]))
   | (apply qT; rfl; assumption; (try dsimp only [go_sem]))
   | (apply qU; rfl; rfl; rfl; (try dsimp only [go_sem]))
   | (apply qV; rfl; rfl; rfl; (try dsimp only [go_sem]))
   | (apply qW; rfl; omega)
   | (apply qX; rfl; omega)
   | (apply qY; rfl; omega)
   | (apply qZ; rfl; omega)
   | (apply q9; rfl; assumption)
   | (apply qd; rfl; assumption)
   | (apply qg; rfl; apply_assumption; rfl; (try dsimp only [go_sem]))
   | (apply qh; rfl; apply_assumption; rfl; (try dsimp only [go_sem]))
   | ((fail_if_success (apply qe; rfl)); (fail_if_success (apply qf; rfl)); (first | (apply q7; rfl) | (apply q8; rfl)))
   | (apply qi; rfl; rfl; (try dsimp only [go_sem]))))
  exact wm) : pz E gl T m rv d hs ps μ Q := h.go hk
end
end Go.AM.PV
namespace Go.AM.PV
open Go Go.AM Go.AM.SX
attribute [local irreducible] pz aY
structure To (A B : Prop) : Prop where
 go : B -> A
section
variable {E : Env} {gl : List GRow} {k a b T T1 : N} {m : Nat} {rv rv1 : Rv} {d d1 : Bool} {hs hs1 : List Nat} {ps ps' ps1 : List P} {μ μ1 : Mu} {Q : aU} {xs : List X} {B : Prop}
theorem wo {A : Prop} : To A A := ⟨id⟩
theorem qj {r : SX.R} (h : stz r xs ps μ = some (ps1, μ1)) (hk : To (pz E gl k m rv d hs ps1 μ1 Q) B) : To (pz E gl (.op r xs k) m rv d hs ps μ Q) B := ⟨fun z => mU h (hk.go z)⟩
theorem qk (h : adm T rv d hs ps = some (T1, rv1, d1, hs1, ps1)) (hk : To (pz E gl T1 m rv1 d1 hs1 ps1 μ Q) B) : To (pz E gl T m rv d hs ps μ Q) B := ⟨fun z => qL h (hk.go z)⟩
theorem ql {x y : Int} (h : denF ps xs = some [.c (.int .i64 x), .c (.int .i64 y)]) (h1 : -9223372036854775808 <= x + y /\ x + y <= 9223372036854775807) (hk : To (pz E gl k m rv d hs (ps ++ [.c (.int .i64 (x + y))]) μ Q) B) : To (pz E gl (.op (.bin .add) xs k) m rv d hs ps μ Q) B := ⟨fun z => qH h h1.1 h1.2 (hk.go z)⟩
theorem qm {x y : Int} (h : denF ps xs = some [.c (.int .i64 x), .c (.int .i64 y)]) (h1 : -9223372036854775808 <= x - y /\ x - y <= 9223372036854775807) (hk : To (pz E gl k m rv d hs (ps ++ [.c (.int .i64 (x - y))]) μ Q) B) : To (pz E gl (.op (.bin .sub) xs k) m rv d hs ps μ Q) B := ⟨fun z => qI h h1.1 h1.2 (hk.go z)⟩
theorem qn {kd : IntKind} {x : Int} (h : denF ps xs = some [.c (.int kd x)]) (h1 : -9223372036854775808 <= x /\ x <= 9223372036854775807) (hk : To (pz E gl k m rv d hs (ps ++ [.c (.int .i64 x)]) μ Q) B) : To (pz E gl (.op (.conv .i64) xs k) m rv d hs ps μ Q) B := ⟨fun z => qJ h h1.1 h1.2 (hk.go z)⟩
theorem qo {p : Prop} {dp : Decidable p} {x : X} (h : denF ps [x] = some [.c (.bool (@decide p dp))]) (hp : p) (hk : To (pz E gl a m rv d hs ps μ Q) B) : To (pz E gl (.br x a b) m rv d hs ps μ Q) B := ⟨fun z => bF h (fun _ => hk.go z) (fun e => absurd hp e)⟩
theorem qp {p : Prop} {dp : Decidable p} {x : X} (h : denF ps [x] = some [.c (.bool (@decide p dp))]) (hp : ¬ p) (hk : To (pz E gl b m rv d hs ps μ Q) B) : To (pz E gl (.br x a b) m rv d hs ps μ Q) B := ⟨fun z => bF h (fun e => absurd e hp) (fun _ => hk.go z)⟩
theorem qq {p : Prop} {dp : Decidable p} {x : X} (h : denF ps [x] = some [.c (.bool !@decide p dp)]) (hp : ¬ p) (hk : To (pz E gl a m rv d hs ps μ Q) B) : To (pz E gl (.br x a b) m rv d hs ps μ Q) B := ⟨fun z => bS h (fun _ => hk.go z) (fun e => absurd e hp)⟩
theorem qt {p : Prop} {dp : Decidable p} {x : X} (h : denF ps [x] = some [.c (.bool !@decide p dp)]) (hp : p) (hk : To (pz E gl b m rv d hs ps μ Q) B) : To (pz E gl (.br x a b) m rv d hs ps μ Q) B := ⟨fun z => bS h (fun e => absurd hp e) (fun _ => hk.go z)⟩
theorem qu {x : X} (h : denF ps [x] = some [.c (.bool true)]) (hk : To (pz E gl a m rv d hs ps μ Q) B) : To (pz E gl (.br x a b) m rv d hs ps μ Q) B := ⟨fun z => gW h (hk.go z)⟩
theorem qv {x : X} (h : denF ps [x] = some [.c (.bool false)]) (hk : To (pz E gl b m rv d hs ps μ Q) B) : To (pz E gl (.br x a b) m rv d hs ps μ Q) B := ⟨fun z => gX h (hk.go z)⟩
theorem qw {p : Prop} {dp : Decidable p} {x : X} (_ : denF ps [x] = some [.c (.bool (@decide p dp))]) (hk : To (pz E gl a m rv d hs ps μ Q) B) (hb : To (pz E gl b m rv d hs ps μ Q) B) : To (pz E gl (.br x a b) m rv d hs ps μ Q) B := ⟨fun z => by
 rename_i h
 exact bF h (fun _ => hk.go z) (fun _ => hb.go z)⟩
theorem qx {p : Prop} {dp : Decidable p} {x : X} (_ : denF ps [x] = some [.c (.bool !@decide p dp)]) (hk : To (pz E gl a m rv d hs ps μ Q) B) (hb : To (pz E gl b m rv d hs ps μ Q) B) : To (pz E gl (.br x a b) m rv d hs ps μ Q) B := ⟨fun z => by
 rename_i h
 exact bS h (fun _ => hk.go z) (fun _ => hb.go z)⟩
theorem qy {f : FuncId} {ys : List P} {r : P} (h : denF ps xs = some ys) (hp : PR E gl f ys μ r μ1) (hl : Nat.ble μ.length μ1.length = true) (hk : To (pz E gl k m rv true hs (ps ++ [r]) μ1 Q) B) : To (pz E gl (.call f xs k) m rv d hs ps μ Q) B := ⟨fun z => aI h hp (Nat.le_of_ble_eq_true hl) (hk.go z)⟩
theorem qz {x y : Int} (h : denF ps xs = some [.c (.int .i64 x), .c (.int .i64 y)]) (h0 : 0 <= x) (h1 : 0 < y) (h2 : x <= 9223372036854775807) (hk : To (pz E gl k m rv d hs (ps ++ [.c (.int .i64 (x / y))]) μ Q) B) : To (pz E gl (.op (.bin .quo) xs k) m rv d hs ps μ Q) B := ⟨fun z => wi h h0 h1 h2 (hk.go z)⟩
theorem rA {body : N} {ys : List P} (h : aj ps xs = some (ys, ps'))
  (hq : To (aY (fun vs μ' Q' => pz E gl body μ.length none false hs (ps'.map fz ++ vs) μ' Q') (fun o outs μ' => pz E gl k m none false hs (ps'.map fz ++ .c (goInt o) :: outs) μ' Q) 12 ys μ) B) : To (pz E gl (.loop xs body k) m rv d hs ps μ Q) B := ⟨fun z => wc 12 h (LeL.refl _) (hq.go z)⟩
theorem rB {W : List P -> Mu -> aU -> Prop} {n : Nat} {vs : List P} (h : To (W vs μ fun o outs μ' => match o with
  | 0 => aY W Q n outs μ'
  | o + 1 => Q (o + 1) outs μ') B) : To (aY W Q (n + 1) vs μ) B := ⟨fun z => we (h.go z)⟩
theorem rC {o : Nat} {ys : List P} (h : aj ps xs = some (ys, ps')) (hq : To (Q o ys μ) B) : To (pz E gl (.fin o xs) m rv d hs ps μ Q) B := ⟨fun z => aF h (hq.go z)⟩
theorem af {A : Prop} (hk : B) (h : To A B := by
  (first
   | (apply qj; rfl; (try dsimp only [go_sem, List.size_toArray, Int.reduceAdd, Int.reduceSub, Int.reduceNeg, Int.reduceDiv, Nat.reduceAdd, Nat.reduceMul, Int.cast_ofNat_Int, UInt8.reduceToNat]))
   | (apply qk; rfl; (try dsimp only [go_sem, List.size_toArray, Int.reduceAdd, Int.reduceSub, Int.reduceNeg, Int.reduceDiv, Nat.reduceAdd, Nat.reduceMul, Int.cast_ofNat_Int, UInt8.reduceToNat]))
   | (apply ql; rfl; omega; (try dsimp only [go_sem, List.size_toArray, Int.reduceAdd, Int.reduceSub, Int.reduceNeg, Int.reduceDiv, Nat.reduceAdd, Nat.reduceMul, Int.cast_ofNat_Int, UInt8.reduceToNat]))
   | (apply qm; rfl; omega; (try dsimp only [go_sem, List.size_toArray, Int.reduceAdd, Int.reduceSub, Int.reduceNeg, Int.reduceDiv, Nat.reduceAdd, Nat.reduceMul, Int.cast_ofNat_Int, UInt8.reduceToNat]))
   | (apply qn; rfl; omega; (try dsimp only [go_sem, List.size_toArray, Int.reduceAdd, Int.reduceSub, Int.reduceNeg, Int.reduceDiv, Nat.reduceAdd, Nat.reduceMul, Int.cast_ofNat_Int, UInt8.reduceToNat]))
   | (apply qz; rfl; omega; omega; omega; (try dsimp only [go_sem, List.size_toArray, Int.reduceAdd, Int.reduceSub, Int.reduceNeg, Int.reduceDiv, Nat.reduceAdd, Nat.reduceMul, Int.cast_ofNat_Int, UInt8.reduceToNat]))
   | (apply qo; rfl; omega)
   | (apply qp; rfl; omega)
   | (apply qq; rfl; omega)
   | (apply qt; rfl; omega)
   | (apply qy; rfl; apply_assumption; rfl; (try dsimp only [go_sem, List.size_toArray, Int.reduceAdd, Int.reduceSub, Int.reduceNeg, Int.reduceDiv, Nat.reduceAdd, Nat.reduceMul, Int.cast_ofNat_Int, UInt8.reduceToNat]))
   | (apply rA; rfl; (try dsimp only [go_sem, List.size_toArray, Int.reduceAdd, Int.reduceSub, Int.reduceNeg, Int.reduceDiv, Nat.reduceAdd, Nat.reduceMul, Int.cast_ofNat_Int, UInt8.reduceToNat]))
   | (apply rB; (try dsimp only [go_sem, List.size_toArray, Int.reduceAdd, Int.reduceSub, Int.reduceNeg, Int.reduceDiv, Nat.reduceAdd, Nat.reduceMul, Int.cast_ofNat_Int, UInt8.reduceToNat]))
   | (apply rC; rfl; (try dsimp only [go_sem, List.size_toArray, Int.reduceAdd, Int.reduceSub, Int.reduceNeg, Int.reduceDiv, Nat.reduceAdd, Nat.reduceMul, Int.cast_ofNat_Int, UInt8.reduceToNat]))
   | ((fail_if_success (apply qw; rfl)); (fail_if_success (apply qx; rfl)); (first | (apply qu; rfl) | (apply qv; rfl))))
  (repeat (first
   | (apply qj; rfl; (try dsimp only [go_sem, List.size_toArray, Int.reduceAdd, Int.reduceSub, Int.reduceNeg, Int.reduceDiv, Nat.reduceAdd, Nat.reduceMul, Int.cast_ofNat_Int, UInt8.reduceToNat]))
   | (apply qk; rfl; (try dsimp only [go_sem, List.size_toArray, Int.reduceAdd, Int.reduceSub, Int.reduceNeg, Int.reduceDiv, Nat.reduceAdd, Nat.reduceMul, Int.cast_ofNat_Int, UInt8.reduceToNat]))
   | (apply ql; rfl; omega; (try dsimp only [go_sem, List.size_toArray, Int.reduceAdd, Int.reduceSub, Int.reduceNeg, Int.reduceDiv, Nat.reduceAdd, Nat.reduceMul, Int.cast_ofNat_Int, UInt8.reduceToNat]))
   | (apply qm; rfl; omega; (try dsimp only [go_sem, List.size_toArray, Int.reduceAdd, Int.reduceSub, Int.reduceNeg, Int.reduceDiv, Nat.reduceAdd, Nat.reduceMul, Int.cast_ofNat_Int, UInt8.reduceToNat]))
   | (apply qn; rfl; omega; (try dsimp only [go_sem, List.size_toArray, Int.reduceAdd, Int.reduceSub, Int.reduceNeg, Int.reduceDiv, Nat.reduceAdd, Nat.reduceMul, Int.cast_ofNat_Int, UInt8.reduceToNat]))
   | (apply qz; rfl; omega; omega; omega; (try dsimp only [go_sem, List.size_toArray, Int.reduceAdd, Int.reduceSub, Int.reduceNeg, Int.reduceDiv, Nat.reduceAdd, Nat.reduceMul, Int.cast_ofNat_Int, UInt8.reduceToNat]))
   | (apply qo; rfl; omega)
   | (apply qp; rfl; omega)
   | (apply qq; rfl; omega)
   | (apply qt; rfl; omega)
   | (apply qy; rfl; apply_assumption; rfl; (try dsimp only [go_sem, List.size_toArray, Int.reduceAdd, Int.reduceSub, Int.reduceNeg, Int.reduceDiv, Nat.reduceAdd, Nat.reduceMul, Int.cast_ofNat_Int, UInt8.reduceToNat]))
   | (apply rA; rfl; (try dsimp only [go_sem, List.size_toArray, Int.reduceAdd, Int.reduceSub, Int.reduceNeg, Int.reduceDiv, Nat.reduceAdd, Nat.reduceMul, Int.cast_ofNat_Int, UInt8.reduceToNat]))
   | (apply rB; (try dsimp only [go_sem, List.size_toArray, Int.reduceAdd, Int.reduceSub, Int.reduceNeg, Int.reduceDiv, Nat.reduceAdd, Nat.reduceMul, Int.cast_ofNat_Int, UInt8.reduceToNat]))
   | (apply rC; rfl; (try dsimp only [go_sem, List.size_toArray, Int.reduceAdd, Int.reduceSub, Int.reduceNeg, Int.reduceDiv, Nat.reduceAdd, Nat.reduceMul, Int.cast_ofNat_Int, UInt8.reduceToNat]))
   | ((fail_if_success (apply qw; rfl)); (fail_if_success (apply qx; rfl)); (first | (apply qu; rfl) | (apply qv; rfl)))))
  exact wo) : A := h.go hk
end
end Go.AM.PV
namespace Go.AM.PV
open Go Go.AM Go.AM.SX
variable (inf : Nat -> TypeInfo)
def bs (l : List UInt8) : Value := .string ⟨l.toArray⟩
@[reducible] def ld (k : Nat) (n : N) : N := .op (.load none) [vn k] n
@[reducible] def bo (o : BinOp) (x : List X) (n : N) : N := .op (.bin o) x n
def wq : N := .op (.idxA 1) [vn 0, vn 2] (ld 5 (.call 20 [vn 6] (.op (.newSl 35 [(.int .i64 0), (.int .i64 0), (bs []), (.slice none 0 0)] [(0, 4)]) [vn 7] (.op (.app 35 (inf 35) (.agg #[(.int .i64 0), (.int .i64 0), (bs []), (.slice none 0 0)])) [vn 1, .sl (.n 8) 1] (bo .add [vn 2, vi 1] (.fin 0 [vn 9, vn 10]))))))
def wt : N := .op .lenL [vn 0] (bo .lss [vn 2, vn 3] (.br (vn 4) (wq inf) (.fin 2 [vn 1, vn 2])))
def wu : N := .sw 1 2 (.fin 1 [vn 2]) .bad
def t11 : N := .loop [vv (.slice none 0 0), vi 0] (wt inf) wu
def wv : N := .op (.idxA 4) [vn 0, vn 2] (.op (.load (some 4)) [vn 5] (.call 19 [vn 6] (.op (.newSl 41 [.nilIface] [(0, 1)]) [vn 7] (.op (.app 41 (inf 41) .nilIface) [vn 1, .sl (.n 8) 1] (bo .add [vn 2, vi 1] (.fin 0 [vn 9, vn 10]))))))
def wz : N := .op .lenL [vn 0] (bo .lss [vn 2, vn 3] (.br (vn 4) (wv inf) (.fin 2 [vn 1, vn 2])))
def xA : N := .sw 1 2 (.fin 1 [vn 2]) .bad
def t12 : N := .loop [vv (.slice none 0 0), vi 0] (wz inf) xA
def xB : N := .op (.fld 1) [vn 1] (ld 5 (.op (.build [(.int .i64 0)] [(0, 1)]) [vn 6] (.fin 1 [.ifc 45 (.n 7)])))
def xC : N := .op (.fld 2) [vn 1] (ld 6 (.op (.build [(bs [])] [(0, 1)]) [vn 7] (.fin 1 [.ifc 72 (.n 8)])))
def xD : N := .op (.fld 1) [vn 1] (ld 7 (bo .neq [vn 8, vi 0] (.op (.build [(.bool false)] [(0, 1)]) [vn 9] (.fin 1 [.ifc 49 (.n 10)]))))
def xE : N := .op (.fld 3) [vn 1] (ld 8 (.call 12 [vn 9] (.op (.build [(.slice none 0 0)] [(0, 1)]) [vn 10] (.fin 1 [.ifc 52 (.n 11)]))))
def xF : N := .op (.fld 3) [vn 1] (ld 9 (.call 34 [vn 10] (.op (.build [(.slice none 0 0)] [(0, 1)]) [vn 11] (.fin 1 [.ifc 76 (.n 12)]))))
def xG : N := .op (.fld 1) [vn 1] (ld 10 (.op (.build [(.int .i64 0)] [(0, 1)]) [vn 11] (.fin 1 [.ifc 78 (.n 12)])))
def xH : N := bo .eql [vn 3, vi 6] (.br (vn 9) xG (.fin 1 [vv .nilIface]))
def xI : N := bo .eql [vn 3, vi 5] (.br (vn 8) xF xH)
def xJ : N := bo .eql [vn 3, vi 4] (.br (vn 7) xE xI)
def xK : N := bo .eql [vn 3, vi 3] (.br (vn 6) xD xJ)
def xL : N := bo .eql [vn 3, vi 2] (.br (vn 5) xC xK)
def t19 : N := .op (.box 35) [vn 0] (.op (.fld 0) [vn 1] (ld 2 (bo .eql [vn 3, vi 1] (.br (vn 4) xB xL))))
def xM : N := .op (.alloc 45 [(.int .i64 0)]) [] (.op (.store 1) [vn 5, vn 4] (.op (.fld 0) [vn 5] (ld 7 (.op (.build [(.int .i64 0), (.int .i64 0), (bs []), (.slice none 0 0)] [(0, 1), (1, 1)]) [vi 1, vn 8] (.op (.store 4) [vn 1, vn 9] (.op (.load (some 4)) [vn 1] (.fin 1 [vn 11])))))))
def xN : N := .op (.alloc 72 [(bs [])]) [] (.op (.store 1) [vn 8, vn 7] (.op (.fld 0) [vn 8] (ld 10 (.op (.build [(.int .i64 0), (.int .i64 0), (bs []), (.slice none 0 0)] [(0, 1), (2, 1)]) [vi 2, vn 11] (.op (.store 4) [vn 1, vn 12] (.op (.load (some 4)) [vn 1] (.fin 1 [vn 14])))))))
def xO : N := .op (.build [(.int .i64 0), (.int .i64 0), (bs []), (.slice none 0 0)] [(0, 1), (1, 1)]) [vi 3, vi 1] (.op (.store 4) [vn 1, vn 15] (.op (.load (some 4)) [vn 1] (.fin 1 [vn 17])))
def xP : N := .op (.build [(.int .i64 0), (.int .i64 0), (bs []), (.slice none 0 0)] [(0, 1)]) [vi 3] (.op (.store 4) [vn 1, vn 15] (.op (.load (some 4)) [vn 1] (.fin 1 [vn 17])))
def xQ : N := .op (.alloc 49 [(.bool false)]) [] (.op (.store 1) [vn 11, vn 10] (.op (.fld 0) [vn 11] (ld 13 (.br (vn 14) xO xP))))
def xR : N := .op (.alloc 52 [(.slice none 0 0)]) [] (.op (.store 1) [vn 14, vn 13] (.op (.fld 0) [vn 14] (ld 16 (.call 11 [vn 17] (.op (.build [(.int .i64 0), (.int .i64 0), (bs []), (.slice none 0 0)] [(0, 1), (3, 1)]) [vi 4, vn 18] (.op (.store 4) [vn 1, vn 19] (.op (.load (some 4)) [vn 1] (.fin 1 [vn 21]))))))))
def xS : N := .op (.alloc 76 [(.slice none 0 0)]) [] (.op (.store 1) [vn 17, vn 16] (.op (.fld 0) [vn 17] (ld 19 (.call 35 [vn 20] (.op (.build [(.int .i64 0), (.int .i64 0), (bs []), (.slice none 0 0)] [(0, 1), (3, 1)]) [vi 5, vn 21] (.op (.store 4) [vn 1, vn 22] (.op (.load (some 4)) [vn 1] (.fin 1 [vn 24]))))))))
def xT : N := .op (.alloc 78 [(.int .i64 0)]) [] (.op (.store 1) [vn 20, vn 19] (.op (.fld 0) [vn 20] (ld 22 (.op (.build [(.int .i64 0), (.int .i64 0), (bs []), (.slice none 0 0)] [(0, 1), (1, 1)]) [vi 6, vn 23] (.op (.store 4) [vn 1, vn 24] (.op (.load (some 4)) [vn 1] (.fin 1 [vn 26])))))))
def xU : N := .op (.build [(.int .i64 0), (.int .i64 0), (bs []), (.slice none 0 0)] [(0, 1)]) [vi 8] (.op (.store 4) [vn 1, vn 20] (.op (.load (some 4)) [vn 1] (.fin 1 [vn 22])))
def xV : N := .op (.ta 78 (.agg #[(.int .i64 0)]) true) [vn 0] (.op (.ext 1) [vn 17] (.op (.ext 0) [vn 17] (.br (vn 18) xT xU)))
def xW : N := .op (.ta 76 (.agg #[(.slice none 0 0)]) true) [vn 0] (.op (.ext 1) [vn 14] (.op (.ext 0) [vn 14] (.br (vn 15) xS xV)))
def xX : N := .op (.ta 52 (.agg #[(.slice none 0 0)]) true) [vn 0] (.op (.ext 1) [vn 11] (.op (.ext 0) [vn 11] (.br (vn 12) xR xW)))
def xY : N := .op (.ta 49 (.agg #[(.bool false)]) true) [vn 0] (.op (.ext 1) [vn 8] (.op (.ext 0) [vn 8] (.br (vn 9) xQ xX)))
def xZ : N := .op (.ta 72 (.agg #[(bs [])]) true) [vn 0] (.op (.ext 1) [vn 5] (.op (.ext 0) [vn 5] (.br (vn 6) xN xY)))
def t20 : N := .op (.alloc 35 [(.int .i64 0), (.int .i64 0), (bs []), (.slice none 0 0)]) [] (.op (.ta 45 (.agg #[(.int .i64 0)]) true) [vn 0] (.op (.ext 1) [vn 2] (.op (.ext 0) [vn 2] (.br (vn 3) xM xZ))))
def xe : N := .op (.idxA 4) [vn 0, vn 2] (.op (.load (some 4)) [vn 5] (.call 58 [vn 6] (.op (.newSl 100 [.nilIface] [(0, 1)]) [vn 7] (.op (.app 100 (inf 100) .nilIface) [vn 1, .sl (.n 8) 1] (bo .add [vn 2, vi 1] (.fin 0 [vn 9, vn 10]))))))
def xg : N := .op .lenL [vn 0] (bo .lss [vn 2, vn 3] (.br (vn 4) (xe inf) (.fin 2 [vn 1, vn 2])))
def xh : N := .sw 1 2 (.fin 1 [vn 2]) .bad
def t34 : N := .loop [vv (.slice none 0 0), vi 0] (xg inf) xh
def xi : N := .op (.idxA 1) [vn 0, vn 2] (ld 5 (.call 59 [vn 6] (.op (.newSl 35 [(.int .i64 0), (.int .i64 0), (bs []), (.slice none 0 0)] [(0, 4)]) [vn 7] (.op (.app 35 (inf 35) (.agg #[(.int .i64 0), (.int .i64 0), (bs []), (.slice none 0 0)])) [vn 1, .sl (.n 8) 1] (bo .add [vn 2, vi 1] (.fin 0 [vn 9, vn 10]))))))
def xj : N := .op .lenL [vn 0] (bo .lss [vn 2, vn 3] (.br (vn 4) (xi inf) (.fin 2 [vn 1, vn 2])))
def xk : N := .sw 1 2 (.fin 1 [vn 2]) .bad
def t35 : N := .loop [vv (.slice none 0 0), vi 0] (xj inf) xk
def xl : N := .op (.fld 2) [vn 1] (ld 5 (.op (.build [(bs [])] [(0, 1)]) [vn 6] (.fin 1 [.ifc 153 (.n 7)])))
def xm : N := .op (.load (some 4)) [vn 1] (.call 19 [vn 11] (.op (.build [.nilIface] [(0, 1)]) [vn 12] (.fin 1 [.ifc 134 (.n 13)])))
def xn : N := .op (.fld 0) [vn 1] (ld 8 (bo .gtr [vn 9, vi 6] (.br (vn 10) (.fin 1 [vv .nilIface]) xm)))
def xp : N := .op (.fld 0) [vn 1] (ld 5 (bo .lss [vn 6, vi 1] (.br (vn 7) (.fin 1 [vv .nilIface]) xn)))
def t58 : N := .op (.box 35) [vn 0] (.op (.fld 0) [vn 1] (ld 2 (bo .eql [vn 3, vi 7] (.br (vn 4) xl xp))))
def xq : N := .op (.alloc 134 [.nilIface]) [] (.op (.store 1) [vn 5, vn 4] (.op (.fld 0) [vn 5] (ld 7 (.call 20 [vn 8] (.op (.store 4) [vn 1, vn 9] (.op (.load (some 4)) [vn 1] (.fin 1 [vn 11])))))))
def xr : N := .op (.alloc 153 [(bs [])]) [] (.op (.store 1) [vn 8, vn 7] (.op (.fld 0) [vn 8] (ld 10 (.op (.build [(.int .i64 0), (.int .i64 0), (bs []), (.slice none 0 0)] [(0, 1), (2, 1)]) [vi 7, vn 11] (.op (.store 4) [vn 1, vn 12] (.op (.load (some 4)) [vn 1] (.fin 1 [vn 14])))))))
def xu : N := .op (.build [(.int .i64 0), (.int .i64 0), (bs []), (.slice none 0 0)] [(0, 1)]) [vi 8] (.op (.store 4) [vn 1, vn 8] (.op (.load (some 4)) [vn 1] (.fin 1 [vn 10])))
def xv : N := .op (.ta 153 (.agg #[(bs [])]) true) [vn 0] (.op (.ext 1) [vn 5] (.op (.ext 0) [vn 5] (.br (vn 6) xr xu)))
def t59 : N := .op (.alloc 35 [(.int .i64 0), (.int .i64 0), (bs []), (.slice none 0 0)]) [] (.op (.ta 134 (.agg #[.nilIface]) true) [vn 0] (.op (.ext 1) [vn 2] (.op (.ext 0) [vn 2] (.br (vn 3) xq xv))))
def xw : N := bo .add [vn 6, vi 1] (.fin 0 [vn 5, vn 16])
def xx : N := .bump 10 (.save (.op (.idxA 4) [vn 0, vn 6] (.op (.load (some 4)) [vn 10] (.op (.idxA 4) [vn 1, vn 6] (.op (.load (some 4)) [vn 12] (.call 32 [vn 11, vn 13] (.save (.op .not [vn 14] (.self (vn 0) (.self (vn 6) (.chk 0 (.idxA 4) [vn 0, vn 6] (vn 10) (.chk 0 (.load (some 4)) [vn 10] (vn 11) (.self (vn 1) (.self (vn 6) (.chk 0 (.idxA 4) [vn 1, vn 6] (vn 12) (.chk 0 (.load (some 4)) [vn 12] (vn 13) (.chk 1 .not [vn 14] (vn 15) (.br (vn 15) (.fin 1 [vv (.bool false), vn 6]) xw))))))))))))))))))
def xy : N := .op .lenL [vn 0] (bo .lss [vn 6, vn 7] (.br (vn 8) xx (.fin 2 [vn 5, vn 6])))
def xz : N := .sw 5 2 (.fin 1 [vv (.bool true)]) .bad
def yA : N := .sw 5 1 (.fin 1 [vn 6]) xz
def yB : N := .loop [vv (.bool false), vi 0] xy yA
def t15 : N := .op .lenL [vn 0] (.op .lenL [vn 1] (bo .neq [vn 2, vn 3] (.br (vn 4) (.fin 1 [vv (.bool false)]) yB)))
def yC : N := .op (.fld 0) [vn 1] (ld 7 (bo .neq [vn 8, vi 7] (.fin 1 [vn 9])))
def t16 : N := .op (.box 35) [vn 0] (.op (.load (some 4)) [vn 1] (.call 33 [vn 2, vi 1024, vi 0] (.op (.ext 0) [vn 3] (.op (.ext 1) [vn 3] (.op (.ext 2) [vn 3] (.br (vn 6) yC (.fin 1 [vv (.bool false)])))))))
def yD : N := .op (.fld 3) [vn 2] (ld 24 (.op (.fld 3) [vn 3] (ld 26 (.call 15 [vn 25, vn 27] (.fin 1 [vn 28])))))
def yE : N := .op (.fld 1) [vn 2] (ld 19 (.op (.fld 1) [vn 3] (ld 21 (bo .neq [vn 20, vn 22] (.br (vn 23) (.fin 1 [vv (.bool false)]) yD)))))
def yF : N := .op (.fld 3) [vn 2] (ld 25 (.op (.fld 3) [vn 3] (ld 27 (.call 15 [vn 26, vn 28] (.fin 1 [vn 29])))))
def yG : N := .op (.fld 1) [vn 2] (ld 20 (.op (.fld 1) [vn 3] (ld 22 (bo .neq [vn 21, vn 23] (.br (vn 24) (.fin 1 [vv (.bool false)]) yF)))))
def yH : N := .op (.fld 3) [vn 2] (ld 28 (.op (.fld 3) [vn 3] (ld 30 (.call 15 [vn 29, vn 31] (.fin 1 [vn 32])))))
def yI : N := .op (.fld 1) [vn 2] (ld 21 (bo .neq [vn 22, vi 0] (.op (.fld 1) [vn 3] (ld 24 (bo .neq [vn 25, vi 0] (.op (.beq true) [vn 23, vn 26] (.br (vn 27) (.fin 1 [vv (.bool false)]) yH)))))))
def yJ : N := .op (.fld 3) [vn 2] (ld 27 (.op (.fld 3) [vn 3] (ld 29 (.call 15 [vn 28, vn 30] (.fin 1 [vn 31])))))
def yK : N := .op (.fld 2) [vn 2] (ld 22 (.op (.fld 2) [vn 3] (ld 24 (bo .neq [vn 23, vn 25] (.br (vn 26) (.fin 1 [vv (.bool false)]) yJ)))))
def yL : N := .op (.fld 3) [vn 2] (ld 28 (.op (.fld 3) [vn 3] (ld 30 (.call 15 [vn 29, vn 31] (.fin 1 [vn 32])))))
def yM : N := .op (.fld 2) [vn 2] (ld 23 (.op (.fld 2) [vn 3] (ld 25 (bo .neq [vn 24, vn 26] (.br (vn 27) (.fin 1 [vv (.bool false)]) yL)))))
def yN : N := .op (.fld 3) [vn 2] (ld 23 (.op (.fld 3) [vn 3] (ld 25 (.call 15 [vn 24, vn 26] (.fin 1 [vn 27])))))
def yO : N := bo .eql [vn 17, vi 7] (.br (vn 22) yM yN)
def yP : N := bo .eql [vn 17, vi 2] (.br (vn 21) yK yO)
def yQ : N := bo .eql [vn 17, vi 3] (.br (vn 20) yI yP)
def yR : N := bo .eql [vn 17, vi 6] (.br (vn 19) yG yQ)
def yS : N := .op (.fld 0) [vn 2] (ld 16 (bo .eql [vn 17, vi 1] (.br (vn 18) yE yR)))
def yT : N := .op (.fld 3) [vn 2] (ld 9 (.op .lenL [vn 10] (.op (.fld 3) [vn 3] (ld 12 (.op .lenL [vn 13] (bo .neq [vn 11, vn 14] (.br (vn 15) (.fin 1 [vv (.bool false)]) yS)))))))
def t32 : N := .op (.box 35) [vn 0] (.op (.box 35) [vn 1] (.op (.fld 0) [vn 2] (ld 4 (.op (.fld 0) [vn 3] (ld 6 (bo .neq [vn 5, vn 7] (.br (vn 8) (.fin 1 [vv (.bool false)]) yT)))))))
def yU : N := .op .tup [vi 0, vi 0, vv (.bool false)] (.fin 1 [vn 5])
def yV : N := .op .tup [vi 0, vi 0, vv (.bool false)] (.fin 1 [vn 6])
def yW : N := .op (.fld 1) [vn 3] (ld 9 (.call 21 [vn 10] (.op .tup [vi 1, vi 0, vn 11] (.fin 1 [vn 12]))))
def yX : N := .op (.fld 2) [vn 3] (ld 14 (.call 56 [vn 15] (bo .lss [vn 16, vi 0] (.op .tup [vi 1, vi 0, vn 17] (.fin 1 [vn 18])))))
def yY : N := .op .tup [vi 1, vi 0, vv (.bool false)] (.fin 1 [vn 14])
def yZ : N := .op (.fld 2) [vn 3] (ld 10 (.op .lenS [vn 11] (bo .leq [vn 12, vi 4096] (.br (vn 13) yX yY))))
def y0 : N := .op .tup [vi 1, vi 0, vv (.bool true)] (.fin 1 [vn 11])
def y3 : N := .op (.fld 1) [vn 3] (ld 16 (bo .leq [vn 17, vi 1048576] (.self (vn 13) (.self (vn 14) (.self (vn 15) (.self (vn 15) (.self (vn 16) (.self (vn 17) (.self (vn 18) (.self (vn 18) (.self (vi 1) (.self (vi 0) (.self (vn 18) (.op .tup [vi 1, vi 0, vn 18] (.fin 1 [vn 19])))))))))))))))
def y4 : N := .self (vn 13) (.self (vn 14) (.self (vn 15) (.self (vn 15) (.self (vv (.bool false)) (.self (vi 1) (.self (vi 0) (.self (vv (.bool false)) (.op .tup [vi 1, vi 0, vv (.bool false)] (.fin 1 [vn 16])))))))))
def y5 : N := .bump 11 (.save (.op (.fld 1) [vn 3] (ld 13 (bo .geq [vn 14, vi 1] (.br (vn 15) y3 y4)))))
def y6 : N := .op (.fld 2) [vn 3] (ld 13 (.call 57 [vn 14] (.op .tup [vi 1, vi 0, vn 15] (.fin 1 [vn 16]))))
def y7 : N := bo .add [vn 15, vn 38] (.op (.mm true) [vn 16, vn 39] (bo .add [vn 17, vi 1] (.fin 0 [vn 14, vn 42, vn 43, vn 44])))
def y8 : N := .op (.fld 3) [vn 3] (ld 31 (.op (.idxA 4) [vn 32, vn 17] (.op (.load (some 4)) [vn 33] (bo .sub [vn 1, vn 15] (bo .add [vn 2, vi 1] (.call 33 [vn 34, vn 35, vn 36] (.op (.ext 0) [vn 37] (.op (.ext 1) [vn 37] (.op (.ext 2) [vn 37] (.op .not [vn 40] (.br (vn 41) (.fin 1 [vv (.bool false), vi 0, vi 0, vn 17]) y7)))))))))))
def y9 : N := .op (.fld 3) [vn 3] (ld 25 (.op (.idxA 4) [vn 26, vn 17] (.op (.fld 0) [vn 27] (ld 28 (bo .eql [vn 29, vi 7] (.br (vn 30) (.fin 1 [vv (.bool false), vi 0, vi 0, vn 17]) y8))))))
def ya : N := bo .add [vn 15, vn 32] (.op (.mm true) [vn 16, vn 33] (bo .add [vn 17, vi 1] (.fin 0 [vn 14, vn 36, vn 37, vn 38])))
def yb : N := .op (.fld 3) [vn 3] (ld 25 (.op (.idxA 4) [vn 26, vn 17] (.op (.load (some 4)) [vn 27] (bo .sub [vn 1, vn 15] (bo .add [vn 2, vi 1] (.call 33 [vn 28, vn 29, vn 30] (.op (.ext 0) [vn 31] (.op (.ext 1) [vn 31] (.op (.ext 2) [vn 31] (.op .not [vn 34] (.br (vn 35) (.fin 1 [vv (.bool false), vi 0, vi 0, vn 17]) ya)))))))))))
def yc : N := .op (.fld 0) [vn 3] (ld 22 (bo .eql [vn 23, vi 4] (.br (vn 24) y9 yb)))
def yd : N := .op (.fld 3) [vn 3] (ld 18 (.op .lenL [vn 19] (bo .lss [vn 17, vn 20] (.br (vn 21) yc (.fin 3 [vn 14, vn 15, vn 16, vn 17])))))
def ye : N := .op .tup [vn 16, vn 17, vn 15] (.fin 1 [vn 19])
def yf : N := bo .add [vn 17, vi 1] (bo .lss [vn 17, vi 32] (.op .tup [vn 16, vn 19, vn 20] (.fin 1 [vn 21])))
def yg : N := .sw 14 3 yf .bad
def yh : N := .sw 14 1 ye yg
def yi : N := .loop [vv (.bool false), vi 1, vi 0, vi 0] yd yh
def yj : N := bo .add [vn 16, vn 39] (.op (.mm true) [vn 17, vn 40] (bo .add [vn 18, vi 1] (.fin 0 [vn 15, vn 43, vn 44, vn 45])))
def yk : N := .op (.fld 3) [vn 3] (ld 32 (.op (.idxA 4) [vn 33, vn 18] (.op (.load (some 4)) [vn 34] (bo .sub [vn 1, vn 16] (bo .add [vn 2, vi 1] (.call 33 [vn 35, vn 36, vn 37] (.op (.ext 0) [vn 38] (.op (.ext 1) [vn 38] (.op (.ext 2) [vn 38] (.op .not [vn 41] (.br (vn 42) (.fin 1 [vv (.bool false), vi 0, vi 0, vn 18]) yj)))))))))))
def yl : N := .op (.fld 3) [vn 3] (ld 26 (.op (.idxA 4) [vn 27, vn 18] (.op (.fld 0) [vn 28] (ld 29 (bo .eql [vn 30, vi 7] (.br (vn 31) (.fin 1 [vv (.bool false), vi 0, vi 0, vn 18]) yk))))))
def ym : N := bo .add [vn 16, vn 33] (.op (.mm true) [vn 17, vn 34] (bo .add [vn 18, vi 1] (.fin 0 [vn 15, vn 37, vn 38, vn 39])))
def yn : N := .op (.fld 3) [vn 3] (ld 26 (.op (.idxA 4) [vn 27, vn 18] (.op (.load (some 4)) [vn 28] (bo .sub [vn 1, vn 16] (bo .add [vn 2, vi 1] (.call 33 [vn 29, vn 30, vn 31] (.op (.ext 0) [vn 32] (.op (.ext 1) [vn 32] (.op (.ext 2) [vn 32] (.op .not [vn 35] (.br (vn 36) (.fin 1 [vv (.bool false), vi 0, vi 0, vn 18]) ym)))))))))))
def yp : N := .op (.fld 0) [vn 3] (ld 23 (bo .eql [vn 24, vi 4] (.br (vn 25) yl yn)))
def yq : N := .op (.fld 3) [vn 3] (ld 19 (.op .lenL [vn 20] (bo .lss [vn 18, vn 21] (.br (vn 22) yp (.fin 3 [vn 15, vn 16, vn 17, vn 18])))))
def yr : N := .op .tup [vn 17, vn 18, vn 16] (.fin 1 [vn 20])
def yt : N := bo .add [vn 18, vi 1] (bo .lss [vn 18, vi 32] (.op .tup [vn 17, vn 20, vn 21] (.fin 1 [vn 22])))
def yu : N := .sw 15 3 yt .bad
def yv : N := .sw 15 1 yr yu
def yw : N := .loop [vv (.bool false), vi 1, vi 0, vi 0] yq yv
def yx : N := .op .tup [vi 0, vi 0, vv (.bool false)] (.fin 1 [vn 15])
def yy : N := bo .eql [vn 7, vi 5] (.br (vn 14) yw yx)
def yz : N := bo .eql [vn 7, vi 4] (.br (vn 13) yi yy)
def zA : N := bo .eql [vn 7, vi 7] (.br (vn 12) y6 yz)
def zB : N := bo .eql [vn 7, vi 6] (.br (vn 11) y5 zA)
def zC : N := bo .eql [vn 7, vi 3] (.br (vn 10) y0 zB)
def zD : N := bo .eql [vn 7, vi 2] (.br (vn 9) yZ zC)
def zE : N := .op (.fld 0) [vn 3] (ld 6 (bo .eql [vn 7, vi 1] (.br (vn 8) yW zD)))
def zF : N := bo .gtr [vn 2, vi 32] (.br (vn 5) yV zE)
def t33 : N := .op (.box 35) [vn 0] (bo .lss [vn 1, vi 1] (.br (vn 4) yU zF))
def zG : N := bo .leq [vn 0, vi 1152921504606846975] (.fin 1 [vn 2])
def t21 : N := bo .geq [vn 0, vv (.int .i64 (-1152921504606846976))] (.br (vn 1) zG (.fin 1 [vv (.bool false)]))
def t24 : N := .op (.alloc 3 [(.int .i64 0)]) [] (.op (.store 1) [vn 1, vi 1024] (.call 39 [vn 0, vn 1, vi 0] (.op (.ext 0) [vn 3] (.op (.ext 1) [vn 3] (.op .not [vn 5] (.br (vn 6) (.fin 1 [vi 1]) (.fin 1 [vi 0])))))))
def zH : N := .op .tup [vi 0, vv (.bool false)] (.fin 1 [vn 11])
def zI : N := .op .tup [vi 0, vv (.bool false)] (.fin 1 [vn 12])
def zJ : N := .op (.fld 0) [vn 15] (ld 21 (bo .leq [vn 22, vi 1152921504606846975] (.self (vn 18) (.self (vn 19) (.self (vn 20) (.self (vn 20) (.self (vn 21) (.self (vn 22) (.self (vn 23) (.self (vn 23) (.self (vi 0) (.self (vn 23) (.op .tup [vi 0, vn 23] (.fin 1 [vn 24]))))))))))))))
def zK : N := .self (vn 18) (.self (vn 19) (.self (vn 20) (.self (vn 20) (.self (vv (.bool false)) (.self (vi 0) (.self (vv (.bool false)) (.op .tup [vi 0, vv (.bool false)] (.fin 1 [vn 21]))))))))
def zL : N := .op (.alloc 45 [(.int .i64 0)]) [] (.op (.store 1) [vn 15, vn 14] (.bump 10 (.save (.op (.fld 0) [vn 15] (ld 18 (bo .geq [vn 19, vv (.int .i64 (-1152921504606846976))] (.br (vn 20) zJ zK)))))))
def zM : N := .op (.fld 0) [vn 18] (ld 24 (.call 64 [vn 25] (.op .tup [vi 0, vn 26] (.fin 1 [vn 27]))))
def zN : N := .op .tup [vi 0, vv (.bool false)] (.fin 1 [vn 24])
def zO : N := .op (.alloc 72 [(bs [])]) [] (.op (.store 1) [vn 18, vn 17] (.op (.fld 0) [vn 18] (ld 20 (.op .lenS [vn 21] (bo .leq [vn 22, vi 4096] (.br (vn 23) zM zN))))))
def zP : N := .op (.alloc 49 [(.bool false)]) [] (.op (.store 1) [vn 21, vn 20] (.op .tup [vi 0, vv (.bool true)] (.fin 1 [vn 23])))
def zQ : N := .op (.fld 0) [vn 24] (ld 30 (bo .leq [vn 31, vi 1048576] (.self (vn 27) (.self (vn 28) (.self (vn 29) (.self (vn 29) (.self (vn 30) (.self (vn 31) (.self (vn 32) (.self (vn 32) (.self (vi 0) (.self (vn 32) (.op .tup [vi 0, vn 32] (.fin 1 [vn 33]))))))))))))))
def zR : N := .self (vn 27) (.self (vn 28) (.self (vn 29) (.self (vn 29) (.self (vv (.bool false)) (.self (vi 0) (.self (vv (.bool false)) (.op .tup [vi 0, vv (.bool false)] (.fin 1 [vn 30]))))))))
def zS : N := .op (.alloc 78 [(.int .i64 0)]) [] (.op (.store 1) [vn 24, vn 23] (.bump 10 (.save (.op (.fld 0) [vn 24] (ld 27 (bo .geq [vn 28, vi 1] (.br (vn 29) zQ zR)))))))
def zT : N := .op (.mm true) [vn 33, vn 40] (bo .add [vn 34, vi 1] (.fin 0 [vn 32, vn 43, vn 44]))
def zU : N := .op (.idxA 1) [vn 30, vn 34] (ld 36 (bo .add [vn 2, vi 1] (.call 39 [vn 37, vn 1, vn 38] (.op (.ext 0) [vn 39] (.op (.ext 1) [vn 39] (.op .not [vn 41] (.br (vn 42) (.fin 1 [vv (.bool false), vi 0, vn 34]) zT)))))))
def zV : N := bo .lss [vn 34, vn 31] (.br (vn 35) zU (.fin 3 [vn 32, vn 33, vn 34]))
def zW : N := .op .tup [vn 34, vn 33] (.fin 1 [vn 36])
def zX : N := bo .add [vn 34, vi 1] (bo .lss [vn 34, vi 32] (.op .tup [vn 36, vn 37] (.fin 1 [vn 38])))
def zY : N := .sw 32 3 zX .bad
def zZ : N := .sw 32 1 zW zY
def z7 : N := .op (.alloc 52 [(.slice none 0 0)]) [] (.op (.store 1) [vn 27, vn 26] (.op (.fld 0) [vn 27] (ld 29 (.op .lenL [vn 30] (.loop [vv (.bool false), vi 0, vi 0] zV zZ)))))
def z8 : N := .op (.mm true) [vn 36, vn 43] (bo .add [vn 37, vi 1] (.fin 0 [vn 35, vn 46, vn 47]))
def zd : N := .op (.idxA 1) [vn 33, vn 37] (ld 39 (bo .add [vn 2, vi 1] (.call 65 [vn 40, vn 1, vn 41] (.op (.ext 0) [vn 42] (.op (.ext 1) [vn 42] (.op .not [vn 44] (.br (vn 45) (.fin 1 [vv (.bool false), vi 0, vn 37]) z8)))))))
def ze : N := bo .lss [vn 37, vn 34] (.br (vn 38) zd (.fin 5 [vn 35, vn 36, vn 37]))
def zf : N := .op .tup [vn 37, vn 36] (.fin 1 [vn 39])
def zg : N := bo .add [vn 37, vi 1] (bo .lss [vn 37, vi 32] (.op .tup [vn 39, vn 40] (.fin 1 [vn 41])))
def zh : N := .sw 35 5 zg .bad
def zi : N := .sw 35 1 zf zh
def zj : N := .op (.alloc 76 [(.slice none 0 0)]) [] (.op (.store 1) [vn 30, vn 29] (.op (.fld 0) [vn 30] (ld 32 (.op .lenL [vn 33] (.loop [vv (.bool false), vi 0, vi 0] ze zi)))))
def zk : N := .op .tup [vi 0, vv (.bool false)] (.fin 1 [vn 30])
def zl : N := .op (.ta 76 (.agg #[(.slice none 0 0)]) true) [vn 0] (.op (.ext 1) [vn 27] (.op (.ext 0) [vn 27] (.br (vn 28) zj zk)))
def zm : N := .op (.ta 52 (.agg #[(.slice none 0 0)]) true) [vn 0] (.op (.ext 1) [vn 24] (.op (.ext 0) [vn 24] (.br (vn 25) z7 zl)))
def zn : N := .op (.ta 78 (.agg #[(.int .i64 0)]) true) [vn 0] (.op (.ext 1) [vn 21] (.op (.ext 0) [vn 21] (.br (vn 22) zS zm)))
def zo : N := .op (.ta 49 (.agg #[(.bool false)]) true) [vn 0] (.op (.ext 1) [vn 18] (.op (.ext 0) [vn 18] (.br (vn 19) zP zn)))
def zq : N := .op (.ta 72 (.agg #[(bs [])]) true) [vn 0] (.op (.ext 1) [vn 15] (.op (.ext 0) [vn 15] (.br (vn 16) zO zo)))
def zr : N := .op (.ta 45 (.agg #[(.int .i64 0)]) true) [vn 0] (.op (.ext 1) [vn 12] (.op (.ext 0) [vn 12] (.br (vn 13) zL zq)))
def zt : N := bo .gtr [vn 2, vi 32] (.br (vn 11) zI zr)
def t39 : N := .op .nilc [vn 1] (ld 3 (bo .sub [vn 4, vi 1] (.op .nilc [vn 1] (.op (.store 1) [vn 6, vn 5] (.op .nilc [vn 1] (ld 8 (bo .lss [vn 9, vi 0] (.br (vn 10) zH zt))))))))
def zu : N := .op (.fld 0) [vn 6] (ld 8 (.call 39 [vn 9, vn 1, vn 2] (.op (.ext 0) [vn 10] (.op (.ext 1) [vn 10] (.op .tup [vn 11, vn 12] (.fin 1 [vn 13]))))))
def zw : N := .op (.fld 0) [vn 11] (ld 21 (.call 102 [vn 22] (.op .tup [vi 0, vn 23] (.fin 1 [vn 24]))))
def zx : N := .op .tup [vi 0, vv (.bool false)] (.fin 1 [vn 21])
def zy : N := .op .nilc [vn 1] (ld 18 (bo .geq [vn 19, vi 0] (.br (vn 20) zw zx)))
def zz : N := .op .tup [vi 0, vv (.bool false)] (.fin 1 [vn 18])
def AA : N := .op (.ta 153 (.agg #[(bs [])]) true) [vn 0] (.op (.ext 0) [vn 8] (.op (.ext 1) [vn 8] (.op (.alloc 153 [(bs [])]) [] (.op (.store 1) [vn 11, vn 9] (.op .nilc [vn 1] (ld 13 (bo .sub [vn 14, vi 1] (.op .nilc [vn 1] (.op (.store 1) [vn 16, vn 15] (.br (vn 10) zy zz))))))))))
def t65 : N := .op (.ta 134 (.agg #[.nilIface]) true) [vn 0] (.op (.ext 0) [vn 3] (.op (.ext 1) [vn 3] (.op (.alloc 134 [.nilIface]) [] (.op (.store 1) [vn 6, vn 4] (.br (vn 5) zu AA)))))
def AB : N := .call 97 [vn 0] (.op .not [vn 2] (.fin 1 [vn 3]))
def t57 : N := .call 96 [vn 0] (.br (vn 1) AB (.fin 1 [vv (.bool false)]))
def AC : N := .call 134 [vn 0] (.op .not [vn 2] (.fin 1 [vn 3]))
def t102 : N := .call 133 [vn 0] (.br (vn 1) AC (.fin 1 [vv (.bool false)]))
def AD : N := .op (.idxA 1) [vn 7, vn 10] (ld 12 (.call 28 [vn 13] (.op (.newSl 41 [.nilIface] [(0, 1)]) [vn 14] (.op (.app 41 (inf 41) .nilIface) [vn 9, .sl (.n 15) 1] (bo .add [vn 10, vi 1] (.fin 0 [vn 16, vn 17]))))))
def AE : N := bo .lss [vn 10, vn 8] (.br (vn 11) (AD inf) (.fin 3 [vn 9, vn 10]))
def AF : N := .op (.build [(.slice none 0 0)] [(0, 1)]) [vn 10] (.fin 1 [.ifc 52 (.n 12)])
def AG : N := .sw 9 3 AF .bad
def AH : N := .op (.alloc 52 [(.slice none 0 0)]) [] (.op (.store 1) [vn 4, vn 3] (.op (.fld 0) [vn 4] (ld 6 (.op .lenL [vn 7] (.loop [vv (.slice none 0 0), vi 0] (AE inf) AG)))))
def AI : N := .op (.alloc 76 [(.slice none 0 0)]) [] (.op (.store 1) [vn 7, vn 6] (.op (.fld 0) [vn 7] (ld 9 (.call 47 [vn 10] (.op (.build [(.slice none 0 0)] [(0, 1)]) [vn 11] (.fin 1 [.ifc 76 (.n 12)]))))))
def AJ : N := .op (.ta 76 (.agg #[(.slice none 0 0)]) true) [vn 0] (.op (.ext 1) [vn 4] (.op (.ext 0) [vn 4] (.br (vn 5) AI (.fin 1 [vn 0]))))
def t28 : N := .op (.ta 52 (.agg #[(.slice none 0 0)]) true) [vn 0] (.op (.ext 1) [vn 1] (.op (.ext 0) [vn 1] (.br (vn 2) (AH inf) AJ)))
def AK : N := .op (.fld 0) [vn 10] (ld 12 (.call 28 [vn 13] (.op (.build [.nilIface] [(0, 1)]) [vn 14] (.op (.newSl 100 [.nilIface] [(0, 1)]) [.ifc 134 (.n 15)] (.op (.app 100 (inf 100) .nilIface) [vn 2, .sl (.n 16) 1] (bo .add [vn 3, vi 1] (.fin 0 [vn 17, vn 18])))))))
def AL : N := .op (.newSl 100 [.nilIface] [(0, 1)]) [vn 6] (.op (.app 100 (inf 100) .nilIface) [vn 2, .sl (.n 12) 1] (bo .add [vn 3, vi 1] (.fin 0 [vn 13, vn 14])))
def AN : N := .op (.idxA 1) [vn 0, vn 3] (ld 5 (.op (.ta 134 (.agg #[.nilIface]) true) [vn 6] (.op (.ext 0) [vn 7] (.op (.ext 1) [vn 7] (.op (.alloc 134 [.nilIface]) [] (.op (.store 1) [vn 10, vn 8] (.br (vn 9) (AK inf) (AL inf))))))))
def AO : N := bo .lss [vn 3, vn 1] (.br (vn 4) (AN inf) (.fin 2 [vn 2, vn 3]))
def AP : N := .sw 2 2 (.fin 1 [vn 3]) .bad
def t47 : N := .op .lenL [vn 0] (.loop [vv (.slice none 0 0), vi 0] (AO inf) AP)
def AQ : N := bo .eql [vn 0, vv (bs [102])] (.fin 1 [vn 11])
def AS : N := bo .eql [vn 0, vv (bs [116])] (.br (vn 10) (.fin 1 [vv (.bool true)]) AQ)
def AT : N := bo .eql [vn 0, vv (bs [125])] (.br (vn 9) (.fin 1 [vv (.bool true)]) AS)
def AU : N := bo .eql [vn 0, vv (bs [123])] (.br (vn 8) (.fin 1 [vv (.bool true)]) AT)
def AV : N := bo .eql [vn 0, vv (bs [93])] (.br (vn 7) (.fin 1 [vv (.bool true)]) AU)
def AW : N := bo .eql [vn 0, vv (bs [91])] (.br (vn 6) (.fin 1 [vv (.bool true)]) AV)
def AX : N := bo .eql [vn 0, vv (bs [45, 45])] (.br (vn 5) (.fin 1 [vv (.bool true)]) AW)
def AY : N := bo .eql [vn 0, vv (bs [41])] (.br (vn 4) (.fin 1 [vv (.bool true)]) AX)
def AZ : N := bo .eql [vn 0, vv (bs [40])] (.br (vn 3) (.fin 1 [vv (.bool true)]) AY)
def A4 : N := bo .eql [vn 0, vv (bs [59])] (.br (vn 2) (.fin 1 [vv (.bool true)]) AZ)
def t97 : N := bo .eql [vn 0, vv (bs [58])] (.br (vn 1) (.fin 1 [vv (.bool true)]) A4)
def t134 : N := .op (.newSl 9 [(bs []), (bs []), (bs []), (bs []), (bs []), (bs []), (bs []), (bs []), (bs []), (bs []), (bs [])] [(0, 1), (1, 1), (2, 1), (3, 1), (4, 1), (5, 1), (6, 1), (7, 1), (8, 1), (9, 1), (10, 1)]) [vv (bs [58]), vv (bs [59]), vv (bs [40]), vv (bs [41]), vv (bs [45, 45]), vv (bs [91]), vv (bs [93]), vv (bs [123]), vv (bs [125]), vv (bs [116]), vv (bs [102])] (.call 37 [.sl (.n 1) 11, vn 0] (.fin 1 [vn 2]))
def A5 : N := .op (.build [(.int .i64 0), (.int .i64 0), (bs []), (.slice none 0 0)] [(0, 1), (1, 1)]) [vi 3, vi 1] (.op (.newSl 35 [(.int .i64 0), (.int .i64 0), (bs []), (.slice none 0 0)] [(0, 4)]) [vn 1] (.fin 1 [.sl (.n 2) 1]))
def A6 : N := .op (.build [(.int .i64 0), (.int .i64 0), (bs []), (.slice none 0 0)] [(0, 1)]) [vi 3] (.op (.newSl 35 [(.int .i64 0), (.int .i64 0), (bs []), (.slice none 0 0)] [(0, 4)]) [vn 1] (.fin 1 [.sl (.n 2) 1]))
def t53 : N := .br (vn 0) A5 A6
end Go.AM.PV
namespace Go.AM.PV
open Go Go.AM Go.AM.SX
def A7 : N := bo .eql [vn 0, vv (.int .i32 12288)] (.fin 1 [vn 6])
def A8 : N := bo .eql [vn 0, vv (.int .i32 160)] (.br (vn 5) (.fin 1 [vv (.bool true)]) A7)
def A9 : N := bo .eql [vn 0, vv (.int .i32 32)] (.br (vn 4) (.fin 1 [vv (.bool true)]) A8)
def Aa : N := bo .eql [vn 0, vv (.int .i32 13)] (.br (vn 3) (.fin 1 [vv (.bool true)]) A9)
def Ab : N := bo .eql [vn 0, vv (.int .i32 10)] (.br (vn 2) (.fin 1 [vv (.bool true)]) Aa)
def t130 : N := bo .eql [vn 0, vv (.int .i32 9)] (.br (vn 1) (.fin 1 [vv (.bool true)]) Ab)
def Ac : N := bo .leq [vn 0, vv (.int .i32 65305)] (.br (vn 6) (.fin 1 [vv (.int .i32 65296)]) (.fin 1 [vv (.int .i32 0)]))
def Ad : N := bo .geq [vn 0, vv (.int .i32 65296)] (.br (vn 5) Ac (.fin 1 [vv (.int .i32 0)]))
def Ae : N := bo .leq [vn 0, vv (.int .i32 1641)] (.br (vn 4) (.fin 1 [vv (.int .i32 1632)]) Ad)
def Af : N := bo .leq [vn 0, vv (.int .i32 65305)] (.br (vn 5) (.fin 1 [vv (.int .i32 65296)]) (.fin 1 [vv (.int .i32 0)]))
def Ag : N := bo .geq [vn 0, vv (.int .i32 65296)] (.br (vn 4) Af (.fin 1 [vv (.int .i32 0)]))
def Ah : N := bo .geq [vn 0, vv (.int .i32 1632)] (.br (vn 3) Ae Ag)
def Ai : N := bo .leq [vn 0, vv (.int .i32 57)] (.br (vn 2) (.fin 1 [vv (.int .i32 48)]) Ah)
def Aj : N := bo .leq [vn 0, vv (.int .i32 65305)] (.br (vn 5) (.fin 1 [vv (.int .i32 65296)]) (.fin 1 [vv (.int .i32 0)]))
def Ak : N := bo .geq [vn 0, vv (.int .i32 65296)] (.br (vn 4) Aj (.fin 1 [vv (.int .i32 0)]))
def Al : N := bo .leq [vn 0, vv (.int .i32 1641)] (.br (vn 3) (.fin 1 [vv (.int .i32 1632)]) Ak)
def Am : N := bo .leq [vn 0, vv (.int .i32 65305)] (.br (vn 4) (.fin 1 [vv (.int .i32 65296)]) (.fin 1 [vv (.int .i32 0)]))
def An : N := bo .geq [vn 0, vv (.int .i32 65296)] (.br (vn 3) Am (.fin 1 [vv (.int .i32 0)]))
def Ao : N := bo .geq [vn 0, vv (.int .i32 1632)] (.br (vn 2) Al An)
def t148 : N := bo .geq [vn 0, vv (.int .i32 48)] (.br (vn 1) Ai Ao)
def Ap : N := bo .sub [vn 0, vn 8] (.op (.conv .i64) [vn 12] (.fin 1 [vn 13, vn 8, vv (.bool true), vn 5]))
def Aq : N := bo .add [vn 5, vi 1] (.fin 0 [vn 2, vn 3, vn 4, vn 12])
def Ar : N := bo .add [vn 8, vv (.int .i32 9)] (bo .leq [vn 0, vn 10] (.br (vn 11) Ap Aq))
def As : N := bo .add [vn 5, vi 1] (.fin 0 [vn 2, vn 3, vn 4, vn 10])
def Au : N := .op (.idxA 1) [.sl (.n 1) 3, vn 5] (ld 7 (bo .geq [vn 0, vn 8] (.br (vn 9) Ar As)))
def Av : N := bo .lss [vn 5, vi 3] (.br (vn 6) Au (.fin 2 [vn 2, vn 3, vn 4, vn 5]))
def Aw : N := .op .tup [vn 3, vn 4, vn 5] (.fin 1 [vn 7])
def Ay : N := .op .tup [vi 0, vv (.int .i32 0), vv (.bool false)] (.fin 1 [vn 7])
def Az : N := .sw 2 2 Ay .bad
def BA : N := .sw 2 1 Aw Az
def t146 : N := .op (.newSl 21 [(.int .i32 0), (.int .i32 0), (.int .i32 0)] [(0, 1), (1, 1), (2, 1)]) [vv (.int .i32 48), vv (.int .i32 1632), vv (.int .i32 65296)] (.loop [vi 0, vv (.int .i32 0), vv (.bool false), vi 0] Av BA)
def BB : N := bo .add [vn 4, vi 1] (.fin 0 [vn 3, vn 9])
def BC : N := .op (.idxA 1) [vn 0, vn 4] (ld 6 (bo .eql [vn 1, vn 7] (.br (vn 8) (.fin 1 [vn 4, vn 4]) BB)))
def BD : N := bo .lss [vn 4, vn 2] (.br (vn 5) BC (.fin 2 [vn 3, vn 4]))
def BE : N := .sw 3 2 (.fin 1 [vv (.int .i64 (-1))]) .bad
def BF : N := .sw 3 1 (.fin 1 [vn 4]) BE
def t62 : N := .op .lenL [vn 0] (.loop [vi 0, vi 0] BD BF)
def t37 : N := .call 62 [vn 0, vn 1] (bo .geq [vn 2, vi 0] (.fin 1 [vn 3]))
def BG : N := .op .lenS [vn 1] (.op (.subS false true) [vn 0, vn 5] (bo .eql [vn 6, vn 1] (.fin 1 [vn 7])))
def t105 : N := .op .lenS [vn 0] (.op .lenS [vn 1] (bo .geq [vn 2, vn 3] (.br (vn 4) BG (.fin 1 [vv (.bool false)]))))
def t67 : N := .call 105 [vn 0, vn 1] (.fin 1 [vn 2])
def BH : N := bo .add [vn 12, vi 1] (.fin 0 [vn 11, vn 31])
def BI : N := .op (.idxA 4) [vn 1, vn 12] (.op (.fld 0) [vn 27] (ld 28 (bo .eql [vn 29, vv (.int .i32 65533)] (.br (vn 30) (.fin 1 [vv (.bool false), vn 12]) BH))))
def BJ : N := .op (.idxA 4) [vn 1, vn 12] (.op (.fld 0) [vn 23] (ld 24 (bo .eql [vn 25, vv (.int .i32 127)] (.br (vn 26) (.fin 1 [vv (.bool false), vn 12]) BI))))
def BK : N := .op (.idxA 4) [vn 1, vn 12] (.op (.fld 0) [vn 19] (ld 20 (bo .lss [vn 21, vv (.int .i32 32)] (.br (vn 22) (.fin 1 [vv (.bool false), vn 12]) BJ))))
def BL : N := .op (.idxA 4) [vn 1, vn 12] (.op (.fld 0) [vn 15] (ld 16 (.call 130 [vn 17] (.br (vn 18) (.fin 1 [vv (.bool false), vn 12]) BK))))
def BM : N := .op .lenL [vn 1] (bo .lss [vn 12, vn 13] (.br (vn 14) BL (.fin 2 [vn 11, vn 12])))
def BN : N := .call 128 [vn 1] (.op (.ext 0) [vn 14] (.op (.ext 1) [vn 14] (.op (.ext 2) [vn 14] (.op .not [vn 17] (.fin 1 [vn 18])))))
def BO : N := .sw 11 2 BN .bad
def BP : N := .sw 11 1 (.fin 1 [vn 12]) BO
def BQ : N := .loop [vv (.bool false), vi 0] BM BP
def BR : N := bo .eql [vn 0, vv (bs [33])] (.br (vn 10) (.fin 1 [vv (.bool false)]) BQ)
def BS : N := .op (.idxA 4) [vn 1, vi 0] (.op (.fld 0) [vn 6] (ld 7 (bo .eql [vn 8, vv (.int .i32 34)] (.br (vn 9) (.fin 1 [vv (.bool false)]) BR))))
def BT : N := .op .lenL [vn 1] (bo .gtr [vn 4, vi 32] (.br (vn 5) (.fin 1 [vv (.bool false)]) BS))
def t96 : N := .call 95 [vn 0] (.op .lenL [vn 1] (bo .lss [vn 2, vi 1] (.br (vn 3) (.fin 1 [vv (.bool false)]) BT)))
def BU : N := bo .add [vn 3, vi 1] (.fin 0 [vn 2, vn 14])
def BV : N := bo .eql [vn 7, vv (.int .i32 34)] (.br (vn 13) (.fin 1 [vv (.bool false), vn 3]) BU)
def BW : N := bo .add [vn 3, vi 1] (.fin 0 [vn 2, vn 13])
def BX : N := bo .eql [vn 6, vi 0] (.br (vn 12) BV BW)
def BY : N := bo .eql [vn 7, vv (.int .i32 127)] (.br (vn 11) (.fin 1 [vv (.bool false), vn 3]) BX)
def BZ : N := bo .lss [vn 7, vv (.int .i32 32)] (.br (vn 10) (.fin 1 [vv (.bool false), vn 3]) BY)
def B3 : N := .call 157 [vn 7] (.br (vn 9) (.fin 1 [vv (.bool false), vn 3]) BZ)
def B4 : N := .op (.ext 1) [vn 4] (.op (.ext 2) [vn 4] (bo .eql [vn 7, vv (.int .i32 65533)] (.br (vn 8) (.fin 1 [vv (.bool false), vn 3]) B3)))
def B5 : N := .op (.next true) [vn 1] (.op (.ext 0) [vn 4] (.br (vn 5) B4 (.fin 2 [vn 2, vn 3])))
def B6 : N := .op .not [vn 7] (.fin 1 [vn 12])
def B7 : N := bo .neq [vn 0, vv (bs [33])] (.br (vn 11) B6 (.fin 1 [vv (.bool false)]))
def B8 : N := bo .leq [vn 4, vi 32] (.br (vn 10) B7 (.fin 1 [vv (.bool false)]))
def B9 : N := .call 124 [vn 0] (.op (.ext 0) [vn 5] (.op (.ext 1) [vn 5] (.op (.ext 2) [vn 5] (bo .geq [vn 4, vi 1] (.br (vn 9) B8 (.fin 1 [vv (.bool false)]))))))
def Ba : N := .sw 2 2 B9 .bad
def Bb : N := .sw 2 1 (.fin 1 [vn 3]) Ba
def t133 : N := .op (.range true) [vn 0] (.loop [vv (.bool false), vi 0] B5 Bb)
end Go.AM.PV
namespace Go.AM.PV
open Go Go.AM Go.AM.SX
variable (inf : Nat -> TypeInfo)
def Bc : N := bo .add [vn 5, vi 1] (.op (.build [(.int .i32 0), (.int .i64 0), (.int .i64 0), (.bool false)] [(0, 1), (1, 1), (2, 1), (3, 1)]) [vn 6, vn 5, vn 13, vv (.bool true)] (.op (.newSl 151 [(.int .i32 0), (.int .i64 0), (.int .i64 0), (.bool false)] [(0, 4)]) [vn 14] (.op (.app 151 (inf 151) (.agg #[(.int .i32 0), (.int .i64 0), (.int .i64 0), (.bool false)])) [vn 2, .sl (.n 15) 1] (.fin 0 [vn 16]))))
def Bd : N := bo .add [vn 5, vi 1] (.op (.build [(.int .i32 0), (.int .i64 0), (.int .i64 0), (.bool false)] [(0, 1), (1, 1), (2, 1), (3, 1)]) [vn 6, vn 5, vn 15, vv (.bool true)] (.op (.newSl 151 [(.int .i32 0), (.int .i64 0), (.int .i64 0), (.bool false)] [(0, 4)]) [vn 16] (.op (.app 151 (inf 151) (.agg #[(.int .i32 0), (.int .i64 0), (.int .i64 0), (.bool false)])) [vn 2, .sl (.n 17) 1] (.fin 0 [vn 18]))))
def Be : N := .op (.build [(.int .i32 0), (.int .i64 0), (.int .i64 0), (.bool false)] [(0, 1), (1, 1), (2, 1), (3, 1)]) [vn 6, vn 5, vn 9, vv (.bool false)] (.op (.newSl 151 [(.int .i32 0), (.int .i64 0), (.int .i64 0), (.bool false)] [(0, 4)]) [vn 15] (.op (.app 151 (inf 151) (.agg #[(.int .i32 0), (.int .i64 0), (.int .i64 0), (.bool false)])) [vn 2, .sl (.n 16) 1] (.fin 0 [vn 17])))
def Bf : N := .op (.subS true true) [vn 0, vn 5, vn 9] (bo .neq [vn 13, vv (bs [239, 191, 189])] (.br (vn 14) (Bd inf) (Be inf)))
def Bg : N := .op .lenS [vn 0] (bo .gtr [vn 9, vn 11] (.br (vn 12) (Bc inf) (Bf inf)))
def Bh : N := .op (.build [(.int .i32 0), (.int .i64 0), (.int .i64 0), (.bool false)] [(0, 1), (1, 1), (2, 1), (3, 1)]) [vn 6, vn 5, vn 9, vv (.bool false)] (.op (.newSl 151 [(.int .i32 0), (.int .i64 0), (.int .i64 0), (.bool false)] [(0, 4)]) [vn 11] (.op (.app 151 (inf 151) (.agg #[(.int .i32 0), (.int .i64 0), (.int .i64 0), (.bool false)])) [vn 2, .sl (.n 12) 1] (.fin 0 [vn 13])))
def Bi : N := .op (.ext 1) [vn 3] (.op (.ext 2) [vn 3] (.op .runeStr [vn 6] (.op .lenS [vn 7] (bo .add [vn 5, vn 8] (bo .eql [vn 6, vv (.int .i32 65533)] (.br (vn 10) (Bg inf) (Bh inf)))))))
def Bj : N := .op (.next true) [vn 1] (.op (.ext 0) [vn 3] (.br (vn 4) (Bi inf) (.fin 2 [vn 2])))
def Bk : N := .sw 2 2 (.fin 1 [vn 3]) .bad
def t95 : N := .op (.range true) [vn 0] (.loop [vv (.slice none 0 0)] (Bj inf) Bk)
def Bl : N := .op (.idxA 4) [vn 1, vn 3] (.op (.fld 1) [vn 9] (ld 10 (.fin 1 [vn 11, vn 3])))
def Bm : N := bo .add [vn 3, vi 1] (.fin 0 [vn 2, vn 9])
def Bn : N := .op (.idxA 4) [vn 1, vn 3] (.op (.fld 3) [vn 6] (ld 7 (.br (vn 8) Bl Bm)))
def Bp : N := .op .lenL [vn 1] (bo .lss [vn 3, vn 4] (.br (vn 5) Bn (.fin 2 [vn 2, vn 3])))
def Bq : N := .sw 2 2 (.fin 1 [vv (.int .i64 (-1))]) .bad
def Br : N := .sw 2 1 (.fin 1 [vn 3]) Bq
def t56 : N := .call 95 [vn 0] (.loop [vi 0, vi 0] Bp Br)
end Go.AM.PV
namespace Go.AM.PV
open Go Go.AM Go.AM.SX
inductive V where
 | mk (k n : Int) (s : ByteArray) (l : List V)
mutual
inductive Val where
 | nil
 | int (n : Int)
 | str (s : ByteArray)
 | bool (b : Bool)
 | list (l : List Val)
 | quot (l : List Itm)
 | box (n : Int)
inductive Itm where
 | nil
 | push (v : Val)
 | call (s : ByteArray)
end
mutual
def V.sz : V -> Nat
 | .mk _ _ s l => s.size + V.szs l + 1
def V.szs : List V -> Nat
 | [] => 0
 | v :: l => v.sz + V.szs l
end
mutual
def V.val : V -> Val
 | .mk k n s l => if k = 1 then .int n else if k = 2 then .str s else if k = 3 then .bool (n != 0) else if k = 4 then .list (V.vals l) else if k = 5 then .quot (V.itms l) else if k = 6 then .box n else .nil
def V.vals : List V -> List Val
 | [] => []
 | v :: l => v.val :: V.vals l
def V.itm : V -> Itm
 | .mk k n s l => if k = 7 then .call s else if k < 1 then .nil else if k > 6 then .nil else
  .push (if k = 1 then .int n else if k = 2 then .str s else if k = 3 then .bool (n != 0) else if k = 4 then .list (V.vals l) else if k = 5 then .quot (V.itms l) else if k = 6 then .box n else .nil)
def V.itms : List V -> List Itm
 | [] => []
 | v :: l => v.itm :: V.itms l
end
theorem V.itm_eq (v : V) : v.itm = match v with | .mk k _ s _ => if k = 7 then .call s else if k < 1 then .nil else if k > 6 then .nil else .push v.val := by
 cases v; simp only [V.itm, V.val]
mutual
def Val.tree : Val -> V
 | .nil => .mk 8 0 ⟨#[]⟩ []
 | .int n => .mk 1 n ⟨#[]⟩ []
 | .str s => .mk 2 0 s []
 | .bool b => .mk 3 (if b then 1 else 0) ⟨#[]⟩ []
 | .list l => .mk 4 0 ⟨#[]⟩ (Val.trees l)
 | .quot l => .mk 5 0 ⟨#[]⟩ (Itm.trees l)
 | .box n => .mk 6 n ⟨#[]⟩ []
def Val.trees : List Val -> List V
 | [] => []
 | v :: l => v.tree :: Val.trees l
def Itm.tree : Itm -> V
 | .nil => .mk 8 0 ⟨#[]⟩ []
 | .push v => v.tree
 | .call s => .mk 7 0 s []
def Itm.trees : List Itm -> List V
 | [] => []
 | v :: l => v.tree :: Itm.trees l
end
abbrev I (n : Int) : P := .c (.int .i64 n)
abbrev Bo (b : Bool) : P := .c (.bool b)
abbrev St (s : ByteArray) : P := .c (.string s)
mutual
def V.p : V -> List P
 | .mk k n s l => [I k, I n, St s, .sl 4 l.length (V.ps l)]
def V.ps : List V -> List P
 | [] => []
 | v :: l => v.p ++ V.ps l
end
abbrev Bs : Nat := 45
abbrev Bt : Nat := 72
abbrev Bu : Nat := 49
abbrev rD : Nat := 52
abbrev Bv : Nat := 76
abbrev Bw : Nat := 78
abbrev Bx : Nat := 134
abbrev By : Nat := 153
abbrev dE : Nat := 41
abbrev dF : Nat := 100
abbrev tV : Nat := 35
mutual
def Val.p : Val -> P
 | .nil => .c .nilIface
 | .int n => .ifc Bs (.agg [I n])
 | .str s => .ifc Bt (.agg [St s])
 | .bool b => .ifc Bu (.agg [Bo b])
 | .list l => .ifc rD (.agg [.sl 1 l.length (Val.ps l)])
 | .quot l => .ifc Bv (.agg [.sl 1 l.length (Itm.ps l)])
 | .box n => .ifc Bw (.agg [I n])
def Val.ps : List Val -> List P
 | [] => []
 | v :: l => v.p :: Val.ps l
def Itm.p : Itm -> P
 | .nil => .c .nilIface
 | .push v => .ifc Bx (.agg [v.p])
 | .call s => .ifc By (.agg [St s])
def Itm.ps : List Itm -> List P
 | [] => []
 | v :: l => v.p :: Itm.ps l
end
theorem V.p_length (v : V) : v.p.length = 4 := by cases v; rfl
theorem V.ps_length : ∀ l : List V, (V.ps l).length = l.length * 4
 | [] => rfl
 | v :: l => by simp only [V.ps, List.length_append, V.p_length, V.ps_length l, List.length_cons]; omega
theorem V.ps_at : ∀ (l : List V) (i : Nat) (v : V), l[i]? = some v -> ((V.ps l).drop (i * 4)).take 4 = v.p
 | [], i, v, h => by simp at h
 | w :: l, 0, v, h => by
  simp only [List.getElem?_cons_zero, Option.some.injEq] at h
  subst h
  simp only [V.ps, Nat.zero_mul, List.drop_zero]
  rw [List.take_append_of_le_length (by rw [V.p_length]; exact Nat.le_refl 4), List.take_of_length_le (by rw [V.p_length]; exact Nat.le_refl 4)]
 | w :: l, i + 1, v, h => by
  simp only [List.getElem?_cons_succ] at h
  simp only [V.ps]
  rw [List.drop_append, List.drop_of_length_le (by rw [V.p_length]; omega), List.nil_append, V.p_length, show (i + 1) * 4 - 4 = i * 4 by omega]
  exact V.ps_at l i v h
theorem V.ps_append : ∀ (l m : List V), V.ps (l ++ m) = V.ps l ++ V.ps m
 | [], _ => rfl
 | v :: l, m => by simp only [V.ps, List.cons_append, V.ps_append l m, List.append_assoc]
theorem Val.ps_map : ∀ l : List Val, Val.ps l = l.map Val.p
 | [] => rfl
 | v :: l => by simp only [Val.ps, List.map_cons, Val.ps_map l]
theorem Itm.ps_map : ∀ l : List Itm, Itm.ps l = l.map Itm.p
 | [] => rfl
 | v :: l => by simp only [Itm.ps, List.map_cons, Itm.ps_map l]
theorem V.vals_map : ∀ l : List V, V.vals l = l.map V.val
 | [] => rfl
 | v :: l => by simp only [V.vals, List.map_cons, V.vals_map l]
theorem V.itms_map : ∀ l : List V, V.itms l = l.map V.itm
 | [] => rfl
 | v :: l => by simp only [V.itms, List.map_cons, V.itms_map l]
theorem Val.trees_map : ∀ l : List Val, Val.trees l = l.map Val.tree
 | [] => rfl
 | v :: l => by simp only [Val.trees, List.map_cons, Val.trees_map l]
theorem Itm.trees_map : ∀ l : List Itm, Itm.trees l = l.map Itm.tree
 | [] => rfl
 | v :: l => by simp only [Itm.trees, List.map_cons, Itm.trees_map l]
mutual
theorem dV : ∀ v : Val, okm 0 v.p = true
 | .nil => rfl
 | .int n => rfl
 | .str s => rfl
 | .bool b => rfl
 | .box n => rfl
 | .list l => by simp only [Val.p, okm, okm.okL, bw l, Bool.and_self]
 | .quot l => by simp only [Val.p, okm, okm.okL, du l, Bool.and_self]
theorem bw : ∀ l : List Val, okm.okL 0 (Val.ps l) = true
 | [] => rfl
 | v :: l => by simp only [Val.ps, okm.okL, dV v, bw l, Bool.and_self]
theorem rE : ∀ v : Itm, okm 0 v.p = true
 | .nil => rfl
 | .push v => by simp only [Itm.p, okm, okm.okL, dV v, Bool.and_self]
 | .call s => rfl
theorem du : ∀ l : List Itm, okm.okL 0 (Itm.ps l) = true
 | [] => rfl
 | v :: l => by simp only [Itm.ps, okm.okL, rE v, du l, Bool.and_self]
end
theorem rF (i : Nat) : ∀ l m : List P, okm.okL i (l ++ m) = (okm.okL i l && okm.okL i m)
 | [], m => by simp [okm.okL]
 | p :: l, m => by simp only [List.cons_append, okm.okL, rF i l m, Bool.and_assoc]
mutual
theorem cX : ∀ v : V, okm.okL 0 v.p = true
 | .mk k n s l => by simp only [V.p, okm, okm.okL, dv l, Bool.and_self]
theorem dv : ∀ l : List V, okm.okL 0 (V.ps l) = true
 | [] => rfl
 | v :: l => by simp only [V.ps, rF, cX v, dv l, Bool.and_self]
end
theorem iv (v : Val) : aW v.p = [v.p] := by cases v <;> rfl
theorem Bz (v : Itm) : aW v.p = [v.p] := by cases v <;> rfl
theorem gi (v : Val) : cL v.p = true := by cases v <;> rfl
theorem CA (v : Itm) : cL v.p = true := by cases v <;> rfl
theorem bL (v : Val) : fz v.p = v.p := by cases v <;> rfl
theorem mX (v : Itm) : fz v.p = v.p := by cases v <;> rfl
theorem rG {E : Env} {gl : List GRow} {k : N} {m : Nat} {rv : Rv} {d : Bool} {hs : List Nat} {ps : List P} {μ : Mu} {Q : aU} {xs : List X} {t : TypeId} {v : V} {z : List Value} (h : denF ps xs = some [.agg v.p]) (hz : z.length = 4) (hk : pz E gl k m rv d hs (ps ++ [.lit v.p]) μ Q) : pz E gl (.op (.newSl t z [(0, 4)]) xs k) m rv d hs ps μ Q := by
 refine ⟨_, .lit v.p, μ, h, ?_, hk⟩
 obtain ⟨k, n, s, l⟩ := v
 match z, hz with
 | [a, b, c, d], _ => rfl
end Go.AM.PV
namespace Go.AM.PV
open Go Go.AM Go.AM.SX
attribute [local irreducible] pz aY
section
variable {E : Env} {gl : List GRow} {cfg : Cfg} {fuel : Nat}
theorem CB (hE : SxEnv E) (h19 : aC E cfg fuel 19 1 = some t19) {k n : Int} {s : ByteArray} {l : List V}
  (h12 : k = 4 -> ∀ μ, PR E gl 12 [.sl 4 l.length (V.ps l)] μ (.ow dE 1 (V.vals l).length (Val.ps (V.vals l))) μ)
  (h34 : k = 5 -> ∀ μ, PR E gl 34 [.sl 4 l.length (V.ps l)] μ (.ow dF 1 (V.itms l).length (Itm.ps (V.itms l))) μ) :
  PR E gl 19 [.agg (V.p (.mk k n s l))] [] (V.val (.mk k n s l)).p [] := by
 refine fnZ hE (cfg := cfg) (fuel := fuel) h19 (by kernel_rfl) ?_
 unfold t19
 dsimp only [V.p]
 try refine aA ?_
 refine aG rfl (fun hk => ?_) (fun h1 => ?_)
 ·obtain rfl : k = 1 := by simpa using hk
  try refine aA ?_
  exact aE 0 rfl (Nat.le_refl _) rfl rfl ⟨rfl, rfl⟩
 try refine aA ?_
 refine aG rfl (fun hk => ?_) (fun h2 => ?_)
 ·obtain rfl : k = 2 := by simpa using hk
  try refine aA ?_
  exact aE 0 rfl (Nat.le_refl _) rfl rfl ⟨rfl, rfl⟩
 try refine aA ?_
 refine aG rfl (fun hk => ?_) (fun h3 => ?_)
 ·obtain rfl : k = 3 := by simpa using hk
  try refine aA ?_
  exact aE 0 rfl (Nat.le_refl _) rfl rfl ⟨rfl, rfl⟩
 try refine aA ?_
 refine aG rfl (fun hk => ?_) (fun h4 => ?_)
 ·obtain rfl : k = 4 := by simpa using hk
  replace h12 := h12 rfl
  clear h34
  try refine aA ?_
  exact aE 0 rfl (Nat.le_refl _) (by try dsimp only [go_sem]; simp only [okm.okL, okm, bw, Bool.and_self]) rfl ⟨rfl, rfl⟩
 try refine aA ?_
 refine aG rfl (fun hk => ?_) (fun h5 => ?_)
 ·obtain rfl : k = 5 := by simpa using hk
  replace h34 := h34 rfl
  clear h12
  try refine aA ?_
  exact aE 0 rfl (Nat.le_refl _) (by try dsimp only [go_sem]; simp only [okm.okL, okm, du, Bool.and_self]) rfl ⟨rfl, rfl⟩
 try refine aA ?_
 refine aG rfl (fun hk => ?_) (fun h6 => ?_)
 ·obtain rfl : k = 6 := by simpa using hk
  try refine aA ?_
  exact aE 0 rfl (Nat.le_refl _) rfl rfl ⟨rfl, rfl⟩
 simp only [decide_eq_false_iff_not] at h1 h2 h3 h4 h5 h6
 refine aE 0 rfl (Nat.le_refl _) rfl rfl ⟨?_, rfl⟩
 simp only [V.val, if_neg h1, if_neg h2, if_neg h3, if_neg h4, if_neg h5, if_neg h6]
 rfl
theorem rH (hE : SxEnv E) {inf : Nat -> TypeInfo} (h12 : aC E cfg fuel 12 1 = some (t12 inf)) (hi1 : (inf 41).size = 1) (hi2 : (inf 41).bytes = 16) {l : List V} (hlen : l.length <= 1048576)
  (h19 : ∀ v, v ∈ l -> PR E gl 19 [.agg v.p] [] v.val.p []) : PR E gl 12 [.sl 4 l.length (V.ps l)] [] (.ow dE 1 (V.vals l).length (Val.ps (V.vals l))) [] := by
 refine fnZ hE (cfg := cfg) (fuel := fuel) h12 (by kernel_rfl) ?_
 unfold t12
 refine ah (fun κ vs ν => ν = [] /\ ∃ i, κ = l.length - i /\ i <= l.length /\ vs = [.ow dE 1 i (Val.ps (V.vals (l.take i))), .c (.int .i64 i)]) rfl l.length
  [.ow dE 1 0 [], .c (.int .i64 (0 : Nat))] (.cons _ _ _ _ (.nilow _ _) (.cons _ _ _ _ (.refl _) .nil)) ⟨rfl, 0, by omega, by omega, rfl⟩ ?_
 rintro κ vs ν ⟨rfl, i, rfl, hi, rfl⟩
 try dsimp only [go_sem]
 try refine aA ?_
 refine aG rfl (fun hlt => ?_) (fun hge => ?_)
 ·have hlt : i < l.length := by have := of_decide_eq_true hlt; omega
  obtain ⟨v, hv⟩ : ∃ v, l[i]? = some v := ⟨l[i], List.getElem?_eq_getElem hlt⟩
  refine ax rfl hlt ?_
  try dsimp only [go_sem]
  refine gg rfl (by rw [V.ps_length]; omega) ?_
  rw [V.ps_at l i v hv]
  try dsimp only [go_sem]
  refine aI rfl (h19 v (List.mem_of_getElem? hv)) (Nat.le_refl _) ?_
  try dsimp only [go_sem]
  refine kI rfl (bL _) (iv _) (gi _) ?_
  try dsimp only [go_sem]
  refine cW rfl rfl rfl hi1 rfl rfl rfl rfl (by rw [hi2]; omega) (by omega) ?_
  try dsimp only [go_sem]
  refine kH rfl (by omega) ?_
  try dsimp only [go_sem]
  refine aF rfl ?_
  try dsimp only [go_sem]
  refine ⟨l.length - (i + 1), by omega, rfl, i + 1, rfl, by omega, ?_⟩
  rw [gy hv, V.vals_map, V.vals_map, Val.ps_map, Val.ps_map]
  simp only [List.map_append, List.map_cons, List.map_nil]
 ·have hge : i = l.length := by have := of_decide_eq_false hge; omega
  subst hge
  refine aF rfl ?_
  try dsimp only [go_sem]
  try refine aA ?_
  refine aF rfl ⟨?_, rfl⟩
  rw [List.take_length]
  have : (V.vals l).length = l.length := by rw [V.vals_map, List.length_map]
  rw [this]
  rfl
theorem CC (hE : SxEnv E) {inf : Nat -> TypeInfo} (h34 : aC E cfg fuel 34 1 = some (t34 inf)) (hi1 : (inf 100).size = 1) (hi2 : (inf 100).bytes = 16) {l : List V} (hlen : l.length <= 1048576)
  (h58 : ∀ v, v ∈ l -> PR E gl 58 [.agg v.p] [] v.itm.p []) : PR E gl 34 [.sl 4 l.length (V.ps l)] [] (.ow dF 1 (V.itms l).length (Itm.ps (V.itms l))) [] := by
 refine fnZ hE (cfg := cfg) (fuel := fuel) h34 (by kernel_rfl) ?_
 unfold t34
 refine ah (fun κ vs ν => ν = [] /\ ∃ i, κ = l.length - i /\ i <= l.length /\ vs = [.ow dF 1 i (Itm.ps (V.itms (l.take i))), .c (.int .i64 i)]) rfl l.length
  [.ow dF 1 0 [], .c (.int .i64 (0 : Nat))] (.cons _ _ _ _ (.nilow _ _) (.cons _ _ _ _ (.refl _) .nil)) ⟨rfl, 0, by omega, by omega, rfl⟩ ?_
 rintro κ vs ν ⟨rfl, i, rfl, hi, rfl⟩
 try dsimp only [go_sem]
 try refine aA ?_
 refine aG rfl (fun hlt => ?_) (fun hge => ?_)
 ·have hlt : i < l.length := by have := of_decide_eq_true hlt; omega
  obtain ⟨v, hv⟩ : ∃ v, l[i]? = some v := ⟨l[i], List.getElem?_eq_getElem hlt⟩
  refine ax rfl hlt ?_
  try dsimp only [go_sem]
  refine gg rfl (by rw [V.ps_length]; omega) ?_
  rw [V.ps_at l i v hv]
  try dsimp only [go_sem]
  refine aI rfl (h58 v (List.mem_of_getElem? hv)) (Nat.le_refl _) ?_
  try dsimp only [go_sem]
  refine kI rfl (mX _) (Bz _) (CA _) ?_
  try dsimp only [go_sem]
  refine cW rfl rfl rfl hi1 rfl rfl rfl rfl (by rw [hi2]; omega) (by omega) ?_
  try dsimp only [go_sem]
  refine kH rfl (by omega) ?_
  try dsimp only [go_sem]
  refine aF rfl ?_
  try dsimp only [go_sem]
  refine ⟨l.length - (i + 1), by omega, rfl, i + 1, rfl, by omega, ?_⟩
  rw [gy hv, V.itms_map, V.itms_map, Itm.ps_map, Itm.ps_map]
  simp only [List.map_append, List.map_cons, List.map_nil]
 ·have hge : i = l.length := by have := of_decide_eq_false hge; omega
  subst hge
  refine aF rfl ?_
  try dsimp only [go_sem]
  try refine aA ?_
  refine aF rfl ⟨?_, rfl⟩
  rw [List.take_length]
  have : (V.itms l).length = l.length := by rw [V.itms_map, List.length_map]
  rw [this]
  rfl
theorem CD (hE : SxEnv E) (h58 : aC E cfg fuel 58 1 = some t58) {v : V} (h19 : PR E gl 19 [.agg v.p] [] v.val.p []) : PR E gl 58 [.agg v.p] [] v.itm.p [] := by
 obtain ⟨k, n, s, l⟩ := v
 rw [V.itm_eq]
 refine fnZ hE (cfg := cfg) (fuel := fuel) h58 (by kernel_rfl) ?_
 unfold t58
 dsimp only [V.p] at h19 ⊢
 try refine aA ?_
 refine aG rfl (fun hk => ?_) (fun h7 => ?_)
 ·obtain rfl : k = 7 := by simpa using hk
  try refine aA ?_
  exact aE 0 rfl (Nat.le_refl _) rfl rfl ⟨rfl, rfl⟩
 have h7 : k ≠ 7 := by simpa using h7
 try refine aA ?_
 refine aG rfl (fun hk => ?_) (fun h1 => ?_)
 ·have hk : k < 1 := of_decide_eq_true hk
  refine aE 0 rfl (Nat.le_refl _) rfl rfl ⟨?_, rfl⟩
  simp only [if_neg h7, if_pos hk]
  rfl
 have h1 : ¬ k < 1 := of_decide_eq_false h1
 try refine aA ?_
 refine aG rfl (fun hk => ?_) (fun h6 => ?_)
 ·have hk : k > 6 := of_decide_eq_true hk
  refine aE 0 rfl (Nat.le_refl _) rfl rfl ⟨?_, rfl⟩
  simp only [if_neg h7, if_neg h1, if_pos hk]
  rfl
 have h6 : ¬ k > 6 := of_decide_eq_false h6
 try refine aA ?_
 refine aI rfl (h19.frame ?_ _) (Nat.le_refl _) ?_
 ·simp only [okm.okL, okm, dv, Bool.and_self]
 try dsimp only [go_sem]
 refine qG rfl (bL _) (iv _) ?_
 try dsimp only [go_sem]
 refine aE 0 rfl (Nat.le_refl _) ?_ rfl ⟨?_, rfl⟩
 ·try dsimp only [go_sem]
  simp only [okm.okL, okm, dV, Bool.and_self]
 ·simp only [if_neg h7, if_neg h1, if_neg h6]
  rfl
theorem rI (hE : SxEnv E) {inf : Nat -> TypeInfo} (h11 : aC E cfg fuel 11 1 = some (t11 inf)) (hi1 : (inf 35).size = 4) (hi2 : (inf 35).bytes = 56) {l : List Val} (hlen : l.length <= 1048576)
  (h20 : ∀ v, v ∈ l -> PR E gl 20 [v.p] [] (.agg v.tree.p) []) : PR E gl 11 [.sl 1 l.length (Val.ps l)] [] (.ow tV 4 (Val.trees l).length (V.ps (Val.trees l))) [] := by
 refine fnZ hE (cfg := cfg) (fuel := fuel) h11 (by kernel_rfl) ?_
 unfold t11
 refine ah (fun κ vs ν => ν = [] /\ ∃ i, κ = l.length - i /\ i <= l.length /\ vs = [.ow tV 4 i (V.ps (Val.trees (l.take i))), .c (.int .i64 i)]) rfl l.length
  [.ow tV 4 0 [], .c (.int .i64 (0 : Nat))] (.cons _ _ _ _ (.nilow _ _) (.cons _ _ _ _ (.refl _) .nil)) ⟨rfl, 0, by omega, by omega, rfl⟩ ?_
 rintro κ vs ν ⟨rfl, i, rfl, hi, rfl⟩
 try dsimp only [go_sem]
 try refine aA ?_
 refine aG rfl (fun hlt => ?_) (fun hge => ?_)
 ·have hlt : i < l.length := by have := of_decide_eq_true hlt; omega
  obtain ⟨v, hv⟩ : ∃ v, l[i]? = some v := ⟨l[i], List.getElem?_eq_getElem hlt⟩
  refine ax rfl hlt ?_
  try dsimp only [go_sem]
  refine bG rfl (p := v.p) (by rw [Val.ps_map, Nat.mul_one, List.getElem?_map, hv]; rfl) ?_
  try dsimp only [go_sem]
  refine aI (as := [v.p]) (by show some [fz v.p] = some [v.p]; rw [bL]) (h20 v (List.mem_of_getElem? hv)) (Nat.le_refl _) ?_
  try dsimp only [go_sem]
  refine rG rfl rfl ?_
  try dsimp only [go_sem]
  refine cW rfl rfl rfl hi1 rfl (V.p_length _) rfl rfl (by rw [hi2]; omega) (by omega) ?_
  try dsimp only [go_sem]
  refine kH rfl (by omega) ?_
  try dsimp only [go_sem]
  refine aF rfl ?_
  try dsimp only [go_sem]
  refine ⟨l.length - (i + 1), by omega, rfl, i + 1, rfl, by omega, ?_⟩
  rw [gy hv, Val.trees_map, Val.trees_map, List.map_append, V.ps_append]
  simp only [List.map_cons, List.map_nil, V.ps, List.append_nil]
 ·have hge : i = l.length := by have := of_decide_eq_false hge; omega
  subst hge
  refine aF rfl ?_
  try dsimp only [go_sem]
  try refine aA ?_
  refine aF rfl ⟨?_, rfl⟩
  rw [List.take_length]
  have : (Val.trees l).length = l.length := by rw [Val.trees_map, List.length_map]
  rw [this]
  rfl
theorem CE (hE : SxEnv E) {inf : Nat -> TypeInfo} (h35 : aC E cfg fuel 35 1 = some (t35 inf)) (hi1 : (inf 35).size = 4) (hi2 : (inf 35).bytes = 56) {l : List Itm} (hlen : l.length <= 1048576)
  (h59 : ∀ v, v ∈ l -> PR E gl 59 [v.p] [] (.agg v.tree.p) []) : PR E gl 35 [.sl 1 l.length (Itm.ps l)] [] (.ow tV 4 (Itm.trees l).length (V.ps (Itm.trees l))) [] := by
 refine fnZ hE (cfg := cfg) (fuel := fuel) h35 (by kernel_rfl) ?_
 unfold t35
 refine ah (fun κ vs ν => ν = [] /\ ∃ i, κ = l.length - i /\ i <= l.length /\ vs = [.ow tV 4 i (V.ps (Itm.trees (l.take i))), .c (.int .i64 i)]) rfl l.length
  [.ow tV 4 0 [], .c (.int .i64 (0 : Nat))] (.cons _ _ _ _ (.nilow _ _) (.cons _ _ _ _ (.refl _) .nil)) ⟨rfl, 0, by omega, by omega, rfl⟩ ?_
 rintro κ vs ν ⟨rfl, i, rfl, hi, rfl⟩
 try dsimp only [go_sem]
 try refine aA ?_
 refine aG rfl (fun hlt => ?_) (fun hge => ?_)
 ·have hlt : i < l.length := by have := of_decide_eq_true hlt; omega
  obtain ⟨v, hv⟩ : ∃ v, l[i]? = some v := ⟨l[i], List.getElem?_eq_getElem hlt⟩
  refine ax rfl hlt ?_
  try dsimp only [go_sem]
  refine bG rfl (p := v.p) (by rw [Itm.ps_map, Nat.mul_one, List.getElem?_map, hv]; rfl) ?_
  try dsimp only [go_sem]
  refine aI (as := [v.p]) (by show some [fz v.p] = some [v.p]; rw [mX]) (h59 v (List.mem_of_getElem? hv)) (Nat.le_refl _) ?_
  try dsimp only [go_sem]
  refine rG rfl rfl ?_
  try dsimp only [go_sem]
  refine cW rfl rfl rfl hi1 rfl (V.p_length _) rfl rfl (by rw [hi2]; omega) (by omega) ?_
  try dsimp only [go_sem]
  refine kH rfl (by omega) ?_
  try dsimp only [go_sem]
  refine aF rfl ?_
  try dsimp only [go_sem]
  refine ⟨l.length - (i + 1), by omega, rfl, i + 1, rfl, by omega, ?_⟩
  rw [gy hv, Itm.trees_map, Itm.trees_map, List.map_append, V.ps_append]
  simp only [List.map_cons, List.map_nil, V.ps, List.append_nil]
 ·have hge : i = l.length := by have := of_decide_eq_false hge; omega
  subst hge
  refine aF rfl ?_
  try dsimp only [go_sem]
  try refine aA ?_
  refine aF rfl ⟨?_, rfl⟩
  rw [List.take_length]
  have : (Itm.trees l).length = l.length := by rw [Itm.trees_map, List.length_map]
  rw [this]
  rfl
theorem fU (hE : SxEnv E) (h20 : aC E cfg fuel 20 1 = some t20) {v : Val}
  (h11 : ∀ l, v = .list l -> PR E gl 11 [.sl 1 l.length (Val.ps l)] [] (.ow tV 4 (Val.trees l).length (V.ps (Val.trees l))) [])
  (h35 : ∀ l, v = .quot l -> PR E gl 35 [.sl 1 l.length (Itm.ps l)] [] (.ow tV 4 (Itm.trees l).length (V.ps (Itm.trees l))) []) :
  PR E gl 20 [v.p] [] (.agg v.tree.p) [] := by
 refine fnZ hE (cfg := cfg) (fuel := fuel) h20 (by kernel_rfl) ?_
 unfold t20
 cases v with
 | nil =>
  dsimp only [Val.p]
  try refine aA ?_
  exact a7 0 rfl (LeL.one (.agg _ _ (.cons _ _ _ _ (.refl _) (.cons _ _ _ _ (.refl _) (.cons _ _ _ _ (.refl _) (.cons _ _ _ _ (.nil 4) .nil)))))) (Nat.le_refl _) rfl rfl ⟨rfl, rfl⟩
 | int n =>
  dsimp only [Val.p]
  try refine aA ?_
  exact a7 0 rfl (LeL.one (.agg _ _ (.cons _ _ _ _ (.refl _) (.cons _ _ _ _ (.refl _) (.cons _ _ _ _ (.refl _) (.cons _ _ _ _ (.nil 4) .nil)))))) (Nat.le_refl _) rfl rfl ⟨rfl, rfl⟩
 | str s =>
  dsimp only [Val.p]
  try refine aA ?_
  exact a7 0 rfl (LeL.one (.agg _ _ (.cons _ _ _ _ (.refl _) (.cons _ _ _ _ (.refl _) (.cons _ _ _ _ (.refl _) (.cons _ _ _ _ (.nil 4) .nil)))))) (Nat.le_refl _) rfl rfl ⟨rfl, rfl⟩
 | bool b =>
  dsimp only [Val.p]
  try refine aA ?_
  cases b <;> (
   try refine aA ?_
   exact a7 0 rfl (LeL.one (.agg _ _ (.cons _ _ _ _ (.refl _) (.cons _ _ _ _ (.refl _) (.cons _ _ _ _ (.refl _) (.cons _ _ _ _ (.nil 4) .nil)))))) (Nat.le_refl _) rfl rfl ⟨rfl, rfl⟩)
 | box n =>
  dsimp only [Val.p]
  try refine aA ?_
  exact a7 0 rfl (LeL.one (.agg _ _ (.cons _ _ _ _ (.refl _) (.cons _ _ _ _ (.refl _) (.cons _ _ _ _ (.refl _) (.cons _ _ _ _ (.nil 4) .nil)))))) (Nat.le_refl _) rfl rfl ⟨rfl, rfl⟩
 | list l =>
  dsimp only [Val.p]
  replace h11 := fun μ => (h11 l rfl).frame (by simp only [okm.okL, okm, bw, Bool.and_self]) μ
  clear h35
  try refine aA ?_
  exact aE 0 rfl (Nat.le_refl _) (show okm.okL 0 [.agg (Val.list l).tree.p] = true by simp only [okm.okL, okm, cX, Bool.and_self]) rfl ⟨rfl, rfl⟩
 | quot l =>
  dsimp only [Val.p]
  replace h35 := fun μ => (h35 l rfl).frame (by simp only [okm.okL, okm, du, Bool.and_self]) μ
  clear h11
  try refine aA ?_
  exact aE 0 rfl (Nat.le_refl _) (show okm.okL 0 [.agg (Val.quot l).tree.p] = true by simp only [okm.okL, okm, cX, Bool.and_self]) rfl ⟨rfl, rfl⟩
theorem mY (hE : SxEnv E) (h59 : aC E cfg fuel 59 1 = some t59) {v : Itm} (h20 : ∀ w, v = .push w -> PR E gl 20 [w.p] [] (.agg w.tree.p) []) : PR E gl 59 [v.p] [] (.agg v.tree.p) [] := by
 refine fnZ hE (cfg := cfg) (fuel := fuel) h59 (by kernel_rfl) ?_
 unfold t59
 cases v with
 | nil =>
  dsimp only [Itm.p]
  try refine aA ?_
  exact a7 0 rfl (LeL.one (.agg _ _ (.cons _ _ _ _ (.refl _) (.cons _ _ _ _ (.refl _) (.cons _ _ _ _ (.refl _) (.cons _ _ _ _ (.nil 4) .nil)))))) (Nat.le_refl _) rfl rfl ⟨rfl, rfl⟩
 | call s =>
  dsimp only [Itm.p]
  try refine aA ?_
  exact a7 0 rfl (LeL.one (.agg _ _ (.cons _ _ _ _ (.refl _) (.cons _ _ _ _ (.refl _) (.cons _ _ _ _ (.refl _) (.cons _ _ _ _ (.nil 4) .nil)))))) (Nat.le_refl _) rfl rfl ⟨rfl, rfl⟩
 | push w =>
  dsimp only [Itm.p]
  try refine aA ?_
  refine kJ rfl rfl rfl (by show (cL w.p && true) = true; rw [gi]; rfl) (by decide) ?_
  try dsimp only [go_sem]
  try refine aA ?_
  refine aI (as := [w.p]) (by show some [fz (fz w.p)] = some [w.p]; rw [bL, bL]) ((h20 w rfl).frame ?_ _) (Nat.le_refl _) ?_
  ·simp only [okm.okL, dV, Bool.and_self]
  try dsimp only [go_sem]
  show pz E gl _ _ _ _ _ _ _ (fun _ outs μ1 => outs = [P.agg w.tree.p] /\ μ1 = [])
  generalize w.tree = t
  obtain ⟨k, n, s, l⟩ := t
  dsimp only [V.p]
  try refine aA ?_
  refine aE 0 rfl (Nat.le_refl _) ?_ rfl ⟨rfl, rfl⟩
  show okm.okL 0 [.agg (V.mk k n s l).p] = true
  simp only [okm.okL, okm, cX, Bool.and_self]
structure ConvT (E : Env) (inf : Nat -> TypeInfo) (cfg : Cfg) (fuel : Nat) : Prop where
 t19 : aC E cfg fuel 19 1 = some t19
 t12 : aC E cfg fuel 12 1 = some (t12 inf)
 t58 : aC E cfg fuel 58 1 = some t58
 t34 : aC E cfg fuel 34 1 = some (t34 inf)
 t20 : aC E cfg fuel 20 1 = some t20
 t11 : aC E cfg fuel 11 1 = some (t11 inf)
 t59 : aC E cfg fuel 59 1 = some t59
 t35 : aC E cfg fuel 35 1 = some (t35 inf)
 val1 : (inf 41).size = 1
 val2 : (inf 41).bytes = 16
 itm1 : (inf 100).size = 1
 itm2 : (inf 100).bytes = 16
 v1 : (inf 35).size = 4
 v2 : (inf 35).bytes = 56
mutual
def V.small (n : Nat) : V -> Prop
 | .mk _ _ s l => l.length <= n /\ V.smalls n l /\ s.size <= n
def V.smalls (n : Nat) : List V -> Prop
 | [] => True
 | v :: l => v.small n /\ V.smalls n l
end
mutual
def Val.small (n : Nat) : Val -> Prop
 | .list l => l.length <= n /\ Val.smalls n l
 | .quot l => l.length <= n /\ Itm.smalls n l
 | .str s => s.size <= n
 | _ => True
def Val.smalls (n : Nat) : List Val -> Prop
 | [] => True
 | v :: l => v.small n /\ Val.smalls n l
def Itm.small (n : Nat) : Itm -> Prop
 | .push v => v.small n
 | .call s => s.size <= n
 | _ => True
def Itm.smalls (n : Nat) : List Itm -> Prop
 | [] => True
 | v :: l => v.small n /\ Itm.smalls n l
end
mutual
theorem CF (hE : SxEnv E) {inf : Nat -> TypeInfo} (T : ConvT E inf cfg fuel) : ∀ v : V, v.small 1048576 -> PR E gl 19 [.agg v.p] [] v.val.p []
 | .mk k n s l, h => by
  simp only [V.small] at h
  have hv := mZ hE T l h.2.1
  refine CB hE T.t19 (fun _ μ => ?_) (fun _ μ => ?_)
  ·refine PR.frame (rH hE T.t12 T.val1 T.val2 h.1 fun v hm => (hv v hm).1) ?_ μ
   simp only [okm.okL, okm, dv, Bool.and_self]
  ·refine PR.frame (CC hE T.t34 T.itm1 T.itm2 h.1 fun v hm => (hv v hm).2) ?_ μ
   simp only [okm.okL, okm, dv, Bool.and_self]
theorem mZ (hE : SxEnv E) {inf : Nat -> TypeInfo} (T : ConvT E inf cfg fuel) : ∀ l : List V, V.smalls 1048576 l -> ∀ v, v ∈ l -> PR E gl 19 [.agg v.p] [] v.val.p [] /\ PR E gl 58 [.agg v.p] [] v.itm.p []
 | [], _, v, hm => by cases hm
 | w :: l, h, v, hm => by
  simp only [V.smalls] at h
  have hw := CF hE T w h.1
  rcases List.mem_cons.1 hm with rfl | hm
  ·exact ⟨hw, CD hE T.t58 hw⟩
  ·exact mZ hE T l h.2 v hm
end
theorem rJ (hE : SxEnv E) {inf : Nat -> TypeInfo} (T : ConvT E inf cfg fuel) {l : List V} (hl : l.length <= 1048576) (h : V.smalls 1048576 l) : PR E gl 12 [.sl 4 l.length (V.ps l)] [] (.ow dE 1 (V.vals l).length (Val.ps (V.vals l))) [] :=
 rH hE T.t12 T.val1 T.val2 hl fun v hm => (mZ hE T l h v hm).1
mutual
theorem rK (hE : SxEnv E) {inf : Nat -> TypeInfo} (T : ConvT E inf cfg fuel) : ∀ v : Val, v.small 1048576 -> PR E gl 20 [v.p] [] (.agg v.tree.p) []
 | .list l, h => by
  simp only [Val.small] at h
  refine fU hE T.t20 (fun m hm => ?_) (fun m hm => by cases hm)
  cases hm
  exact rI hE T.t11 T.v1 T.v2 h.1 (m0 hE T l h.2)
 | .quot l, h => by
  simp only [Val.small] at h
  refine fU hE T.t20 (fun m hm => by cases hm) (fun m hm => ?_)
  cases hm
  exact CE hE T.t35 T.v1 T.v2 h.1 (rL hE T l h.2)
 | .nil, _ => fU hE T.t20 (fun m hm => by cases hm) (fun m hm => by cases hm)
 | .int _, _ => fU hE T.t20 (fun m hm => by cases hm) (fun m hm => by cases hm)
 | .str _, _ => fU hE T.t20 (fun m hm => by cases hm) (fun m hm => by cases hm)
 | .bool _, _ => fU hE T.t20 (fun m hm => by cases hm) (fun m hm => by cases hm)
 | .box _, _ => fU hE T.t20 (fun m hm => by cases hm) (fun m hm => by cases hm)
theorem m0 (hE : SxEnv E) {inf : Nat -> TypeInfo} (T : ConvT E inf cfg fuel) : ∀ l : List Val, Val.smalls 1048576 l -> ∀ v, v ∈ l -> PR E gl 20 [v.p] [] (.agg v.tree.p) []
 | [], _, v, hm => by cases hm
 | w :: l, h, v, hm => by
  simp only [Val.smalls] at h
  have hw := rK hE T w h.1
  rcases List.mem_cons.1 hm with rfl | hm
  ·exact hw
  ·exact m0 hE T l h.2 v hm
theorem CG (hE : SxEnv E) {inf : Nat -> TypeInfo} (T : ConvT E inf cfg fuel) : ∀ v : Itm, v.small 1048576 -> PR E gl 59 [v.p] [] (.agg v.tree.p) []
 | .push v, h => by
  simp only [Itm.small] at h
  refine mY hE T.t59 (fun w hw => ?_)
  cases hw
  exact rK hE T v h
 | .nil, _ => mY hE T.t59 (fun m hm => by cases hm)
 | .call _, _ => mY hE T.t59 (fun m hm => by cases hm)
theorem rL (hE : SxEnv E) {inf : Nat -> TypeInfo} (T : ConvT E inf cfg fuel) : ∀ l : List Itm, Itm.smalls 1048576 l -> ∀ v, v ∈ l -> PR E gl 59 [v.p] [] (.agg v.tree.p) []
 | [], _, v, hm => by cases hm
 | w :: l, h, v, hm => by
  simp only [Itm.smalls] at h
  have hw := CG hE T w h.1
  rcases List.mem_cons.1 hm with rfl | hm
  ·exact hw
  ·exact rL hE T l h.2 v hm
end
theorem m5 (hE : SxEnv E) {inf : Nat -> TypeInfo} (T : ConvT E inf cfg fuel) {l : List Val} (hl : l.length <= 1048576) (h : Val.smalls 1048576 l) : PR E gl 11 [.sl 1 l.length (Val.ps l)] [] (.ow tV 4 (Val.trees l).length (V.ps (Val.trees l))) [] :=
 rI hE T.t11 T.v1 T.v2 hl (m0 hE T l h)
end
end Go.AM.PV
namespace Go.AM.PV
open Go Go.AM Go.AM.SX
attribute [local irreducible] pz aY
def gate (left nest : Int) (r : Int -> Int × Bool × Int) : Int × Bool × Int := if left - 1 < 0 then (0, false, left - 1) else if nest > 32 then (0, false, left - 1) else r (left - 1)
def fV (x : Int × Bool × Int) : Int × Bool × Int := if x.2.1 then (x.1 + 1, decide (x.1 < 32), x.2.2) else (0, false, x.2.2)
section
variable (vs nm : ByteArray -> Bool)
mutual
def Val.meas : Val -> Int -> Int -> Int × Bool × Int
 | .nil, left, nest => gate left nest fun lf => (0, false, lf)
 | .int n, left, nest => gate left nest fun lf => (0, decide (n >= -1152921504606846976) && decide (n <= 1152921504606846975), lf)
 | .str s, left, nest => gate left nest fun lf => (0, decide ((s.size : Int) <= 4096) && vs s, lf)
 | .bool _, left, nest => gate left nest fun lf => (0, true, lf)
 | .box n, left, nest => gate left nest fun lf => (0, decide (n >= 1) && decide (n <= 1048576), lf)
 | .list l, left, nest => gate left nest fun lf => fV (Val.measL l lf (nest + 1) 0)
 | .quot l, left, nest => gate left nest fun lf => fV (Itm.measL l lf (nest + 1) 0)
def Val.measL : List Val -> Int -> Int -> Int -> Int × Bool × Int
 | [], lf, _, d => (d, true, lf)
 | v :: l, lf, nest, d => if (v.meas lf nest).2.1 then Val.measL l (v.meas lf nest).2.2 nest (max d (v.meas lf nest).1) else (0, false, (v.meas lf nest).2.2)
def Itm.meas : Itm -> Int -> Int -> Int × Bool × Int
 | .nil, left, _ => (0, false, left - 1)
 | .push v, left, nest => v.meas left nest
 | .call s, left, _ => (0, decide (left - 1 >= 0) && nm s, left - 1)
def Itm.measL : List Itm -> Int -> Int -> Int -> Int × Bool × Int
 | [], lf, _, d => (d, true, lf)
 | v :: l, lf, nest, d => if (v.meas lf nest).2.1 then Itm.measL l (v.meas lf nest).2.2 nest (max d (v.meas lf nest).1) else (0, false, (v.meas lf nest).2.2)
end
def Bnd (left : Int) (x : Int × Bool × Int) : Prop := -1 <= x.2.2 /\ x.2.2 <= left /\ 0 <= x.1 /\ x.1 <= 33 /\ (x.2.1 = true -> 0 <= x.2.2 /\ x.1 <= 32)
theorem fW {left nest : Int} {r : Int -> Int × Bool × Int} (h : 0 <= left) (hr : 0 <= left - 1 -> Bnd (left - 1) (r (left - 1))) : Bnd left (gate left nest r) := by
 unfold gate
 split
 ·exact ⟨by show -1 <= left - 1; omega, by show left - 1 <= left; omega, by show (0 : Int) <= 0; omega, by show (0 : Int) <= 33; omega, fun e => by cases e⟩
 ·split
  ·exact ⟨by show -1 <= left - 1; omega, by show left - 1 <= left; omega, by show (0 : Int) <= 0; omega, by show (0 : Int) <= 33; omega, fun e => by cases e⟩
  ·obtain ⟨h1, h2, h3, h4, h5⟩ := hr (by omega)
   exact ⟨h1, by omega, h3, h4, h5⟩
theorem iw {left : Int} {b : Bool} (h : 0 <= left) : Bnd left (0, b, left) := ⟨by show -1 <= left; omega, Int.le_refl _, by show (0 : Int) <= 0; omega, by show (0 : Int) <= 33; omega, fun _ => ⟨h, by show (0 : Int) <= 32; omega⟩⟩
def m6 (left : Int) (x : Int × Bool × Int) : Prop := -1 <= x.2.2 /\ x.2.2 <= left /\ 0 <= x.1 /\ x.1 <= 32 /\ (x.2.1 = true -> 0 <= x.2.2)
theorem rM {left : Int} {x : Int × Bool × Int} (h : m6 left x) : Bnd left (fV x) := by
 obtain ⟨h1, h2, h3, h4, h5⟩ := h
 unfold fV
 split
 ·rename_i hx
  exact ⟨h1, h2, by show 0 <= x.1 + 1; omega, by show x.1 + 1 <= 33; omega, fun e => ⟨h5 hx, by have : x.1 < 32 := of_decide_eq_true e; show x.1 + 1 <= 32; omega⟩⟩
 ·exact ⟨h1, h2, by show (0 : Int) <= 0; omega, by show (0 : Int) <= 33; omega, fun e => by cases e⟩
mutual
theorem Val.bnd : ∀ (v : Val) {left nest : Int}, 0 <= left -> Bnd left (v.meas vs nm left nest)
 | .nil, _, _, h => fW h fun h => iw h
 | .int _, _, _, h => fW h fun h => iw h
 | .str _, _, _, h => fW h fun h => iw h
 | .bool _, _, _, h => fW h fun h => iw h
 | .box _, _, _, h => fW h fun h => iw h
 | .list l, _, _, h => fW h fun h => rM (Val.bndL l h (Int.le_refl 0) (by omega))
 | .quot l, _, _, h => fW h fun h => rM (Itm.bndL l h (Int.le_refl 0) (by omega))
theorem Val.bndL : ∀ (l : List Val) {lf nest d : Int}, 0 <= lf -> 0 <= d -> d <= 32 -> m6 lf (Val.measL vs nm l lf nest d)
 | [], lf, nest, d, h, h0, h1 => ⟨by show -1 <= lf; omega, Int.le_refl _, h0, h1, fun _ => h⟩
 | v :: l, lf, nest, d, h, h0, h1 => by
  obtain ⟨b1, b2, b3, b4, b5⟩ := Val.bnd v (nest := nest) h
  simp only [Val.measL]
  split
  ·rename_i hok
   obtain ⟨c1, c2⟩ := b5 hok
   obtain ⟨e1, e2, e3, e4, e5⟩ := Val.bndL l (nest := nest) (d := max d (v.meas vs nm lf nest).1) c1 (by omega) (by omega)
   exact ⟨e1, by omega, e3, e4, e5⟩
  ·exact ⟨b1, b2, by show (0 : Int) <= 0; omega, by show (0 : Int) <= 32; omega, fun e => by cases e⟩
theorem Itm.bnd : ∀ (v : Itm) {left nest : Int}, 0 <= left -> Bnd left (v.meas vs nm left nest)
 | .nil, left, _, h => ⟨by show -1 <= left - 1; omega, by show left - 1 <= left; omega, by show (0 : Int) <= 0; omega, by show (0 : Int) <= 33; omega, fun e => by cases e⟩
 | .push v, _, _, h => Val.bnd v h
 | .call s, left, _, h => ⟨by show -1 <= left - 1; omega, by show left - 1 <= left; omega, by show (0 : Int) <= 0; omega, by show (0 : Int) <= 33; omega, fun e => by
   have e' : (decide (left - 1 >= 0) && nm s) = true := e
   rw [Bool.and_eq_true] at e'
   exact ⟨of_decide_eq_true e'.1, by show (0 : Int) <= 32; omega⟩⟩
theorem Itm.bndL : ∀ (l : List Itm) {lf nest d : Int}, 0 <= lf -> 0 <= d -> d <= 32 -> m6 lf (Itm.measL vs nm l lf nest d)
 | [], lf, nest, d, h, h0, h1 => ⟨by show -1 <= lf; omega, Int.le_refl _, h0, h1, fun _ => h⟩
 | v :: l, lf, nest, d, h, h0, h1 => by
  obtain ⟨b1, b2, b3, b4, b5⟩ := Itm.bnd v (nest := nest) h
  simp only [Itm.measL]
  split
  ·rename_i hok
   obtain ⟨c1, c2⟩ := b5 hok
   obtain ⟨e1, e2, e3, e4, e5⟩ := Itm.bndL l (nest := nest) (d := max d (v.meas vs nm lf nest).1) c1 (by omega) (by omega)
   exact ⟨e1, by omega, e3, e4, e5⟩
  ·exact ⟨b1, b2, by show (0 : Int) <= 0; omega, by show (0 : Int) <= 32; omega, fun e => by cases e⟩
end
end
theorem gj (x : Value) : ∀ p, p ∈ [P.c x] -> fz p = p := by
 intro p hp
 simp only [List.mem_singleton] at hp
 subst hp; rfl
theorem a8 {n : Int} (h0 : -9223372036854775808 <= n) (h1 : n <= 9223372036854775807) : aT .i64 n = n := by
 unfold aT
 rw [if_pos ⟨by simp only [lo]; omega, by simp only [hi]; omega⟩]
section
variable {E : Env} {gl : List GRow} {cfg : Cfg} {fuel : Nat} (vs nm : ByteArray -> Bool)
def iy (E : Env) (gl : List GRow) (w : Val) : Prop := ∀ left nest : Int, 0 <= left -> left <= 1024 -> 0 <= nest -> nest <= 33 ->
 PR E gl 39 [w.p, .lp 0 0, I nest] [.cells [I left]] (.tup [I (w.meas vs nm left nest).1, Bo (w.meas vs nm left nest).2.1]) [.cells [I (w.meas vs nm left nest).2.2]]
def kK (E : Env) (gl : List GRow) (w : Itm) : Prop := ∀ left nest : Int, 0 <= left -> left <= 1024 -> 0 <= nest -> nest <= 33 ->
 PR E gl 65 [w.p, .lp 0 0, I nest] [.cells [I left]] (.tup [I (w.meas vs nm left nest).1, Bo (w.meas vs nm left nest).2.1]) [.cells [I (w.meas vs nm left nest).2.2]]
set_option maxHeartbeats 4000000 in
theorem fX (hE : SxEnv E) (h39 : aC E cfg fuel 39 3 = some t39) (hS : ∀ s, s.size <= 4096 -> PR E gl 64 [St s] [] (Bo (vs s)) []) {v : Val} (hsm : v.small 1048576)
  (hL : ∀ l, v = .list l -> ∀ w, w ∈ l -> iy vs nm E gl w) (hQ : ∀ l, v = .quot l -> ∀ w, w ∈ l -> kK vs nm E gl w) : iy vs nm E gl v := by
 intro left nest hl0 hl1 hn0 hn1
 refine fnZ hE (cfg := cfg) (fuel := fuel) h39 (by kernel_rfl) ?_
 unfold t39
 try refine aA ?_
 try rw [a8 (n := left - 1) (by omega) (by omega)]
 have gt0 : left - 1 < 0 -> v.meas vs nm left nest = (0, false, left - 1) := fun h => by cases v <;> simp only [Val.meas, gate, if_pos h]
 refine aG rfl (fun h => ?_) (fun h => ?_)
 ·have h := of_decide_eq_true h
  try refine aA ?_
  refine aF rfl ?_
  rw [gt0 h]
  exact ⟨rfl, rfl⟩
 have h1 : ¬ left - 1 < 0 := of_decide_eq_false h
 have gt1 : nest > 32 -> v.meas vs nm left nest = (0, false, left - 1) := fun h => by cases v <;> simp only [Val.meas, gate, if_neg h1, if_pos h]
 try refine aA ?_
 refine aG rfl (fun h => ?_) (fun h => ?_)
 ·have h := of_decide_eq_true h
  try refine aA ?_
  refine aF rfl ?_
  rw [gt1 h]
  exact ⟨rfl, rfl⟩
 have h2 : ¬ nest > 32 := of_decide_eq_false h
 cases v with
 | nil =>
  simp only [Val.meas, gate, if_neg h1, if_neg h2]
  dsimp only [Val.p]
  try refine aA ?_
  exact aE 1 rfl (Nat.le_refl _) rfl rfl ⟨rfl, rfl⟩
 | bool b =>
  simp only [Val.meas, gate, if_neg h1, if_neg h2]
  dsimp only [Val.p]
  try refine aA ?_
  exact aE 1 rfl (Nat.le_refl _) rfl rfl ⟨rfl, rfl⟩
 | int n =>
  simp only [Val.meas, gate, if_neg h1, if_neg h2]
  dsimp only [Val.p]
  try refine aA ?_
  refine aG rfl (fun h => ?_) (fun h => ?_)
  ·have h : decide (n >= -1152921504606846976) = true := h
   try refine aA ?_
   refine aE 1 rfl (Nat.le_refl _) rfl rfl ⟨?_, rfl⟩
   rw [h]
   rfl
  ·have h : decide (n >= -1152921504606846976) = false := h
   try refine aA ?_
   refine aE 1 rfl (Nat.le_refl _) rfl rfl ⟨?_, rfl⟩
   rw [h]
   rfl
 | str s =>
  simp only [Val.meas, gate, if_neg h1, if_neg h2]
  dsimp only [Val.p]
  try refine aA ?_
  refine aG rfl (fun h => ?_) (fun h => ?_)
  ·try refine aA ?_
   refine aI rfl ((hS s (by have h' : decide ((s.size : Int) <= 4096) = true := h; have := of_decide_eq_true h'; omega)).frame rfl _) (Nat.le_refl _) ?_
   try dsimp only [go_sem]
   try refine aA ?_
   refine aE 1 rfl (Nat.le_refl _) rfl rfl ⟨?_, rfl⟩
   have h : decide ((s.size : Int) <= 4096) = true := h
   rw [h]
   rfl
  ·try refine aA ?_
   refine aE 1 rfl (Nat.le_refl _) rfl rfl ⟨?_, rfl⟩
   have h : decide ((s.size : Int) <= 4096) = false := h
   rw [h]
   rfl
 | box n =>
  simp only [Val.meas, gate, if_neg h1, if_neg h2]
  dsimp only [Val.p]
  try refine aA ?_
  refine aG rfl (fun h => ?_) (fun h => ?_)
  ·have h : decide (n >= 1) = true := h
   try refine aA ?_
   refine aE 1 rfl (Nat.le_refl _) rfl rfl ⟨?_, rfl⟩
   rw [h]
   rfl
  ·have h : decide (n >= 1) = false := h
   try refine aA ?_
   refine aE 1 rfl (Nat.le_refl _) rfl rfl ⟨?_, rfl⟩
   rw [h]
   rfl
 | list l =>
  have hlen : l.length <= 1048576 := by simp only [Val.small] at hsm; exact hsm.1
  have hL := hL l rfl
  simp only [Val.meas, gate, if_neg h1, if_neg h2]
  dsimp only [Val.p]
  try refine aA ?_
  have hb0 : 0 <= left - 1 := by omega
  refine ah (fun κ us ν => ∃ (i : Nat) (d lf : Int), κ = l.length - i /\ i <= l.length /\ us = [Bo false, I d, I i] /\ ν = [.cells [I lf], .cells [.sl 1 l.length (Val.ps l)]] /\ 0 <= lf /\ lf <= 1024 /\ 0 <= d /\ d <= 32 /\
   Val.measL vs nm (l.drop i) lf (nest + 1) d = Val.measL vs nm l (left - 1) (nest + 1) 0) rfl l.length _ (LeL.refl _) ⟨0, 0, left - 1, by omega, by omega, rfl, rfl, hb0, by omega, by omega, by omega, rfl⟩ ?_
  rintro κ us ν ⟨i, d, lf, rfl, hi, rfl, rfl, hf0, hf1, hd0, hd1, heq⟩
  try dsimp only [go_sem]
  try refine aA ?_
  refine aG rfl (fun hlt => ?_) (fun hge => ?_)
  ·have hlt : i < l.length := by have := of_decide_eq_true hlt; omega
   obtain ⟨w, hw⟩ : ∃ w, l[i]? = some w := ⟨l[i], List.getElem?_eq_getElem hlt⟩
   have hstep : l.drop i = w :: l.drop (i + 1) := by
    rw [List.drop_eq_getElem_cons hlt]
    rw [List.getElem?_eq_getElem hlt] at hw
    cases hw; rfl
   refine ax rfl hlt ?_
   try dsimp only [go_sem]
   refine bG rfl (p := w.p) (by rw [Val.ps_map, Nat.mul_one, List.getElem?_map, hw]; rfl) ?_
   try dsimp only [go_sem]
   try refine aA ?_
   try rw [a8 (n := nest + 1) (by omega) (by omega)]
   refine aI (as := [w.p, .lp 0 0, I (nest + 1)]) (by show some [fz w.p, _, _] = some [w.p, _, _]; rw [bL]; rfl) (PR.frame1 (hL w (List.mem_of_getElem? hw) lf (nest + 1) hf0 hf1 (by omega) (by omega))
    (.cons _ _ _ _ (.no _ (dV w)) (.cons _ _ _ _ (.lp 0) (.cons _ _ _ _ (.no _ rfl) .nil))) rfl rfl rfl (gj _) (gj _) rfl) (Nat.le_refl _) ?_
   obtain ⟨b1, b2, b3, b4, b5⟩ := Val.bnd vs nm w (nest := nest + 1) hf0
   have hm : Val.measL vs nm (l.drop i) lf (nest + 1) d = if (w.meas vs nm lf (nest + 1)).2.1 then Val.measL vs nm (l.drop (i + 1)) (w.meas vs nm lf (nest + 1)).2.2 (nest + 1) (max d (w.meas vs nm lf (nest + 1)).1) else (0, false, (w.meas vs nm lf (nest + 1)).2.2) := by
    rw [hstep]; rfl
   rw [hm] at heq
   generalize w.meas vs nm lf (nest + 1) = x at heq b1 b2 b3 b4 b5
   obtain ⟨d', ok, lf'⟩ := x
   try dsimp only [go_sem]
   try refine aA ?_
   cases ok with
   | false =>
    try refine aA ?_
    refine aF rfl ?_
    try dsimp only [go_sem]
    try refine aA ?_
    rw [<- heq]
    exact aE 1 rfl (Nat.le_refl _) rfl rfl ⟨rfl, rfl⟩
   | true =>
    try refine aA ?_
    try rw [a8 (n := (i : Int) + 1) (by omega) (by omega)]
    refine aF rfl ?_
    obtain ⟨c1, c2⟩ := b5 rfl
    dsimp only at b1 b2 b3 b4 c1 c2
    refine ⟨l.length - (i + 1), by omega, i + 1, max d d', lf', rfl, by omega, ?_, rfl, c1, by omega, by omega, by omega, heq⟩
    show [_, P.c (.int .i64 (if d' > d then d' else d)), _] = _
    rw [show (if d' > d then d' else d) = max d d' by rw [Int.max_def]; split <;> split <;> omega]
    rfl
  ·have hge : i = l.length := by have := of_decide_eq_false hge; omega
   subst hge
   rw [List.drop_length] at heq
   refine aF rfl ?_
   try dsimp only [go_sem]
   try refine aA ?_
   try rw [a8 (n := d + 1) (by omega) (by omega)]
   rw [<- heq]
   exact aE 1 rfl (Nat.le_refl _) rfl rfl ⟨rfl, rfl⟩
 | quot l =>
  have hlen : l.length <= 1048576 := by simp only [Val.small] at hsm; exact hsm.1
  have hL := hQ l rfl
  simp only [Val.meas, gate, if_neg h1, if_neg h2]
  dsimp only [Val.p]
  try refine aA ?_
  have hb0 : 0 <= left - 1 := by omega
  refine ah (fun κ us ν => ∃ (i : Nat) (d lf : Int), κ = l.length - i /\ i <= l.length /\ us = [Bo false, I d, I i] /\ ν = [.cells [I lf], .cells [.sl 1 l.length (Itm.ps l)]] /\ 0 <= lf /\ lf <= 1024 /\ 0 <= d /\ d <= 32 /\
   Itm.measL vs nm (l.drop i) lf (nest + 1) d = Itm.measL vs nm l (left - 1) (nest + 1) 0) rfl l.length _ (LeL.refl _) ⟨0, 0, left - 1, by omega, by omega, rfl, rfl, hb0, by omega, by omega, by omega, rfl⟩ ?_
  rintro κ us ν ⟨i, d, lf, rfl, hi, rfl, rfl, hf0, hf1, hd0, hd1, heq⟩
  try dsimp only [go_sem]
  try refine aA ?_
  refine aG rfl (fun hlt => ?_) (fun hge => ?_)
  ·have hlt : i < l.length := by have := of_decide_eq_true hlt; omega
   obtain ⟨w, hw⟩ : ∃ w, l[i]? = some w := ⟨l[i], List.getElem?_eq_getElem hlt⟩
   have hstep : l.drop i = w :: l.drop (i + 1) := by
    rw [List.drop_eq_getElem_cons hlt]
    rw [List.getElem?_eq_getElem hlt] at hw
    cases hw; rfl
   refine ax rfl hlt ?_
   try dsimp only [go_sem]
   refine bG rfl (p := w.p) (by rw [Itm.ps_map, Nat.mul_one, List.getElem?_map, hw]; rfl) ?_
   try dsimp only [go_sem]
   try refine aA ?_
   try rw [a8 (n := nest + 1) (by omega) (by omega)]
   refine aI (as := [w.p, .lp 0 0, I (nest + 1)]) (by show some [fz w.p, _, _] = some [w.p, _, _]; rw [mX]; rfl) (PR.frame1 (hL w (List.mem_of_getElem? hw) lf (nest + 1) hf0 hf1 (by omega) (by omega))
    (.cons _ _ _ _ (.no _ (rE w)) (.cons _ _ _ _ (.lp 0) (.cons _ _ _ _ (.no _ rfl) .nil))) rfl rfl rfl (gj _) (gj _) rfl) (Nat.le_refl _) ?_
   obtain ⟨b1, b2, b3, b4, b5⟩ := Itm.bnd vs nm w (nest := nest + 1) hf0
   have hm : Itm.measL vs nm (l.drop i) lf (nest + 1) d = if (w.meas vs nm lf (nest + 1)).2.1 then Itm.measL vs nm (l.drop (i + 1)) (w.meas vs nm lf (nest + 1)).2.2 (nest + 1) (max d (w.meas vs nm lf (nest + 1)).1) else (0, false, (w.meas vs nm lf (nest + 1)).2.2) := by
    rw [hstep]; rfl
   rw [hm] at heq
   generalize w.meas vs nm lf (nest + 1) = x at heq b1 b2 b3 b4 b5
   obtain ⟨d', ok, lf'⟩ := x
   try dsimp only [go_sem]
   try refine aA ?_
   cases ok with
   | false =>
    try refine aA ?_
    refine aF rfl ?_
    try dsimp only [go_sem]
    try refine aA ?_
    rw [<- heq]
    exact aE 1 rfl (Nat.le_refl _) rfl rfl ⟨rfl, rfl⟩
   | true =>
    try refine aA ?_
    try rw [a8 (n := (i : Int) + 1) (by omega) (by omega)]
    refine aF rfl ?_
    obtain ⟨c1, c2⟩ := b5 rfl
    dsimp only at b1 b2 b3 b4 c1 c2
    refine ⟨l.length - (i + 1), by omega, i + 1, max d d', lf', rfl, by omega, ?_, rfl, c1, by omega, by omega, by omega, heq⟩
    show [_, P.c (.int .i64 (if d' > d then d' else d)), _] = _
    rw [show (if d' > d then d' else d) = max d d' by rw [Int.max_def]; split <;> split <;> omega]
    rfl
  ·have hge : i = l.length := by have := of_decide_eq_false hge; omega
   subst hge
   rw [List.drop_length] at heq
   refine aF rfl ?_
   try dsimp only [go_sem]
   try refine aA ?_
   try rw [a8 (n := d + 1) (by omega) (by omega)]
   rw [<- heq]
   exact aE 1 rfl (Nat.le_refl _) rfl rfl ⟨rfl, rfl⟩
theorem m7 (hE : SxEnv E) (h65 : aC E cfg fuel 65 3 = some t65) (hN : ∀ s, s.size <= 1048576 -> PR E gl 102 [St s] [] (Bo (nm s)) []) {v : Itm} (hsm : v.small 1048576)
  (hV : ∀ w, v = .push w -> iy vs nm E gl w) : kK vs nm E gl v := by
 intro left nest hl0 hl1 hn0 hn1
 refine fnZ hE (cfg := cfg) (fuel := fuel) h65 (by kernel_rfl) ?_
 unfold t65
 cases v with
 | push w =>
  have hV := hV w rfl left nest hl0 hl1 hn0 hn1
  simp only [Itm.meas]
  dsimp only [Itm.p]
  try refine aA ?_
  refine kJ rfl rfl rfl (by show (cL w.p && true) = true; rw [gi]; rfl) (by decide) ?_
  try dsimp only [go_sem]
  try refine aA ?_
  refine aI (as := [w.p, .lp 0 0, I nest]) (by show some [fz (fz w.p), _, _] = some [w.p, _, _]; rw [bL, bL]; rfl) (PR.frame1 hV
    (.cons _ _ _ _ (.no _ (dV w)) (.cons _ _ _ _ (.lp 0) (.cons _ _ _ _ (.no _ rfl) .nil))) rfl rfl rfl (gj _) (gj _) rfl) (Nat.le_refl _) ?_
  try dsimp only [go_sem]
  try refine aA ?_
  exact aE 1 rfl (Nat.le_refl _) rfl rfl ⟨rfl, rfl⟩
 | nil =>
  simp only [Itm.meas]
  dsimp only [Itm.p]
  try refine aA ?_
  try rw [a8 (n := left - 1) (by omega) (by omega)]
  exact aE 1 rfl (Nat.le_refl _) rfl rfl ⟨rfl, rfl⟩
 | call s =>
  simp only [Itm.meas]
  dsimp only [Itm.p]
  try refine aA ?_
  try rw [a8 (n := left - 1) (by omega) (by omega)]
  refine aG rfl (fun h => ?_) (fun h => ?_)
  ·have h : decide (left - 1 >= 0) = true := h
   try refine aA ?_
   refine aI rfl ((hN s (by simpa only [Itm.small] using hsm)).frame rfl _) (Nat.le_refl _) ?_
   try dsimp only [go_sem]
   try refine aA ?_
   refine aE 1 rfl (Nat.le_refl _) rfl rfl ⟨?_, rfl⟩
   rw [h]
   rfl
  ·have h : decide (left - 1 >= 0) = false := h
   try refine aA ?_
   refine aE 1 rfl (Nat.le_refl _) rfl rfl ⟨?_, rfl⟩
   rw [h]
   rfl
mutual
theorem m8 (hE : SxEnv E) (h39 : aC E cfg fuel 39 3 = some t39) (h65 : aC E cfg fuel 65 3 = some t65) (hS : ∀ s, s.size <= 4096 -> PR E gl 64 [St s] [] (Bo (vs s)) []) (hN : ∀ s, s.size <= 1048576 -> PR E gl 102 [St s] [] (Bo (nm s)) []) : ∀ v : Val, v.small 1048576 -> iy vs nm E gl v
 | .nil, h => fX vs nm hE h39 hS h (fun _ e => by cases e) (fun _ e => by cases e)
 | .int _, h => fX vs nm hE h39 hS h (fun _ e => by cases e) (fun _ e => by cases e)
 | .str _, h => fX vs nm hE h39 hS h (fun _ e => by cases e) (fun _ e => by cases e)
 | .bool _, h => fX vs nm hE h39 hS h (fun _ e => by cases e) (fun _ e => by cases e)
 | .box _, h => fX vs nm hE h39 hS h (fun _ e => by cases e) (fun _ e => by cases e)
 | .list l, h => have a := rN hE h39 h65 hS hN l (by simp only [Val.small] at h; exact h.2); fX vs nm hE h39 hS h (fun l' e => by cases e; exact a) (fun _ e => by cases e)
 | .quot l, h => have a := rO hE h39 h65 hS hN l (by simp only [Val.small] at h; exact h.2); fX vs nm hE h39 hS h (fun _ e => by cases e) (fun l' e => by cases e; exact a)
theorem rN (hE : SxEnv E) (h39 : aC E cfg fuel 39 3 = some t39) (h65 : aC E cfg fuel 65 3 = some t65) (hS : ∀ s, s.size <= 4096 -> PR E gl 64 [St s] [] (Bo (vs s)) []) (hN : ∀ s, s.size <= 1048576 -> PR E gl 102 [St s] [] (Bo (nm s)) []) : ∀ l : List Val, Val.smalls 1048576 l -> ∀ w, w ∈ l -> iy vs nm E gl w
 | [], _ => fun _ hw => by cases hw
 | v :: l, h => have h' : v.small 1048576 /\ Val.smalls 1048576 l := by simpa only [Val.smalls] using h
  have a := m8 hE h39 h65 hS hN v h'.1; have b := rN hE h39 h65 hS hN l h'.2
  fun w hw => by
   rcases List.mem_cons.mp hw with hw | hw
   ·subst hw; exact a
   ·exact b w hw
theorem rO (hE : SxEnv E) (h39 : aC E cfg fuel 39 3 = some t39) (h65 : aC E cfg fuel 65 3 = some t65) (hS : ∀ s, s.size <= 4096 -> PR E gl 64 [St s] [] (Bo (vs s)) []) (hN : ∀ s, s.size <= 1048576 -> PR E gl 102 [St s] [] (Bo (nm s)) []) : ∀ l : List Itm, Itm.smalls 1048576 l -> ∀ w, w ∈ l -> kK vs nm E gl w
 | [], _ => fun _ hw => by cases hw
 | v :: l, h => have h' : v.small 1048576 /\ Itm.smalls 1048576 l := by simpa only [Itm.smalls] using h
  have a := CH hE h39 h65 hS hN v h'.1; have b := rO hE h39 h65 hS hN l h'.2
  fun w hw => by
   rcases List.mem_cons.mp hw with hw | hw
   ·subst hw; exact a
   ·exact b w hw
theorem CH (hE : SxEnv E) (h39 : aC E cfg fuel 39 3 = some t39) (h65 : aC E cfg fuel 65 3 = some t65) (hS : ∀ s, s.size <= 4096 -> PR E gl 64 [St s] [] (Bo (vs s)) []) (hN : ∀ s, s.size <= 1048576 -> PR E gl 102 [St s] [] (Bo (nm s)) []) : ∀ v : Itm, v.small 1048576 -> kK vs nm E gl v
 | .nil, h => m7 vs nm hE h65 hN h fun _ e => by cases e
 | .push w, h => have a := m8 hE h39 h65 hS hN w (by simpa only [Itm.small] using h); m7 vs nm hE h65 hN h fun w' e => by cases e; exact a
 | .call _, h => m7 vs nm hE h65 hN h fun _ e => by cases e
end
def Val.chk (v : Val) : Int := if (v.meas vs nm 1024 0).2.1 then 0 else 1
theorem CI (hE : SxEnv E) (h24 : aC E cfg fuel 24 1 = some t24) (h39 : aC E cfg fuel 39 3 = some t39) (h65 : aC E cfg fuel 65 3 = some t65) (hS : ∀ s, s.size <= 4096 -> PR E gl 64 [St s] [] (Bo (vs s)) []) (hN : ∀ s, s.size <= 1048576 -> PR E gl 102 [St s] [] (Bo (nm s)) [])
  (v : Val) (hv : v.small 1048576) : PR E gl 24 [v.p] [] (I (v.chk vs nm)) [] := by
 refine fnZ hE (cfg := cfg) (fuel := fuel) h24 (by kernel_rfl) ?_
 unfold t24
 try refine aA ?_
 have hm := m8 vs nm hE h39 h65 hS hN v hv 1024 0 (by omega) (by omega) (by omega) (by omega)
 refine aI (as := [v.p, .lp 0 0, I 0]) (by show some [fz v.p, _, _] = some [v.p, _, _]; rw [bL]; rfl) hm (Nat.le_refl _) ?_
 unfold Val.chk
 generalize v.meas vs nm 1024 0 = x
 obtain ⟨d, ok, lf⟩ := x
 try dsimp only [go_sem]
 cases ok with
 | true =>
  try refine aA ?_
  exact aE 0 rfl (Nat.zero_le _) rfl rfl ⟨rfl, rfl⟩
 | false =>
  try refine aA ?_
  exact aE 0 rfl (Nat.zero_le _) rfl rfl ⟨rfl, rfl⟩
end
end Go.AM.PV
namespace Go.AM.PV
open Go Go.AM Go.AM.SX
attribute [local irreducible] pz aY
def V.k : V -> Int | .mk k _ _ _ => k
theorem V.sz_pos (v : V) : 1 <= v.sz := by cases v; simp only [V.sz]; omega
theorem V.sz_len : ∀ l : List V, l.length <= V.szs l
 | [] => Nat.le_refl _
 | v :: l => by have := V.sz_pos v; have := V.sz_len l; simp only [V.szs, List.length_cons]; omega
abbrev R3 := Int × Int × Bool
def eZ (left nest : Int) (r : R3) : R3 := if left < 1 then (0, 0, false) else if nest > 32 then (0, 0, false) else r
def fY (x : R3) : R3 := if x.2.2 then (x.1, x.2.1 + 1, decide (x.2.1 < 32)) else (0, 0, false)
section
variable (vs nm : ByteArray -> Bool)
mutual
def V.rm : V -> Int -> Int -> R3
 | .mk k n s l, left, nest => eZ left nest (
  if k = 1 then (1, 0, decide (n >= -1152921504606846976) && decide (n <= 1152921504606846975)) else
  if k = 2 then (1, 0, decide ((s.size : Int) <= 4096) && vs s) else
  if k = 3 then (1, 0, true) else
  if k = 6 then (1, 0, decide (n >= 1) && decide (n <= 1048576)) else
  if k = 7 then (1, 0, nm s) else
  if k = 4 then fY (V.rmL true l left (nest + 1) 1 0) else
  if k = 5 then fY (V.rmL false l left (nest + 1) 1 0) else (0, 0, false))
def V.rmL (b : Bool) : List V -> Int -> Int -> Int -> Int -> R3
 | [], _, _, n, d => (n, d, true)
 | v :: l, left, nest, n, d => if b && decide (v.k = 7) then (0, 0, false) else
  if (v.rm (left - n) nest).2.2 then V.rmL b l left nest (n + (v.rm (left - n) nest).1) (max d (v.rm (left - n) nest).2.1) else (0, 0, false)
end
def iz (left : Int) (x : R3) : Prop := 0 <= x.1 /\ x.1 <= left /\ 0 <= x.2.1 /\ x.2.1 <= 33 /\ (x.2.2 = true -> x.2.1 <= 32)
def m9 (left : Int) (x : R3) : Prop := 0 <= x.1 /\ x.1 <= left /\ 0 <= x.2.1 /\ x.2.1 <= 32
theorem CJ {left nest : Int} {r : R3} (h : 0 <= left) (hr : 1 <= left -> iz left r) : iz left (eZ left nest r) := by
 unfold eZ
 split
 ·exact ⟨Int.le_refl _, h, Int.le_refl _, by show (0 : Int) <= 33; omega, fun e => by cases e⟩
 ·split
  ·exact ⟨Int.le_refl _, h, Int.le_refl _, by show (0 : Int) <= 33; omega, fun e => by cases e⟩
  ·exact hr (by omega)
theorem gk {left n : Int} {b : Bool} (h0 : 0 <= n) (h : n <= left) : iz left (n, 0, b) := ⟨h0, h, Int.le_refl _, by show (0 : Int) <= 33; omega, fun _ => by show (0 : Int) <= 32; omega⟩
theorem rP {left : Int} {x : R3} (h0 : 0 <= left) (h : m9 left x) : iz left (fY x) := by
 obtain ⟨h1, h2, h3, h4⟩ := h
 unfold fY
 split
 ·exact ⟨h1, h2, by show 0 <= x.2.1 + 1; omega, by show x.2.1 + 1 <= 33; omega, fun e => by have : x.2.1 < 32 := of_decide_eq_true e; show x.2.1 + 1 <= 32; omega⟩
 ·exact ⟨Int.le_refl _, h0, Int.le_refl _, by show (0 : Int) <= 33; omega, fun e => by cases e⟩
mutual
theorem V.rm_bnd : ∀ (v : V) {left nest : Int}, 0 <= left -> iz left (v.rm vs nm left nest)
 | .mk k n s l, left, nest, h => by
  simp only [V.rm]
  refine CJ h fun h1 => ?_
  by_cases k1 : k = 1
  ·rw [if_pos k1]; exact gk (by omega) h1
  rw [if_neg k1]
  by_cases k2 : k = 2
  ·rw [if_pos k2]; exact gk (by omega) h1
  rw [if_neg k2]
  by_cases k3 : k = 3
  ·rw [if_pos k3]; exact gk (by omega) h1
  rw [if_neg k3]
  by_cases k6 : k = 6
  ·rw [if_pos k6]; exact gk (by omega) h1
  rw [if_neg k6]
  by_cases k7 : k = 7
  ·rw [if_pos k7]; exact gk (by omega) h1
  rw [if_neg k7]
  by_cases k4 : k = 4
  ·rw [if_pos k4]; exact rP h (V.rmL_bnd true l h1 (by omega) (Int.le_refl 0) (by omega))
  rw [if_neg k4]
  by_cases k5 : k = 5
  ·rw [if_pos k5]; exact rP h (V.rmL_bnd false l h1 (by omega) (Int.le_refl 0) (by omega))
  rw [if_neg k5]
  exact gk (Int.le_refl 0) h
theorem V.rmL_bnd (b : Bool) : ∀ (l : List V) {left nest n d : Int}, n <= left -> 0 <= n -> 0 <= d -> d <= 32 -> m9 left (V.rmL vs nm b l left nest n d)
 | [], left, nest, n, d, h, h0, hd, he => ⟨h0, h, hd, he⟩
 | v :: l, left, nest, n, d, h, h0, hd, he => by
  obtain ⟨b1, b2, b3, b4, b5⟩ := V.rm_bnd v (left := left - n) (nest := nest) (by omega)
  have z : m9 left (0, 0, false) := ⟨Int.le_refl _, by show 0 <= left; omega, Int.le_refl _, by show (0 : Int) <= 32; omega⟩
  simp only [V.rmL]
  split
  ·exact z
  ·split
   ·rename_i hok
    have := b5 hok
    exact V.rmL_bnd b l (by omega) (by omega) (by omega) (by omega)
   ·exact z
end
end
section
variable {E : Env} {gl : List GRow} {cfg : Cfg} {fuel : Nat} (vs nm : ByteArray -> Bool)
def jA (E : Env) (gl : List GRow) (v : V) : Prop := ∀ left nest : Int, 0 <= left -> left <= 1024 -> 0 <= nest -> nest <= 33 ->
 PR E gl 33 [.agg v.p, I left, I nest] [] (.tup [I (v.rm vs nm left nest).1, I (v.rm vs nm left nest).2.1, Bo (v.rm vs nm left nest).2.2]) []
set_option maxHeartbeats 4000000 in
theorem CK (hE : SxEnv E) (h33 : aC E cfg fuel 33 3 = some t33) (hI : ∀ n : Int, PR E gl 21 [I n] [] (Bo (decide (n >= -1152921504606846976) && decide (n <= 1152921504606846975))) [])
  (bad : ByteArray -> Int) (hB : ∀ s, s.size <= 4096 -> PR E gl 56 [St s] [] (I (bad s)) []) (hvs : ∀ s, decide (bad s < 0) = vs s) (hN : ∀ s, s.size <= 1048576 -> PR E gl 57 [St s] [] (Bo (nm s)) []) {v : V} (hsm : v.sz <= 1048576)
  (hL : ∀ k n s l, v = .mk k n s l -> ∀ w, w ∈ l -> jA vs nm E gl w) : jA vs nm E gl v := by
 intro left nest hl0 hl1 hn0 hn1
 refine fnZ hE (cfg := cfg) (fuel := fuel) h33 (by kernel_rfl) ?_
 unfold t33
 obtain ⟨k, n, s, l⟩ := v
 have hlen : l.length <= 1048576 := by
  have := V.sz_len l
  simp only [V.sz] at hsm; omega
 have hss : s.size <= 1048576 := by simp only [V.sz] at hsm; omega
 have hW : ∀ w, w ∈ l -> jA vs nm E gl w := hL k n s l rfl
 clear hL
 simp only [V.rm, eZ]
 dsimp only [V.p]
 try refine aA ?_
 refine aG rfl (fun h => ?_) (fun h => ?_)
 ·have h := of_decide_eq_true h
  rw [if_pos h]
  try refine aA ?_
  exact aE 0 rfl (Nat.le_refl _) rfl rfl ⟨rfl, rfl⟩
 have h1 : ¬ left < 1 := of_decide_eq_false h
 rw [if_neg h1]
 try refine aA ?_
 refine aG rfl (fun h => ?_) (fun h => ?_)
 ·have h := of_decide_eq_true h
  rw [if_pos h]
  try refine aA ?_
  exact aE 0 rfl (Nat.le_refl _) rfl rfl ⟨rfl, rfl⟩
 have h2 : ¬ nest > 32 := of_decide_eq_false h
 rw [if_neg h2]
 try refine aA ?_
 refine aG rfl (fun hk => ?_) (fun hk => ?_)
 ·have hk : k = 1 := by simpa using hk
  rw [if_pos hk]
  try refine aA ?_
  try refine aI rfl ((hI n).frame rfl _) (Nat.le_refl _) ?_
  try dsimp only [go_sem]
  try refine aA ?_
  exact aE 0 rfl (Nat.zero_le _) rfl rfl ⟨rfl, rfl⟩
 have k1 : ¬ k = 1 := by simpa using hk
 rw [if_neg k1]
 try refine aA ?_
 refine aG rfl (fun hk => ?_) (fun hk => ?_)
 ·have hk : k = 2 := by simpa using hk
  rw [if_pos hk]
  try refine aA ?_
  refine aG rfl (fun h => ?_) (fun h => ?_)
  ·try refine aA ?_
   try refine aI rfl ((hB s (by have h' : decide ((s.size : Int) <= 4096) = true := h; have := of_decide_eq_true h'; omega)).frame rfl _) (Nat.le_refl _) ?_
   try dsimp only [go_sem]
   try refine aA ?_
   refine aE 0 rfl (Nat.zero_le _) rfl rfl ⟨?_, rfl⟩
   have h : decide ((s.size : Int) <= 4096) = true := h
   rw [h, <- hvs]
   rfl
  ·try refine aA ?_
   refine aE 0 rfl (Nat.zero_le _) rfl rfl ⟨?_, rfl⟩
   have h : decide ((s.size : Int) <= 4096) = false := h
   rw [h]
   rfl
 have k2 : ¬ k = 2 := by simpa using hk
 rw [if_neg k2]
 try refine aA ?_
 refine aG rfl (fun hk => ?_) (fun hk => ?_)
 ·have hk : k = 3 := by simpa using hk
  rw [if_pos hk]
  try refine aA ?_
  exact aE 0 rfl (Nat.zero_le _) rfl rfl ⟨rfl, rfl⟩
 have k3 : ¬ k = 3 := by simpa using hk
 rw [if_neg k3]
 try refine aA ?_
 refine aG rfl (fun hk => ?_) (fun hk => ?_)
 ·have hk : k = 6 := by simpa using hk
  rw [if_pos hk]
  try refine aA ?_
  refine aG rfl (fun h => ?_) (fun h => ?_)
  ·have h : decide (n >= 1) = true := h
   try refine aA ?_
   refine aE 0 rfl (Nat.zero_le _) rfl rfl ⟨?_, rfl⟩
   rw [h]
   rfl
  ·have h : decide (n >= 1) = false := h
   try refine aA ?_
   refine aE 0 rfl (Nat.zero_le _) rfl rfl ⟨?_, rfl⟩
   rw [h]
   rfl
 have k6 : ¬ k = 6 := by simpa using hk
 rw [if_neg k6]
 try refine aA ?_
 refine aG rfl (fun hk => ?_) (fun hk => ?_)
 ·have hk : k = 7 := by simpa using hk
  rw [if_pos hk]
  try refine aA ?_
  try refine aI rfl ((hN s hss).frame rfl _) (Nat.le_refl _) ?_
  try dsimp only [go_sem]
  try refine aA ?_
  exact aE 0 rfl (Nat.zero_le _) rfl rfl ⟨rfl, rfl⟩
 have k7 : ¬ k = 7 := by simpa using hk
 rw [if_neg k7]
 try refine aA ?_
 refine aG rfl (fun hk => ?_) (fun hk => ?_)
 ·have hk : k = 4 := by simpa using hk
  rw [if_pos hk]
  subst hk
  try refine aA ?_
  refine ah (fun κ us ν => ∃ (i : Nat) (n' d : Int), κ = l.length - i /\ i <= l.length /\ us = [Bo false, I n', I d, I i] /\ ν = [.cells [I 4, I n, St s, .sl 4 l.length (V.ps l)]] /\ 0 <= n' /\ n' <= left /\ 0 <= d /\ d <= 32 /\
   V.rmL vs nm true (l.drop i) left (nest + 1) n' d = V.rmL vs nm true l left (nest + 1) 1 0) rfl l.length _ (LeL.refl _) ⟨0, 1, 0, by omega, by omega, rfl, rfl, by omega, by omega, by omega, by omega, rfl⟩ ?_
  rintro κ us ν ⟨i, n', d, rfl, hi, rfl, rfl, hf0, hf1, hd0, hd1, heq⟩
  try dsimp only [go_sem]
  try refine aA ?_
  refine aG rfl (fun hlt => ?_) (fun hge => ?_)
  ·have hlt : i < l.length := by have := of_decide_eq_true hlt; omega
   obtain ⟨w, hw⟩ : ∃ w, l[i]? = some w := ⟨l[i], List.getElem?_eq_getElem hlt⟩
   have hstep : l.drop i = w :: l.drop (i + 1) := by
    rw [List.drop_eq_getElem_cons hlt]
    rw [List.getElem?_eq_getElem hlt] at hw
    cases hw; rfl
   have hm := hW w (List.mem_of_getElem? hw) (left - n') (nest + 1) (by omega) (by omega) (by omega) (by omega)
   obtain ⟨b1, b2, b3, b4, b5⟩ := V.rm_bnd vs nm w (left := left - n') (nest := nest + 1) (by omega)
   rw [hstep] at heq
   simp only [V.rmL] at heq
   generalize w.rm vs nm (left - n') (nest + 1) = x at heq b1 b2 b3 b4 b5 hm
   obtain ⟨x1, x2, ok⟩ := x
   dsimp only at b1 b2 b3 b4 b5 hm heq
   try refine aA ?_
   have hat := V.ps_at l i w hw
   have hle : i * 4 + 4 <= (V.ps l).length := by rw [V.ps_length]; omega
   have hat0 : (V.ps l)[i * 4]? = some (I w.k) := by
    have := congrArg (fun z => z[0]?) hat
    obtain ⟨wk, wn, ws, wl⟩ := w
    have this : (V.ps l)[i * 4]? = (V.mk wk wn ws wl).p[0]? := by simpa using this
    exact this
   try refine ax rfl hlt ?_
   try dsimp only [go_sem]
   try refine aA ?_
   try refine bG rfl hat0 ?_
   try dsimp only [go_sem]
   try refine aA ?_
   refine aG rfl (fun h7 => ?_) (fun h7 => ?_)
   ·have h7 : w.k = 7 := by simpa using h7
    rw [if_pos (by simp [h7])] at heq
    try refine aA ?_
    refine aF rfl ?_
    try dsimp only [go_sem]
    try refine aA ?_
    rw [<- heq]
    exact aE 0 rfl (Nat.zero_le _) rfl rfl ⟨rfl, rfl⟩
   have h7 : ¬ w.k = 7 := by simpa using h7
   rw [if_neg (by simp [h7])] at heq
   try refine aA ?_
   try refine ax rfl hlt ?_
   try dsimp only [go_sem]
   try refine gg rfl hle ?_
   rw [hat]
   try dsimp only [go_sem]
   try refine aA ?_
   try rw [a8 (n := left - n') (by omega) (by omega), a8 (n := nest + 1) (by omega) (by omega)]
   try refine aI rfl (hm.frame (by simp only [okm.okL, okm, cX, Bool.and_self]) _) (Nat.le_refl _) ?_
   try dsimp only [go_sem]
   try refine aA ?_
   cases ok with
   | false =>
    try refine aA ?_
    refine aF rfl ?_
    try dsimp only [go_sem]
    try refine aA ?_
    rw [<- heq]
    exact aE 0 rfl (Nat.zero_le _) rfl rfl ⟨rfl, rfl⟩
   | true =>
    try refine aA ?_
    obtain b5 := b5 rfl
    rw [if_pos rfl] at heq
    try rw [a8 (n := n' + x1) (by omega) (by omega), a8 (n := (i : Int) + 1) (by omega) (by omega)]
    refine aF rfl ?_
    refine ⟨l.length - (i + 1), by omega, i + 1, n' + x1, max d x2, rfl, by omega, ?_, rfl, by omega, by omega, by omega, by omega, heq⟩
    rw [show (if x2 > d then x2 else d) = max d x2 by rw [Int.max_def]; split <;> split <;> omega]
    rfl
  ·have hge : i = l.length := by have := of_decide_eq_false hge; omega
   subst hge
   rw [List.drop_length] at heq
   refine aF rfl ?_
   try dsimp only [go_sem]
   try refine aA ?_
   try rw [a8 (n := d + 1) (by omega) (by omega)]
   rw [<- heq]
   exact aE 0 rfl (Nat.zero_le _) rfl rfl ⟨rfl, rfl⟩
 have k4 : ¬ k = 4 := by simpa using hk
 rw [if_neg k4]
 try refine aA ?_
 refine aG rfl (fun hk => ?_) (fun hk => ?_)
 ·have hk : k = 5 := by simpa using hk
  rw [if_pos hk]
  subst hk
  try refine aA ?_
  refine ah (fun κ us ν => ∃ (i : Nat) (n' d : Int), κ = l.length - i /\ i <= l.length /\ us = [Bo false, I n', I d, I i] /\ ν = [.cells [I 5, I n, St s, .sl 4 l.length (V.ps l)]] /\ 0 <= n' /\ n' <= left /\ 0 <= d /\ d <= 32 /\
   V.rmL vs nm false (l.drop i) left (nest + 1) n' d = V.rmL vs nm false l left (nest + 1) 1 0) rfl l.length _ (LeL.refl _) ⟨0, 1, 0, by omega, by omega, rfl, rfl, by omega, by omega, by omega, by omega, rfl⟩ ?_
  rintro κ us ν ⟨i, n', d, rfl, hi, rfl, rfl, hf0, hf1, hd0, hd1, heq⟩
  try dsimp only [go_sem]
  try refine aA ?_
  refine aG rfl (fun hlt => ?_) (fun hge => ?_)
  ·have hlt : i < l.length := by have := of_decide_eq_true hlt; omega
   obtain ⟨w, hw⟩ : ∃ w, l[i]? = some w := ⟨l[i], List.getElem?_eq_getElem hlt⟩
   have hstep : l.drop i = w :: l.drop (i + 1) := by
    rw [List.drop_eq_getElem_cons hlt]
    rw [List.getElem?_eq_getElem hlt] at hw
    cases hw; rfl
   have hm := hW w (List.mem_of_getElem? hw) (left - n') (nest + 1) (by omega) (by omega) (by omega) (by omega)
   obtain ⟨b1, b2, b3, b4, b5⟩ := V.rm_bnd vs nm w (left := left - n') (nest := nest + 1) (by omega)
   rw [hstep] at heq
   simp only [V.rmL] at heq
   generalize w.rm vs nm (left - n') (nest + 1) = x at heq b1 b2 b3 b4 b5 hm
   obtain ⟨x1, x2, ok⟩ := x
   dsimp only at b1 b2 b3 b4 b5 hm heq
   try refine aA ?_
   have hat := V.ps_at l i w hw
   have hle : i * 4 + 4 <= (V.ps l).length := by rw [V.ps_length]; omega
   rw [if_neg (by simp)] at heq
   try refine ax rfl hlt ?_
   try dsimp only [go_sem]
   try refine gg rfl hle ?_
   rw [hat]
   try dsimp only [go_sem]
   try refine aA ?_
   try rw [a8 (n := left - n') (by omega) (by omega), a8 (n := nest + 1) (by omega) (by omega)]
   try refine aI rfl (hm.frame (by simp only [okm.okL, okm, cX, Bool.and_self]) _) (Nat.le_refl _) ?_
   try dsimp only [go_sem]
   try refine aA ?_
   cases ok with
   | false =>
    try refine aA ?_
    refine aF rfl ?_
    try dsimp only [go_sem]
    try refine aA ?_
    rw [<- heq]
    exact aE 0 rfl (Nat.zero_le _) rfl rfl ⟨rfl, rfl⟩
   | true =>
    try refine aA ?_
    obtain b5 := b5 rfl
    rw [if_pos rfl] at heq
    try rw [a8 (n := n' + x1) (by omega) (by omega), a8 (n := (i : Int) + 1) (by omega) (by omega)]
    refine aF rfl ?_
    refine ⟨l.length - (i + 1), by omega, i + 1, n' + x1, max d x2, rfl, by omega, ?_, rfl, by omega, by omega, by omega, by omega, heq⟩
    rw [show (if x2 > d then x2 else d) = max d x2 by rw [Int.max_def]; split <;> split <;> omega]
    rfl
  ·have hge : i = l.length := by have := of_decide_eq_false hge; omega
   subst hge
   rw [List.drop_length] at heq
   refine aF rfl ?_
   try dsimp only [go_sem]
   try refine aA ?_
   try rw [a8 (n := d + 1) (by omega) (by omega)]
   rw [<- heq]
   exact aE 0 rfl (Nat.zero_le _) rfl rfl ⟨rfl, rfl⟩
 have k5 : ¬ k = 5 := by simpa using hk
 rw [if_neg k5]
 try refine aA ?_
 exact aE 0 rfl (Nat.zero_le _) rfl rfl ⟨rfl, rfl⟩
mutual
theorem rQ (hE : SxEnv E) (h33 : aC E cfg fuel 33 3 = some t33) (hI : ∀ n : Int, PR E gl 21 [I n] [] (Bo (decide (n >= -1152921504606846976) && decide (n <= 1152921504606846975))) [])
  (bad : ByteArray -> Int) (hB : ∀ s, s.size <= 4096 -> PR E gl 56 [St s] [] (I (bad s)) []) (hvs : ∀ s, decide (bad s < 0) = vs s) (hN : ∀ s, s.size <= 1048576 -> PR E gl 57 [St s] [] (Bo (nm s)) []) :
  ∀ v : V, v.sz <= 1048576 -> jA vs nm E gl v
 | .mk k n s l, h => have a := rR hE h33 hI bad hB hvs hN l (by simp only [V.sz] at h; omega)
  CK vs nm hE h33 hI bad hB hvs hN h fun k' n' s' l' e => by cases e; exact a
theorem rR (hE : SxEnv E) (h33 : aC E cfg fuel 33 3 = some t33) (hI : ∀ n : Int, PR E gl 21 [I n] [] (Bo (decide (n >= -1152921504606846976) && decide (n <= 1152921504606846975))) [])
  (bad : ByteArray -> Int) (hB : ∀ s, s.size <= 4096 -> PR E gl 56 [St s] [] (I (bad s)) []) (hvs : ∀ s, decide (bad s < 0) = vs s) (hN : ∀ s, s.size <= 1048576 -> PR E gl 57 [St s] [] (Bo (nm s)) []) :
  ∀ l : List V, V.szs l <= 1048576 -> ∀ w, w ∈ l -> jA vs nm E gl w
 | [], _ => fun _ hw => by cases hw
 | v :: l, h => have h' : v.sz <= 1048576 /\ V.szs l <= 1048576 := by simp only [V.szs] at h; omega
  have a := rQ hE h33 hI bad hB hvs hN v h'.1; have b := rR hE h33 hI bad hB hvs hN l h'.2
  fun w hw => by
   rcases List.mem_cons.mp hw with hw | hw
   ·subst hw; exact a
   ·exact b w hw
end
def V.sound (v : V) : Bool := (v.rm vs nm 1024 0).2.2 && !(decide (v.k = 7))
theorem CL (hE : SxEnv E) (h16 : aC E cfg fuel 16 1 = some t16) (h33 : aC E cfg fuel 33 3 = some t33) (hI : ∀ n : Int, PR E gl 21 [I n] [] (Bo (decide (n >= -1152921504606846976) && decide (n <= 1152921504606846975))) [])
  (bad : ByteArray -> Int) (hB : ∀ s, s.size <= 4096 -> PR E gl 56 [St s] [] (I (bad s)) []) (hvs : ∀ s, decide (bad s < 0) = vs s) (hN : ∀ s, s.size <= 1048576 -> PR E gl 57 [St s] [] (Bo (nm s)) [])
  (v : V) (hv : v.sz <= 1048576) : PR E gl 16 [.agg v.p] [] (Bo (v.sound vs nm)) [] := by
 refine fnZ hE (cfg := cfg) (fuel := fuel) h16 (by kernel_rfl) ?_
 unfold t16
 have hm := rQ vs nm hE h33 hI bad hB hvs hN v hv 1024 0 (by omega) (by omega) (by omega) (by omega)
 unfold V.sound
 generalize v.rm vs nm 1024 0 = x at hm ⊢
 obtain ⟨x1, x2, ok⟩ := x
 have ho := cX v
 obtain ⟨k, n, s, l⟩ := v
 dsimp only [V.p, V.k] at hm ho ⊢
 try refine aA ?_
 try refine aI rfl (hm.frame (by simpa [okm.okL, okm] using ho) _) (Nat.le_refl _) ?_
 try dsimp only [go_sem]
 cases ok with
 | true =>
  try refine aA ?_
  refine aE 0 rfl (Nat.zero_le _) rfl rfl ⟨?_, rfl⟩
  show [P.c (.bool (k != 7))] = _
  rw [show (k != 7) = (true && !decide (k = 7)) by rw [Bool.true_and]; rfl]
  rfl
 | false =>
  try refine aA ?_
  exact aE 0 rfl (Nat.zero_le _) rfl rfl ⟨rfl, rfl⟩
end
end Go.AM.PV
namespace Go.AM.PV
open Go Go.AM Go.AM.SX
attribute [local irreducible] pz aY
abbrev Chr := Int × Int × Int × Bool
def Chr.p (c : Chr) : List P := [.c (.int .i32 c.1), I c.2.1, I c.2.2.1, Bo c.2.2.2]
def Chr.ps : List Chr -> List P
 | [] => []
 | c :: l => Chr.p c ++ Chr.ps l
theorem ma : ∀ l : List Chr, okm.okL 0 (Chr.ps l) = true
 | [] => rfl
 | c :: l => by simp only [Chr.ps, Chr.p, List.cons_append, List.nil_append, okm.okL, okm, ma l, Bool.and_self]
def gp : ByteArray := ⟨[239, 191, 189].toArray⟩
def dw (s : ByteArray) (pos : Nat) (r : Int) (e : Nat) : Chr :=
 if r = 65533 then
  if pos + e > s.size then (r, pos, pos + 1, true) else
  if s.extract pos (pos + e) = gp then (r, pos, pos + e, false) else (r, pos, pos + 1, true)
 else (r, pos, pos + e, false)
def chr (s : ByteArray) (pos : Nat) : Chr := dw s pos ((Utf8.decode s pos).1 : Int) (Utf8.encode ((Utf8.decode s pos).1 : Int)).size
def chrs (s : ByteArray) : Nat -> Nat -> List Chr
 | 0, _ => []
 | n + 1, pos => if pos < s.size then chr s pos :: chrs s n (pos + (Utf8.decode s pos).2) else []
theorem Chr.ps_append : ∀ l m : List Chr, Chr.ps (l ++ m) = Chr.ps l ++ Chr.ps m
 | [], _ => rfl
 | c :: l, m => by simp only [List.cons_append, Chr.ps, Chr.ps_append l m, List.append_assoc]
theorem CM (n : Int) : (Utf8.encode n).size <= 4 := by
 unfold Utf8.encode
 dsimp only
 generalize (if Utf8.valid n = true then n.toNat else Utf8.runeError) = c
 split
 ·exact Nat.le_of_ble_eq_true rfl
 ·split
  ·exact Nat.le_of_ble_eq_true rfl
  ·split
   ·exact Nat.le_of_ble_eq_true rfl
   ·exact Nat.le_of_ble_eq_true rfl
theorem jB {s : ByteArray} {pos : Nat} (h : s.size <= pos) : ∀ n, chrs s n pos = []
 | 0 => rfl
 | n + 1 => by simp only [chrs]; rw [if_neg (by omega)]
section
variable {E : Env} {gl : List GRow} {cfg : Cfg} {fuel : Nat}
theorem CN (hE : SxEnv E) {inf : Nat -> TypeInfo} (h95 : aC E cfg fuel 95 1 = some (t95 inf)) (hi1 : (inf 151).size = 4) (hi2 : (inf 151).bytes = 32) {s : ByteArray} (hlen : s.size <= 1048576) :
  PR E gl 95 [St s] [] (.ow 151 4 (chrs s s.size 0).length (Chr.ps (chrs s s.size 0))) [] := by
 refine fnZ hE (cfg := cfg) (fuel := fuel) h95 (by kernel_rfl) ?_
 unfold t95
 refine gY rfl ?_
 try dsimp only [go_sem]
 refine ah (fun κ vs ν => ∃ (pos n : Nat) (a : List Chr), κ = s.size - pos /\ vs = [.ow 151 4 a.length (Chr.ps a)] /\ ν = [.sit s pos] /\ a.length <= pos /\ s.size <= pos + n /\ a ++ chrs s n pos = chrs s s.size 0) rfl s.size
  [.ow 151 4 0 []] (.cons _ _ _ _ (.nilow _ _) .nil) ⟨0, s.size, [], by omega, rfl, rfl, Nat.le_refl _, by omega, rfl⟩ ?_
 rintro κ vs ν ⟨pos, n, a, rfl, rfl, rfl, ha, hn, heq⟩
 try dsimp only [go_sem]
 refine gZ (i := 0) (s := s) (pos := pos) rfl rfl (fun hlt => ?_) (fun hge => ?_)
 ·obtain ⟨n, rfl⟩ : ∃ n', n = n' + 1 := ⟨n - 1, by omega⟩
  have hw : 1 <= (Utf8.decode s pos).2 := Lib.decode_width_pos s pos hlt
  simp only [chrs] at heq
  rw [if_pos hlt] at heq
  have hch : chr s pos = dw s pos ((Utf8.decode s pos).1 : Int) (Utf8.encode ((Utf8.decode s pos).1 : Int)).size := rfl
  generalize ((Utf8.decode s pos).1 : Int) = r at hch ⊢
  generalize (Utf8.decode s pos).2 = wd at hw heq ⊢
  try dsimp only [go_sem]
  try refine aA ?_
  have he := CM r
  generalize Utf8.encode r = eb at hch he ⊢
  try rw [a8 (n := (pos : Int) + (eb.size : Int)) (by omega) (by omega)]
  have done : ∀ c : Chr, c = chr s pos -> ∃ j, j < s.size - pos /\ ∃ pos' n a', j = s.size - pos' /\ [P.ow 151 4 (a.length + 1) (Chr.ps a ++ Chr.p c)] = [P.ow 151 4 (List.length a') (Chr.ps a')] /\
    [Ob.sit s (pos + wd)] = [Ob.sit s pos'] /\ a'.length <= pos' /\ s.size <= pos' + n /\ a' ++ chrs s n pos' = chrs s s.size 0 := by
   intro c hc
   subst hc
   refine ⟨_, ?_, pos + wd, n, a ++ [chr s pos], rfl, ?_, rfl, ?_, by omega, ?_⟩
   ·omega
   ·rw [Chr.ps_append]
    simp only [Chr.ps, List.append_nil, List.length_append, List.length_cons, List.length_nil, Nat.zero_add]
   ·simp only [List.length_append, List.length_cons, List.length_nil]; omega
   ·rw [List.append_assoc]
    exact heq
  refine aG rfl (fun hr => ?_) (fun hr => ?_)
  ·have hr : r = 65533 := eq_of_beq hr
   try refine aA ?_
   refine aG rfl (fun hb => ?_) (fun hb => ?_)
   ·have hb := of_decide_eq_true hb
    try refine aA ?_
    try rw [a8 (n := (pos : Int) + 1) (by omega) (by omega)]
    refine cW rfl rfl rfl hi1 rfl rfl rfl rfl (by rw [hi2]; omega) (by omega) ?_
    try dsimp only [go_sem]
    refine aF rfl ?_
    try dsimp only [go_sem]
    refine done (r, (pos : Int), (pos : Int) + 1, true) ?_
    rw [hch]
    unfold dw
    rw [if_pos hr, if_pos (by omega)]
   ·have hb := of_decide_eq_false hb
    try refine aA ?_
    refine w9 (s := s) (l := pos) (h := pos + eb.size) rfl (by omega) (by omega) ?_
    try dsimp only [go_sem]
    try refine aA ?_
    refine aG rfl (fun hb => ?_) (fun hb => ?_)
    ·have hx : ¬ s.extract pos (pos + eb.size) = gp := by
      intro e
      have hb : (!(s.extract pos (pos + eb.size)).data.toList == [239, 191, 189]) = true := hb
      rw [e] at hb
      simp [gp] at hb
     try refine aA ?_
     try rw [a8 (n := (pos : Int) + 1) (by omega) (by omega)]
     refine cW rfl rfl rfl hi1 rfl rfl rfl rfl (by rw [hi2]; omega) (by omega) ?_
     try dsimp only [go_sem]
     refine aF rfl ?_
     try dsimp only [go_sem]
     refine done (r, (pos : Int), (pos : Int) + 1, true) ?_
     rw [hch]
     unfold dw
     rw [if_pos hr, if_neg (by omega), if_neg hx]
    ·have hx : s.extract pos (pos + eb.size) = gp := by
      have hb : (!(s.extract pos (pos + eb.size)).data.toList == [239, 191, 189]) = false := hb
      generalize s.extract pos (pos + eb.size) = x at hb
      have h3 : x.data.toList = [239, 191, 189] := by simpa using hb
      obtain ⟨xd⟩ := x
      unfold gp
      rw [<- h3]
     try refine aA ?_
     refine cW rfl rfl rfl hi1 rfl rfl rfl rfl (by rw [hi2]; omega) (by omega) ?_
     try dsimp only [go_sem]
     refine aF rfl ?_
     try dsimp only [go_sem]
     refine done (r, (pos : Int), (pos : Int) + (eb.size : Int), false) ?_
     rw [hch]
     unfold dw
     rw [if_pos hr, if_neg (by omega), if_pos hx]
  ·have hr : ¬ r = 65533 := beq_eq_false_iff_ne.mp hr
   try refine aA ?_
   refine cW rfl rfl rfl hi1 rfl rfl rfl rfl (by rw [hi2]; omega) (by omega) ?_
   try dsimp only [go_sem]
   refine aF rfl ?_
   try dsimp only [go_sem]
   refine done (r, (pos : Int), (pos : Int) + (eb.size : Int), false) ?_
   rw [hch]
   unfold dw
   rw [if_neg hr]
 ·rw [jB hge, List.append_nil] at heq
  subst heq
  try dsimp only [go_sem]
  try refine aA ?_
  refine aF rfl ?_
  try dsimp only [go_sem]
  try refine aA ?_
  exact aE 0 rfl (Nat.zero_le _) (by show (okm 0 (.ow 151 4 (chrs s s.size 0).length (Chr.ps (chrs s s.size 0))) && true) = true; simp only [okm, ma, Bool.and_true]) rfl ⟨rfl, rfl⟩
end
theorem Chr.ps_at : ∀ (l : List Chr) (i j : Nat) (c : Chr), l[i]? = some c -> j < 4 -> (Chr.ps l)[i * 4 + j]? = (Chr.p c)[j]?
 | [], i, j, c, h, _ => by simp at h
 | w :: l, 0, j, c, h, hj => by
  simp only [List.getElem?_cons_zero, Option.some.injEq] at h
  subst h
  simp only [Chr.ps, Nat.zero_mul, Nat.zero_add]
  rw [List.getElem?_append_left (by show j < 4; exact hj)]
 | w :: l, i + 1, j, c, h, hj => by
  simp only [List.getElem?_cons_succ] at h
  simp only [Chr.ps]
  rw [List.getElem?_append_right (by show 4 <= (i + 1) * 4 + j; omega), show (i + 1) * 4 + j - (Chr.p w).length = i * 4 + j by show (i + 1) * 4 + j - 4 = _; omega]
  exact Chr.ps_at l i j c h hj
theorem Chr.ps_k {l : List Chr} {i : Nat} {c : Chr} (h : l[i]? = some c) : (Chr.ps l)[i * 4]? = some (.c (.int .i32 c.1)) /\ (Chr.ps l)[i * 4 + 1]? = some (I c.2.1) /\ (Chr.ps l)[i * 4 + 2]? = some (I c.2.2.1) /\ (Chr.ps l)[i * 4 + 3]? = some (Bo c.2.2.2) :=
 ⟨Chr.ps_at l i 0 c h (by omega), Chr.ps_at l i 1 c h (by omega), Chr.ps_at l i 2 c h (by omega), Chr.ps_at l i 3 c h (by omega)⟩
theorem kL (s : ByteArray) : ∀ (n pos : Nat), (chrs s n pos).length <= n
 | 0, _ => Nat.le_refl _
 | n + 1, pos => by
  simp only [chrs]
  split
  ·have := kL s n (pos + (Utf8.decode s pos).2)
   simp only [List.length_cons]; omega
  ·exact Nat.zero_le _
def fZ : List Chr -> Int
 | [] => -1
 | c :: l => if c.2.2.2 then c.2.1 else fZ l
def bad (s : ByteArray) : Int := fZ (chrs s s.size 0)
section
variable {E : Env} {gl : List GRow} {cfg : Cfg} {fuel : Nat}
theorem CO (hE : SxEnv E) (h56 : aC E cfg fuel 56 1 = some t56) {s : ByteArray} (hlen : s.size <= 1048576)
  (h95 : PR E gl 95 [St s] [] (.ow 151 4 (chrs s s.size 0).length (Chr.ps (chrs s s.size 0))) []) : PR E gl 56 [St s] [] (I (bad s)) [] := by
 refine fnZ hE (cfg := cfg) (fuel := fuel) h56 (by kernel_rfl) ?_
 unfold t56
 have hl := kL s s.size 0
 unfold bad
 generalize chrs s s.size 0 = l at h95 hl ⊢
 try refine aI rfl h95 (Nat.le_refl _) ?_
 try dsimp only [go_sem]
 refine ah (fun κ vs ν => ν = [] /\ ∃ i, κ = l.length - i /\ i <= l.length /\ vs = [I 0, I i] /\ fZ (l.drop i) = fZ l) rfl l.length _ (LeL.refl _) ⟨rfl, 0, by omega, by omega, rfl, rfl⟩ ?_
 rintro κ vs ν ⟨rfl, i, rfl, hi, rfl, heq⟩
 try dsimp only [go_sem]
 try refine aA ?_
 refine aG rfl (fun hlt => ?_) (fun hge => ?_)
 ·have hlt : i < l.length := by have := of_decide_eq_true hlt; omega
  obtain ⟨c, hc⟩ : ∃ c, l[i]? = some c := ⟨l[i], List.getElem?_eq_getElem hlt⟩
  have hstep : l.drop i = c :: l.drop (i + 1) := by
   rw [List.drop_eq_getElem_cons hlt]
   rw [List.getElem?_eq_getElem hlt] at hc
   cases hc; rfl
  obtain ⟨c0, c1, c2, c3⟩ := Chr.ps_k hc
  obtain ⟨x1, x2, x3, x4⟩ := c
  rw [hstep] at heq
  simp only [fZ] at heq
  try refine ax rfl hlt ?_
  try dsimp only [go_sem]
  try refine aA ?_
  try refine bG rfl c3 ?_
  try dsimp only [go_sem]
  cases x4 with
  | true =>
   try refine aA ?_
   try refine ax rfl hlt ?_
   try dsimp only [go_sem]
   try refine aA ?_
   try refine bG rfl c1 ?_
   try dsimp only [go_sem]
   refine aF rfl ?_
   try dsimp only [go_sem]
   try refine aA ?_
   rw [<- heq]
   exact aE 0 rfl (Nat.zero_le _) rfl rfl ⟨rfl, rfl⟩
  | false =>
   try refine aA ?_
   try rw [a8 (n := (i : Int) + 1) (by omega) (by omega)]
   refine aF rfl ?_
   exact ⟨l.length - (i + 1), by omega, rfl, i + 1, rfl, by omega, rfl, heq⟩
 ·have hge : i = l.length := by have := of_decide_eq_false hge; omega
  subst hge
  rw [List.drop_length] at heq
  refine aF rfl ?_
  try dsimp only [go_sem]
  try refine aA ?_
  rw [<- heq]
  exact aE 0 rfl (Nat.zero_le _) rfl rfl ⟨rfl, rfl⟩
end
end Go.AM.PV
namespace Go.AM.PV
open Go Go.AM Go.AM.SX
theorem CP : Lib.encodeRune 65533 = [239, 191, 189] := by decide
theorem CQ : (Utf8.encode 65533).size = 3 := by decide
theorem CR (l : List UInt8) : Lib.decodeL (239 :: 191 :: 189 :: l) = (65533, 3) := by
 rw [Lib.decodeL_N]
 have h : (239 :: 191 :: 189 :: l).length = l.length + 3 := rfl
 rw [h]
 simp [Lib.decodeN]
theorem CS (s : ByteArray) (pos : Nat) (h : pos < s.size) : (chr s pos).2.2.2 = decide ((Utf8.decode s pos).1 = 65533 /\ (Utf8.decode s pos).2 = 1) := by
 have hd := Lib.decodeL_drop s pos
 have hne : s.data.toList.drop pos ≠ [] := by
  intro e
  have := congrArg List.length e
  rw [List.length_drop, <- Lib.size_eq] at this
  simp at this
  omega
 have hl : (s.data.toList.drop pos).length = s.size - pos := by rw [List.length_drop, <- Lib.size_eq]
 have hx : ∀ k, (s.extract pos (pos + k)).data.toList = (s.data.toList.drop pos).take k := by
  intro k
  rw [Lib.extract_data, show pos + k - pos = k by omega]
 unfold chr dw
 by_cases hr : (Utf8.decode s pos).1 = 65533
 ·rw [hr]
  rw [show (((65533 : Nat) : Int)) = 65533 from rfl, if_pos rfl, CQ]
  by_cases hw : (Utf8.decode s pos).2 = 1
  ·rw [hw, decide_eq_true ⟨rfl, rfl⟩]
   split
   ·rfl
   ·split
    ·rename_i h1 h2
     have h3 := hx 3
     rw [h2] at h3
     have h4 : s.data.toList.drop pos = 239 :: 191 :: 189 :: (s.data.toList.drop pos).drop 3 := by
      have := List.take_append_drop 3 (s.data.toList.drop pos)
      rw [<- h3] at this
      exact this.symm
     rw [h4, CR] at hd
     rw [<- hd] at hw
     simp at hw
    ·rfl
  ·rw [decide_eq_false (fun e => hw e.2)]
   have he := Lib.encode_decode _ hne (by rw [hd]; exact fun e => hw e.2)
   rw [hd, hr, show (((65533 : Nat) : Int)) = 65533 from rfl, CP] at he
   have hlen : 3 <= s.size - pos := by
    have := congrArg List.length he
    rw [List.length_take, hl] at this
    simp at this
    omega
   have hk : 3 <= (Utf8.decode s pos).2 := by
    have := congrArg List.length he
    rw [List.length_take, hl] at this
    simp at this
    omega
   rw [if_neg (by omega)]
   rw [if_pos]
   have h3 : (s.extract pos (pos + 3)).data.toList = [239, 191, 189] := by
    rw [hx]
    have := congrArg (List.take 3) he
    rw [List.take_take, Nat.min_eq_left hk] at this
    exact this.symm
   generalize s.extract pos (pos + 3) = x at h3
   obtain ⟨xd⟩ := x
   unfold gp
   rw [<- h3]
 ·rw [decide_eq_false (fun e => hr e.1), if_neg (by omega)]
theorem rS (s : ByteArray) : ∀ n pos, s.size <= pos + n -> (fZ (chrs s n pos) < 0 <-> Lib.validD (s.data.toList.drop pos) = true)
 | 0, pos, h => by
  rw [List.drop_of_length_le (by rw [<- Lib.size_eq]; omega)]
  exact ⟨fun _ => rfl, fun _ => by show (-1 : Int) < 0; omega⟩
 | n + 1, pos, h => by
  simp only [chrs]
  by_cases hlt : pos < s.size
  ·rw [if_pos hlt]
   have hne : s.data.toList.drop pos ≠ [] := by
    intro e
    have := congrArg List.length e
    rw [List.length_drop, <- Lib.size_eq] at this
    simp at this
    omega
   rw [Lib.validD_step _ hne, Lib.decodeL_drop, List.drop_drop]
   have hw : 1 <= (Utf8.decode s pos).2 := Lib.decode_width_pos s pos hlt
   have ih := rS s n (pos + (Utf8.decode s pos).2) (by omega)
   simp only [fZ]
   rw [CS s pos hlt]
   by_cases hb : (Utf8.decode s pos).1 = 65533 /\ (Utf8.decode s pos).2 = 1
   ·rw [if_pos hb, decide_eq_true hb, if_pos rfl]
    have : (chr s pos).2.1 = (pos : Int) := by
     unfold chr dw
     split
     ·split
      ·rfl
      ·split <;> rfl
     ·rfl
    rw [this]
    exact ⟨fun h => by omega, fun h => by cases h⟩
   ·rw [if_neg hb, decide_eq_false hb]
    exact ih
  ·rw [if_neg hlt, List.drop_of_length_le (by rw [<- Lib.size_eq]; omega)]
   exact ⟨fun _ => rfl, fun _ => by show (-1 : Int) < 0; omega⟩
theorem CT (s : ByteArray) : decide (bad s < 0) = Lib.validD s.data.toList := by
 have h := rS s s.size 0 (by omega)
 rw [List.drop_zero] at h
 unfold bad
 cases hv : Lib.validD s.data.toList with
 | true => exact decide_eq_true (h.2 hv)
 | false => exact decide_eq_false fun e => by rw [h.1 e] at hv; cases hv
end Go.AM.PV
