/- slices.Concat of two slices. -/
import Derived.Test.YtilbjefgojocaaaGreatDoorPbMeas
import Derived.Lib.RuneCount
import Derived.Lib.MapLaws
import Derived.Lib.ValidLaws
import Derived.Lib.ValidAsc
import Derived.Lib.TrimAscii
import Derived.Shelf.Unicode.DecodeAny
namespace Go.AM.PV
open Go Go.AM Go.AM.SX
attribute [local irreducible] pz LoopP

def V.k : V → Int | .mk k _ _ _ => k
theorem V.sz_pos (v : V) : 1 ≤ v.sz := by cases v; simp only [V.sz]; omega
theorem V.sz_len : ∀ l : List V, l.length ≤ V.szs l
 | [] => Nat.le_refl _
 | v :: l => by have := V.sz_pos v; have := V.sz_len l; simp only [V.szs, List.length_cons]; omega
abbrev R3 := Int × Int × Bool
def gateR (left nest : Int) (r : R3) : R3 := if left < 1 then (0, 0, false) else if nest > 32 then (0, 0, false) else r
def finR (x : R3) : R3 := if x.2.2 then (x.1, x.2.1 + 1, decide (x.2.1 < 32)) else (0, 0, false)
section
variable (vs nm : ByteArray → Bool)
mutual
def V.rm : V → Int → Int → R3
 | .mk k n s l, left, nest => gateR left nest (
  if k = 1 then (1, 0, decide (n ≥ -1152921504606846976) && decide (n ≤ 1152921504606846975)) else
  if k = 2 then (1, 0, decide ((s.size : Int) ≤ 4096) && vs s) else
  if k = 3 then (1, 0, true) else
  if k = 6 then (1, 0, decide (n ≥ 1) && decide (n ≤ 1048576)) else
  if k = 7 then (1, 0, nm s) else
  if k = 4 then finR (V.rmL true l left (nest + 1) 1 0) else
  if k = 5 then finR (V.rmL false l left (nest + 1) 1 0) else (0, 0, false))
def V.rmL (b : Bool) : List V → Int → Int → Int → Int → R3
 | [], _, _, n, d => (n, d, true)
 | v :: l, left, nest, n, d => if b && decide (v.k = 7) then (0, 0, false) else
  if (v.rm (left - n) nest).2.2 then V.rmL b l left nest (n + (v.rm (left - n) nest).1) (max d (v.rm (left - n) nest).2.1) else (0, 0, false)
end
/-- What comes of it is within bounds. -/
def BndR (left : Int) (x : R3) : Prop := 0 ≤ x.1 ∧ x.1 ≤ left ∧ 0 ≤ x.2.1 ∧ x.2.1 ≤ 33 ∧ (x.2.2 = true → x.2.1 ≤ 32)
def BndRL (left : Int) (x : R3) : Prop := 0 ≤ x.1 ∧ x.1 ≤ left ∧ 0 ≤ x.2.1 ∧ x.2.1 ≤ 32
theorem gateR_bnd {left nest : Int} {r : R3} (h : 0 ≤ left) (hr : 1 ≤ left → BndR left r) : BndR left (gateR left nest r) := by
 unfold gateR
 split
 ·exact ⟨Int.le_refl _, h, Int.le_refl _, by show (0 : Int) ≤ 33; omega, fun e => by cases e⟩
 ·split
  ·exact ⟨Int.le_refl _, h, Int.le_refl _, by show (0 : Int) ≤ 33; omega, fun e => by cases e⟩
  ·exact hr (by omega)
theorem leafR_bnd {left n : Int} {b : Bool} (h0 : 0 ≤ n) (h : n ≤ left) : BndR left (n, 0, b) := ⟨h0, h, Int.le_refl _, by show (0 : Int) ≤ 33; omega, fun _ => by show (0 : Int) ≤ 32; omega⟩
theorem finR_bnd {left : Int} {x : R3} (h0 : 0 ≤ left) (h : BndRL left x) : BndR left (finR x) := by
 obtain ⟨h1, h2, h3, h4⟩ := h
 unfold finR
 split
 ·exact ⟨h1, h2, by show 0 ≤ x.2.1 + 1; omega, by show x.2.1 + 1 ≤ 33; omega, fun e => by have : x.2.1 < 32 := of_decide_eq_true e; show x.2.1 + 1 ≤ 32; omega⟩
 ·exact ⟨Int.le_refl _, h0, Int.le_refl _, by show (0 : Int) ≤ 33; omega, fun e => by cases e⟩
mutual
theorem V.rm_bnd : ∀ (v : V) {left nest : Int}, 0 ≤ left → BndR left (v.rm vs nm left nest)
 | .mk k n s l, left, nest, h => by
  simp only [V.rm]
  refine gateR_bnd h fun h1 => ?_
  by_cases k1 : k = 1
  ·rw [if_pos k1]; exact leafR_bnd (by omega) h1
  rw [if_neg k1]
  by_cases k2 : k = 2
  ·rw [if_pos k2]; exact leafR_bnd (by omega) h1
  rw [if_neg k2]
  by_cases k3 : k = 3
  ·rw [if_pos k3]; exact leafR_bnd (by omega) h1
  rw [if_neg k3]
  by_cases k6 : k = 6
  ·rw [if_pos k6]; exact leafR_bnd (by omega) h1
  rw [if_neg k6]
  by_cases k7 : k = 7
  ·rw [if_pos k7]; exact leafR_bnd (by omega) h1
  rw [if_neg k7]
  by_cases k4 : k = 4
  ·rw [if_pos k4]; exact finR_bnd h (V.rmL_bnd true l h1 (by omega) (Int.le_refl 0) (by omega))
  rw [if_neg k4]
  by_cases k5 : k = 5
  ·rw [if_pos k5]; exact finR_bnd h (V.rmL_bnd false l h1 (by omega) (Int.le_refl 0) (by omega))
  rw [if_neg k5]
  exact leafR_bnd (Int.le_refl 0) h
theorem V.rmL_bnd (b : Bool) : ∀ (l : List V) {left nest n d : Int}, n ≤ left → 0 ≤ n → 0 ≤ d → d ≤ 32 → BndRL left (V.rmL vs nm b l left nest n d)
 | [], left, nest, n, d, h, h0, hd, he => ⟨h0, h, hd, he⟩
 | v :: l, left, nest, n, d, h, h0, hd, he => by
  obtain ⟨b1, b2, b3, b4, b5⟩ := V.rm_bnd v (left := left - n) (nest := nest) (by omega)
  have z : BndRL left (0, 0, false) := ⟨Int.le_refl _, by show 0 ≤ left; omega, Int.le_refl _, by show (0 : Int) ≤ 32; omega⟩
  simp only [V.rmL]
  split
  ·exact z
  ·split
   ·rename_i hok
    have := b5 hok
    exact V.rmL_bnd b l (by omega) (by omega) (by omega) (by omega)
   ·exact z
end
end
section
variable {E : Env} {gl : List GRow} {cfg : Cfg} {fuel : Nat} (vs nm : ByteArray → Bool)
/-- What is said of a look at a tree. -/
def MeasR (E : Env) (gl : List GRow) (v : V) : Prop := ∀ left nest : Int, 0 ≤ left → left ≤ 1024 → 0 ≤ nest → nest ≤ 33 →
 PR E gl 33 [.agg v.p, I left, I nest] [] (.tup [I (v.rm vs nm left nest).1, I (v.rm vs nm left nest).2.1, Bo (v.rm vs nm left nest).2.2]) []
set_option maxHeartbeats 4000000 in
theorem refMeasure_ok (hE : SxEnv E) (h33 : sxFn E cfg fuel 33 3 = some t33) (hI : ∀ n : Int, PR E gl 21 [I n] [] (Bo (decide (n ≥ -1152921504606846976) && decide (n ≤ 1152921504606846975))) [])
  (bad : ByteArray → Int) (hB : ∀ s, s.size ≤ 4096 → PR E gl 56 [St s] [] (I (bad s)) []) (hvs : ∀ s, decide (bad s < 0) = vs s) (hN : ∀ s, s.size ≤ 1048576 → PR E gl 57 [St s] [] (Bo (nm s)) []) {v : V} (hsm : v.sz ≤ 1048576)
  (hL : ∀ k n s l, v = .mk k n s l → ∀ w, w ∈ l → MeasR vs nm E gl w) : MeasR vs nm E gl v := by
 intro left nest hl0 hl1 hn0 hn1
 refine fnZ hE (cfg := cfg) (fuel := fuel) h33 (by kernel_rfl) ?_
 unfold t33
 obtain ⟨k, n, s, l⟩ := v
 have hlen : l.length ≤ 1048576 := by
  have := V.sz_len l
  simp only [V.sz] at hsm; omega
 have hss : s.size ≤ 1048576 := by simp only [V.sz] at hsm; omega
 have hW : ∀ w, w ∈ l → MeasR vs nm E gl w := hL k n s l rfl
 clear hL
 simp only [V.rm, gateR]
 dsimp only [V.p]
 try refine z_run ?_
 refine z_br rfl (fun h => ?_) (fun h => ?_)
 ·have h := of_decide_eq_true h
  rw [if_pos h]
  try refine z_run ?_
  exact z_finD 0 rfl (Nat.le_refl _) rfl rfl ⟨rfl, rfl⟩
 have h1 : ¬ left < 1 := of_decide_eq_false h
 rw [if_neg h1]
 try refine z_run ?_
 refine z_br rfl (fun h => ?_) (fun h => ?_)
 ·have h := of_decide_eq_true h
  rw [if_pos h]
  try refine z_run ?_
  exact z_finD 0 rfl (Nat.le_refl _) rfl rfl ⟨rfl, rfl⟩
 have h2 : ¬ nest > 32 := of_decide_eq_false h
 rw [if_neg h2]
 try refine z_run ?_
 refine z_br rfl (fun hk => ?_) (fun hk => ?_)
 ·have hk : k = 1 := by simpa using hk
  rw [if_pos hk]
  try refine z_run ?_
  try refine z_call rfl ((hI n).frame rfl _) (Nat.le_refl _) ?_
  try dsimp only [go_sem]
  try refine z_run ?_
  exact z_finD 0 rfl (Nat.zero_le _) rfl rfl ⟨rfl, rfl⟩
 have k1 : ¬ k = 1 := by simpa using hk
 rw [if_neg k1]
 try refine z_run ?_
 refine z_br rfl (fun hk => ?_) (fun hk => ?_)
 ·have hk : k = 2 := by simpa using hk
  rw [if_pos hk]
  try refine z_run ?_
  refine z_br rfl (fun h => ?_) (fun h => ?_)
  ·try refine z_run ?_
   try refine z_call rfl ((hB s (by have h' : decide ((s.size : Int) ≤ 4096) = true := h; have := of_decide_eq_true h'; omega)).frame rfl _) (Nat.le_refl _) ?_
   try dsimp only [go_sem]
   try refine z_run ?_
   refine z_finD 0 rfl (Nat.zero_le _) rfl rfl ⟨?_, rfl⟩
   have h : decide ((s.size : Int) ≤ 4096) = true := h
   rw [h, ← hvs]
   rfl
  ·try refine z_run ?_
   refine z_finD 0 rfl (Nat.zero_le _) rfl rfl ⟨?_, rfl⟩
   have h : decide ((s.size : Int) ≤ 4096) = false := h
   rw [h]
   rfl
 have k2 : ¬ k = 2 := by simpa using hk
 rw [if_neg k2]
 try refine z_run ?_
 refine z_br rfl (fun hk => ?_) (fun hk => ?_)
 ·have hk : k = 3 := by simpa using hk
  rw [if_pos hk]
  try refine z_run ?_
  exact z_finD 0 rfl (Nat.zero_le _) rfl rfl ⟨rfl, rfl⟩
 have k3 : ¬ k = 3 := by simpa using hk
 rw [if_neg k3]
 try refine z_run ?_
 refine z_br rfl (fun hk => ?_) (fun hk => ?_)
 ·have hk : k = 6 := by simpa using hk
  rw [if_pos hk]
  try refine z_run ?_
  refine z_br rfl (fun h => ?_) (fun h => ?_)
  ·have h : decide (n ≥ 1) = true := h
   try refine z_run ?_
   refine z_finD 0 rfl (Nat.zero_le _) rfl rfl ⟨?_, rfl⟩
   rw [h]
   rfl
  ·have h : decide (n ≥ 1) = false := h
   try refine z_run ?_
   refine z_finD 0 rfl (Nat.zero_le _) rfl rfl ⟨?_, rfl⟩
   rw [h]
   rfl
 have k6 : ¬ k = 6 := by simpa using hk
 rw [if_neg k6]
 try refine z_run ?_
 refine z_br rfl (fun hk => ?_) (fun hk => ?_)
 ·have hk : k = 7 := by simpa using hk
  rw [if_pos hk]
  try refine z_run ?_
  try refine z_call rfl ((hN s hss).frame rfl _) (Nat.le_refl _) ?_
  try dsimp only [go_sem]
  try refine z_run ?_
  exact z_finD 0 rfl (Nat.zero_le _) rfl rfl ⟨rfl, rfl⟩
 have k7 : ¬ k = 7 := by simpa using hk
 rw [if_neg k7]
 try refine z_run ?_
 refine z_br rfl (fun hk => ?_) (fun hk => ?_)
 ·have hk : k = 4 := by simpa using hk
  rw [if_pos hk]
  subst hk
  try refine z_run ?_
  refine z_loop (fun κ us ν => ∃ (i : Nat) (n' d : Int), κ = l.length - i ∧ i ≤ l.length ∧ us = [Bo false, I n', I d, I i] ∧ ν = [.cells [I 4, I n, St s, .sl 4 l.length (V.ps l)]] ∧ 0 ≤ n' ∧ n' ≤ left ∧ 0 ≤ d ∧ d ≤ 32 ∧
   V.rmL vs nm true (l.drop i) left (nest + 1) n' d = V.rmL vs nm true l left (nest + 1) 1 0) rfl l.length _ (LeL.refl _) ⟨0, 1, 0, by omega, by omega, rfl, rfl, by omega, by omega, by omega, by omega, rfl⟩ ?_
  rintro κ us ν ⟨i, n', d, rfl, hi, rfl, rfl, hf0, hf1, hd0, hd1, heq⟩
  try dsimp only [go_sem]
  try refine z_run ?_
  refine z_br rfl (fun hlt => ?_) (fun hge => ?_)
  ·have hlt : i < l.length := by have := of_decide_eq_true hlt; omega
   obtain ⟨w, hw⟩ : ∃ w, l[i]? = some w := ⟨l[i], List.getElem?_eq_getElem hlt⟩
   have hstep : l.drop i = w :: l.drop (i + 1) := by
    rw [List.drop_eq_getElem_cons hlt]
    rw [List.getElem?_eq_getElem hlt] at hw
    cases hw; rfl
   have hm := hW w (List.mem_of_getElem? hw) (left - n') (nest + 1) (by omega) (by omega) (by omega) (by omega)
   obtain ⟨b1, b2, b3, b4, b5⟩ := V.rm_bnd vs nm w (left := left - n') (nest := nest + 1) (by omega)
   rw [hstep] at heq
   simp only [V.rmL] at heq
   generalize w.rm vs nm (left - n') (nest + 1) = x at heq b1 b2 b3 b4 b5 hm
   obtain ⟨x1, x2, ok⟩ := x
   dsimp only at b1 b2 b3 b4 b5 hm heq
   try refine z_run ?_
   have hat := V.ps_at l i w hw
   have hle : i * 4 + 4 ≤ (V.ps l).length := by rw [V.ps_length]; omega
   have hat0 : (V.ps l)[i * 4]? = some (I w.k) := by
    have := congrArg (fun z => z[0]?) hat
    obtain ⟨wk, wn, ws, wl⟩ := w
    have this : (V.ps l)[i * 4]? = (V.mk wk wn ws wl).p[0]? := by simpa using this
    exact this
   try refine zn_idx rfl hlt ?_
   try dsimp only [go_sem]
   try refine z_run ?_
   try refine zn_ld1 rfl hat0 ?_
   try dsimp only [go_sem]
   try refine z_run ?_
   refine z_br rfl (fun h7 => ?_) (fun h7 => ?_)
   ·have h7 : w.k = 7 := by simpa using h7
    rw [if_pos (by simp [h7])] at heq
    try refine z_run ?_
    refine z_fin rfl ?_
    try dsimp only [go_sem]
    try refine z_run ?_
    rw [← heq]
    exact z_finD 0 rfl (Nat.zero_le _) rfl rfl ⟨rfl, rfl⟩
   have h7 : ¬ w.k = 7 := by simpa using h7
   rw [if_neg (by simp [h7])] at heq
   try refine z_run ?_
   try refine zn_idx rfl hlt ?_
   try dsimp only [go_sem]
   try refine zn_ldn rfl hle ?_
   rw [hat]
   try dsimp only [go_sem]
   try refine z_run ?_
   try rw [wrapI (n := left - n') (by omega) (by omega), wrapI (n := nest + 1) (by omega) (by omega)]
   try refine z_call rfl (hm.frame (by simp only [okm.okL, okm, okL_v, Bool.and_self]) _) (Nat.le_refl _) ?_
   try dsimp only [go_sem]
   try refine z_run ?_
   cases ok with
   | false =>
    try refine z_run ?_
    refine z_fin rfl ?_
    try dsimp only [go_sem]
    try refine z_run ?_
    rw [← heq]
    exact z_finD 0 rfl (Nat.zero_le _) rfl rfl ⟨rfl, rfl⟩
   | true =>
    try refine z_run ?_
    obtain b5 := b5 rfl
    rw [if_pos rfl] at heq
    try rw [wrapI (n := n' + x1) (by omega) (by omega), wrapI (n := (i : Int) + 1) (by omega) (by omega)]
    refine z_fin rfl ?_
    refine ⟨l.length - (i + 1), by omega, i + 1, n' + x1, max d x2, rfl, by omega, ?_, rfl, by omega, by omega, by omega, by omega, heq⟩
    rw [show (if x2 > d then x2 else d) = max d x2 by rw [Int.max_def]; split <;> split <;> omega]
    rfl
  ·have hge : i = l.length := by have := of_decide_eq_false hge; omega
   subst hge
   rw [List.drop_length] at heq
   refine z_fin rfl ?_
   try dsimp only [go_sem]
   try refine z_run ?_
   try rw [wrapI (n := d + 1) (by omega) (by omega)]
   rw [← heq]
   exact z_finD 0 rfl (Nat.zero_le _) rfl rfl ⟨rfl, rfl⟩
 have k4 : ¬ k = 4 := by simpa using hk
 rw [if_neg k4]
 try refine z_run ?_
 refine z_br rfl (fun hk => ?_) (fun hk => ?_)
 ·have hk : k = 5 := by simpa using hk
  rw [if_pos hk]
  subst hk
  try refine z_run ?_
  refine z_loop (fun κ us ν => ∃ (i : Nat) (n' d : Int), κ = l.length - i ∧ i ≤ l.length ∧ us = [Bo false, I n', I d, I i] ∧ ν = [.cells [I 5, I n, St s, .sl 4 l.length (V.ps l)]] ∧ 0 ≤ n' ∧ n' ≤ left ∧ 0 ≤ d ∧ d ≤ 32 ∧
   V.rmL vs nm false (l.drop i) left (nest + 1) n' d = V.rmL vs nm false l left (nest + 1) 1 0) rfl l.length _ (LeL.refl _) ⟨0, 1, 0, by omega, by omega, rfl, rfl, by omega, by omega, by omega, by omega, rfl⟩ ?_
  rintro κ us ν ⟨i, n', d, rfl, hi, rfl, rfl, hf0, hf1, hd0, hd1, heq⟩
  try dsimp only [go_sem]
  try refine z_run ?_
  refine z_br rfl (fun hlt => ?_) (fun hge => ?_)
  ·have hlt : i < l.length := by have := of_decide_eq_true hlt; omega
   obtain ⟨w, hw⟩ : ∃ w, l[i]? = some w := ⟨l[i], List.getElem?_eq_getElem hlt⟩
   have hstep : l.drop i = w :: l.drop (i + 1) := by
    rw [List.drop_eq_getElem_cons hlt]
    rw [List.getElem?_eq_getElem hlt] at hw
    cases hw; rfl
   have hm := hW w (List.mem_of_getElem? hw) (left - n') (nest + 1) (by omega) (by omega) (by omega) (by omega)
   obtain ⟨b1, b2, b3, b4, b5⟩ := V.rm_bnd vs nm w (left := left - n') (nest := nest + 1) (by omega)
   rw [hstep] at heq
   simp only [V.rmL] at heq
   generalize w.rm vs nm (left - n') (nest + 1) = x at heq b1 b2 b3 b4 b5 hm
   obtain ⟨x1, x2, ok⟩ := x
   dsimp only at b1 b2 b3 b4 b5 hm heq
   try refine z_run ?_
   have hat := V.ps_at l i w hw
   have hle : i * 4 + 4 ≤ (V.ps l).length := by rw [V.ps_length]; omega
   rw [if_neg (by simp)] at heq
   try refine zn_idx rfl hlt ?_
   try dsimp only [go_sem]
   try refine zn_ldn rfl hle ?_
   rw [hat]
   try dsimp only [go_sem]
   try refine z_run ?_
   try rw [wrapI (n := left - n') (by omega) (by omega), wrapI (n := nest + 1) (by omega) (by omega)]
   try refine z_call rfl (hm.frame (by simp only [okm.okL, okm, okL_v, Bool.and_self]) _) (Nat.le_refl _) ?_
   try dsimp only [go_sem]
   try refine z_run ?_
   cases ok with
   | false =>
    try refine z_run ?_
    refine z_fin rfl ?_
    try dsimp only [go_sem]
    try refine z_run ?_
    rw [← heq]
    exact z_finD 0 rfl (Nat.zero_le _) rfl rfl ⟨rfl, rfl⟩
   | true =>
    try refine z_run ?_
    obtain b5 := b5 rfl
    rw [if_pos rfl] at heq
    try rw [wrapI (n := n' + x1) (by omega) (by omega), wrapI (n := (i : Int) + 1) (by omega) (by omega)]
    refine z_fin rfl ?_
    refine ⟨l.length - (i + 1), by omega, i + 1, n' + x1, max d x2, rfl, by omega, ?_, rfl, by omega, by omega, by omega, by omega, heq⟩
    rw [show (if x2 > d then x2 else d) = max d x2 by rw [Int.max_def]; split <;> split <;> omega]
    rfl
  ·have hge : i = l.length := by have := of_decide_eq_false hge; omega
   subst hge
   rw [List.drop_length] at heq
   refine z_fin rfl ?_
   try dsimp only [go_sem]
   try refine z_run ?_
   try rw [wrapI (n := d + 1) (by omega) (by omega)]
   rw [← heq]
   exact z_finD 0 rfl (Nat.zero_le _) rfl rfl ⟨rfl, rfl⟩
 have k5 : ¬ k = 5 := by simpa using hk
 rw [if_neg k5]
 try refine z_run ?_
 exact z_finD 0 rfl (Nat.zero_le _) rfl rfl ⟨rfl, rfl⟩
mutual
theorem rm_all (hE : SxEnv E) (h33 : sxFn E cfg fuel 33 3 = some t33) (hI : ∀ n : Int, PR E gl 21 [I n] [] (Bo (decide (n ≥ -1152921504606846976) && decide (n ≤ 1152921504606846975))) [])
  (bad : ByteArray → Int) (hB : ∀ s, s.size ≤ 4096 → PR E gl 56 [St s] [] (I (bad s)) []) (hvs : ∀ s, decide (bad s < 0) = vs s) (hN : ∀ s, s.size ≤ 1048576 → PR E gl 57 [St s] [] (Bo (nm s)) []) :
  ∀ v : V, v.sz ≤ 1048576 → MeasR vs nm E gl v
 | .mk k n s l, h => have a := rm_list hE h33 hI bad hB hvs hN l (by simp only [V.sz] at h; omega)
  refMeasure_ok vs nm hE h33 hI bad hB hvs hN h fun k' n' s' l' e => by cases e; exact a
theorem rm_list (hE : SxEnv E) (h33 : sxFn E cfg fuel 33 3 = some t33) (hI : ∀ n : Int, PR E gl 21 [I n] [] (Bo (decide (n ≥ -1152921504606846976) && decide (n ≤ 1152921504606846975))) [])
  (bad : ByteArray → Int) (hB : ∀ s, s.size ≤ 4096 → PR E gl 56 [St s] [] (I (bad s)) []) (hvs : ∀ s, decide (bad s < 0) = vs s) (hN : ∀ s, s.size ≤ 1048576 → PR E gl 57 [St s] [] (Bo (nm s)) []) :
  ∀ l : List V, V.szs l ≤ 1048576 → ∀ w, w ∈ l → MeasR vs nm E gl w
 | [], _ => fun _ hw => by cases hw
 | v :: l, h => have h' : v.sz ≤ 1048576 ∧ V.szs l ≤ 1048576 := by simp only [V.szs] at h; omega
  have a := rm_all hE h33 hI bad hB hvs hN v h'.1; have b := rm_list hE h33 hI bad hB hvs hN l h'.2
  fun w hw => by
   rcases List.mem_cons.mp hw with hw | hw
   ·subst hw; exact a
   ·exact b w hw
end
/-- Whether a tree is sound. -/
def V.sound (v : V) : Bool := (v.rm vs nm 1024 0).2.2 && !(decide (v.k = 7))
theorem sound_ok (hE : SxEnv E) (h16 : sxFn E cfg fuel 16 1 = some t16) (h33 : sxFn E cfg fuel 33 3 = some t33) (hI : ∀ n : Int, PR E gl 21 [I n] [] (Bo (decide (n ≥ -1152921504606846976) && decide (n ≤ 1152921504606846975))) [])
  (bad : ByteArray → Int) (hB : ∀ s, s.size ≤ 4096 → PR E gl 56 [St s] [] (I (bad s)) []) (hvs : ∀ s, decide (bad s < 0) = vs s) (hN : ∀ s, s.size ≤ 1048576 → PR E gl 57 [St s] [] (Bo (nm s)) [])
  (v : V) (hv : v.sz ≤ 1048576) : PR E gl 16 [.agg v.p] [] (Bo (v.sound vs nm)) [] := by
 refine fnZ hE (cfg := cfg) (fuel := fuel) h16 (by kernel_rfl) ?_
 unfold t16
 have hm := rm_all vs nm hE h33 hI bad hB hvs hN v hv 1024 0 (by omega) (by omega) (by omega) (by omega)
 unfold V.sound
 generalize v.rm vs nm 1024 0 = x at hm ⊢
 obtain ⟨x1, x2, ok⟩ := x
 have ho := okL_v v
 obtain ⟨k, n, s, l⟩ := v
 dsimp only [V.p, V.k] at hm ho ⊢
 try refine z_run ?_
 try refine z_call rfl (hm.frame (by simpa [okm.okL, okm] using ho) _) (Nat.le_refl _) ?_
 try dsimp only [go_sem]
 cases ok with
 | true =>
  try refine z_run ?_
  refine z_finD 0 rfl (Nat.zero_le _) rfl rfl ⟨?_, rfl⟩
  show [P.c (.bool (k != 7))] = _
  rw [show (k != 7) = (true && !decide (k = 7)) by rw [Bool.true_and]; rfl]
  rfl
 | false =>
  try refine z_run ?_
  exact z_finD 0 rfl (Nat.zero_le _) rfl rfl ⟨rfl, rfl⟩
end
end Go.AM.PV
namespace Go.AM.PV
open Go Go.AM Go.AM.SX
attribute [local irreducible] pz LoopP

abbrev Chr := Int × Int × Int × Bool
def Chr.p (c : Chr) : List P := [.c (.int .i32 c.1), I c.2.1, I c.2.2.1, Bo c.2.2.2]
def Chr.ps : List Chr → List P
 | [] => []
 | c :: l => Chr.p c ++ Chr.ps l
theorem okL_chrs : ∀ l : List Chr, okm.okL 0 (Chr.ps l) = true
 | [] => rfl
 | c :: l => by simp only [Chr.ps, Chr.p, List.cons_append, List.nil_append, okm.okL, okm, okL_chrs l, Bool.and_self]
def rep3 : ByteArray := ⟨[239, 191, 189].toArray⟩
def chrOf (s : ByteArray) (pos : Nat) (r : Int) (e : Nat) : Chr :=
 if r = 65533 then
  if pos + e > s.size then (r, pos, pos + 1, true) else
  if s.extract pos (pos + e) = rep3 then (r, pos, pos + e, false) else (r, pos, pos + 1, true)
 else (r, pos, pos + e, false)
def chr (s : ByteArray) (pos : Nat) : Chr := chrOf s pos ((Utf8.decode s pos).1 : Int) (Utf8.encode ((Utf8.decode s pos).1 : Int)).size
def chrs (s : ByteArray) : Nat → Nat → List Chr
 | 0, _ => []
 | n + 1, pos => if pos < s.size then chr s pos :: chrs s n (pos + (Utf8.decode s pos).2) else []
theorem Chr.ps_append : ∀ l m : List Chr, Chr.ps (l ++ m) = Chr.ps l ++ Chr.ps m
 | [], _ => rfl
 | c :: l, m => by simp only [List.cons_append, Chr.ps, Chr.ps_append l m, List.append_assoc]
theorem encode_le (n : Int) : (Utf8.encode n).size ≤ 4 := by
 unfold Utf8.encode
 dsimp only
 generalize (if Utf8.valid n = true then n.toNat else Utf8.runeError) = c
 split
 ·exact Nat.le_of_ble_eq_true rfl
 ·split
  ·exact Nat.le_of_ble_eq_true rfl
  ·split
   ·exact Nat.le_of_ble_eq_true rfl
   ·exact Nat.le_of_ble_eq_true rfl
theorem chrs_end {s : ByteArray} {pos : Nat} (h : s.size ≤ pos) : ∀ n, chrs s n pos = []
 | 0 => rfl
 | n + 1 => by simp only [chrs]; rw [if_neg (by omega)]
section
variable {E : Env} {gl : List GRow} {cfg : Cfg} {fuel : Nat}
theorem chars_ok (hE : SxEnv E) {inf : Nat → TypeInfo} (h95 : sxFn E cfg fuel 95 1 = some (t95 inf)) (hi1 : (inf 151).size = 4) (hi2 : (inf 151).bytes = 32) {s : ByteArray} (hlen : s.size ≤ 1048576) :
  PR E gl 95 [St s] [] (.ow 151 4 (chrs s s.size 0).length (Chr.ps (chrs s s.size 0))) [] := by
 refine fnZ hE (cfg := cfg) (fuel := fuel) h95 (by kernel_rfl) ?_
 unfold t95
 refine z_range rfl ?_
 try dsimp only [go_sem]
 refine z_loop (fun κ vs ν => ∃ (pos n : Nat) (a : List Chr), κ = s.size - pos ∧ vs = [.ow 151 4 a.length (Chr.ps a)] ∧ ν = [.sit s pos] ∧ a.length ≤ pos ∧ s.size ≤ pos + n ∧ a ++ chrs s n pos = chrs s s.size 0) rfl s.size
  [.ow 151 4 0 []] (.cons _ _ _ _ (.nilow _ _) .nil) ⟨0, s.size, [], by omega, rfl, rfl, Nat.le_refl _, by omega, rfl⟩ ?_
 rintro κ vs ν ⟨pos, n, a, rfl, rfl, rfl, ha, hn, heq⟩
 try dsimp only [go_sem]
 refine z_next (i := 0) (s := s) (pos := pos) rfl rfl (fun hlt => ?_) (fun hge => ?_)
 ·obtain ⟨n, rfl⟩ : ∃ n', n = n' + 1 := ⟨n - 1, by omega⟩
  have hw : 1 ≤ (Utf8.decode s pos).2 := Lib.decode_width_pos s pos hlt
  simp only [chrs] at heq
  rw [if_pos hlt] at heq
  have hch : chr s pos = chrOf s pos ((Utf8.decode s pos).1 : Int) (Utf8.encode ((Utf8.decode s pos).1 : Int)).size := rfl
  generalize ((Utf8.decode s pos).1 : Int) = r at hch ⊢
  generalize (Utf8.decode s pos).2 = wd at hw heq ⊢
  try dsimp only [go_sem]
  try refine z_run ?_
  have he := encode_le r
  generalize Utf8.encode r = eb at hch he ⊢
  try rw [wrapI (n := (pos : Int) + (eb.size : Int)) (by omega) (by omega)]
  have done : ∀ c : Chr, c = chr s pos → ∃ j, j < s.size - pos ∧ ∃ pos' n a', j = s.size - pos' ∧ [P.ow 151 4 (a.length + 1) (Chr.ps a ++ Chr.p c)] = [P.ow 151 4 (List.length a') (Chr.ps a')] ∧
    [Ob.sit s (pos + wd)] = [Ob.sit s pos'] ∧ a'.length ≤ pos' ∧ s.size ≤ pos' + n ∧ a' ++ chrs s n pos' = chrs s s.size 0 := by
   intro c hc
   subst hc
   refine ⟨_, ?_, pos + wd, n, a ++ [chr s pos], rfl, ?_, rfl, ?_, by omega, ?_⟩
   ·omega
   ·rw [Chr.ps_append]
    simp only [Chr.ps, List.append_nil, List.length_append, List.length_cons, List.length_nil, Nat.zero_add]
   ·simp only [List.length_append, List.length_cons, List.length_nil]; omega
   ·rw [List.append_assoc]
    exact heq
  refine z_br rfl (fun hr => ?_) (fun hr => ?_)
  ·have hr : r = 65533 := eq_of_beq hr
   try refine z_run ?_
   refine z_br rfl (fun hb => ?_) (fun hb => ?_)
   ·have hb := of_decide_eq_true hb
    try refine z_run ?_
    try rw [wrapI (n := (pos : Int) + 1) (by omega) (by omega)]
    refine z_app1 rfl rfl rfl hi1 rfl rfl rfl rfl (by rw [hi2]; omega) (by omega) ?_
    try dsimp only [go_sem]
    refine z_fin rfl ?_
    try dsimp only [go_sem]
    refine done (r, (pos : Int), (pos : Int) + 1, true) ?_
    rw [hch]
    unfold chrOf
    rw [if_pos hr, if_pos (by omega)]
   ·have hb := of_decide_eq_false hb
    try refine z_run ?_
    refine z_subS (s := s) (l := pos) (h := pos + eb.size) rfl (by omega) (by omega) ?_
    try dsimp only [go_sem]
    try refine z_run ?_
    refine z_br rfl (fun hb => ?_) (fun hb => ?_)
    ·have hx : ¬ s.extract pos (pos + eb.size) = rep3 := by
      intro e
      have hb : (!(s.extract pos (pos + eb.size)).data.toList == [239, 191, 189]) = true := hb
      rw [e] at hb
      simp [rep3] at hb
     try refine z_run ?_
     try rw [wrapI (n := (pos : Int) + 1) (by omega) (by omega)]
     refine z_app1 rfl rfl rfl hi1 rfl rfl rfl rfl (by rw [hi2]; omega) (by omega) ?_
     try dsimp only [go_sem]
     refine z_fin rfl ?_
     try dsimp only [go_sem]
     refine done (r, (pos : Int), (pos : Int) + 1, true) ?_
     rw [hch]
     unfold chrOf
     rw [if_pos hr, if_neg (by omega), if_neg hx]
    ·have hx : s.extract pos (pos + eb.size) = rep3 := by
      have hb : (!(s.extract pos (pos + eb.size)).data.toList == [239, 191, 189]) = false := hb
      generalize s.extract pos (pos + eb.size) = x at hb
      have h3 : x.data.toList = [239, 191, 189] := by simpa using hb
      obtain ⟨xd⟩ := x
      unfold rep3
      rw [← h3]
     try refine z_run ?_
     refine z_app1 rfl rfl rfl hi1 rfl rfl rfl rfl (by rw [hi2]; omega) (by omega) ?_
     try dsimp only [go_sem]
     refine z_fin rfl ?_
     try dsimp only [go_sem]
     refine done (r, (pos : Int), (pos : Int) + (eb.size : Int), false) ?_
     rw [hch]
     unfold chrOf
     rw [if_pos hr, if_neg (by omega), if_pos hx]
  ·have hr : ¬ r = 65533 := beq_eq_false_iff_ne.mp hr
   try refine z_run ?_
   refine z_app1 rfl rfl rfl hi1 rfl rfl rfl rfl (by rw [hi2]; omega) (by omega) ?_
   try dsimp only [go_sem]
   refine z_fin rfl ?_
   try dsimp only [go_sem]
   refine done (r, (pos : Int), (pos : Int) + (eb.size : Int), false) ?_
   rw [hch]
   unfold chrOf
   rw [if_neg hr]
 ·rw [chrs_end hge, List.append_nil] at heq
  subst heq
  try dsimp only [go_sem]
  try refine z_run ?_
  refine z_fin rfl ?_
  try dsimp only [go_sem]
  try refine z_run ?_
  exact z_finD 0 rfl (Nat.zero_le _) (by show (okm 0 (.ow 151 4 (chrs s s.size 0).length (Chr.ps (chrs s s.size 0))) && true) = true; simp only [okm, okL_chrs, Bool.and_true]) rfl ⟨rfl, rfl⟩
end
theorem Chr.ps_length : ∀ l : List Chr, (Chr.ps l).length = l.length * 4
 | [] => rfl
 | c :: l => by simp only [Chr.ps, Chr.p, List.length_append, List.length_cons, List.length_nil, Chr.ps_length l]; omega
theorem Chr.ps_at : ∀ (l : List Chr) (i j : Nat) (c : Chr), l[i]? = some c → j < 4 → (Chr.ps l)[i * 4 + j]? = (Chr.p c)[j]?
 | [], i, j, c, h, _ => by simp at h
 | w :: l, 0, j, c, h, hj => by
  simp only [List.getElem?_cons_zero, Option.some.injEq] at h
  subst h
  simp only [Chr.ps, Nat.zero_mul, Nat.zero_add]
  rw [List.getElem?_append_left (by show j < 4; exact hj)]
 | w :: l, i + 1, j, c, h, hj => by
  simp only [List.getElem?_cons_succ] at h
  simp only [Chr.ps]
  rw [List.getElem?_append_right (by show 4 ≤ (i + 1) * 4 + j; omega), show (i + 1) * 4 + j - (Chr.p w).length = i * 4 + j by show (i + 1) * 4 + j - 4 = _; omega]
  exact Chr.ps_at l i j c h hj
theorem Chr.ps_k {l : List Chr} {i : Nat} {c : Chr} (h : l[i]? = some c) : (Chr.ps l)[i * 4]? = some (.c (.int .i32 c.1)) ∧ (Chr.ps l)[i * 4 + 1]? = some (I c.2.1) ∧ (Chr.ps l)[i * 4 + 2]? = some (I c.2.2.1) ∧ (Chr.ps l)[i * 4 + 3]? = some (Bo c.2.2.2) :=
 ⟨Chr.ps_at l i 0 c h (by omega), Chr.ps_at l i 1 c h (by omega), Chr.ps_at l i 2 c h (by omega), Chr.ps_at l i 3 c h (by omega)⟩
theorem chrs_len (s : ByteArray) : ∀ (n pos : Nat), (chrs s n pos).length ≤ n
 | 0, _ => Nat.le_refl _
 | n + 1, pos => by
  simp only [chrs]
  split
  ·have := chrs_len s n (pos + (Utf8.decode s pos).2)
   simp only [List.length_cons]; omega
  ·exact Nat.zero_le _
/-- The place of the first bad rune, -1 without one. -/
def badL : List Chr → Int
 | [] => -1
 | c :: l => if c.2.2.2 then c.2.1 else badL l
def bad (s : ByteArray) : Int := badL (chrs s s.size 0)
section
variable {E : Env} {gl : List GRow} {cfg : Cfg} {fuel : Nat}
theorem bad_ok (hE : SxEnv E) (h56 : sxFn E cfg fuel 56 1 = some t56) {s : ByteArray} (hlen : s.size ≤ 1048576)
  (h95 : PR E gl 95 [St s] [] (.ow 151 4 (chrs s s.size 0).length (Chr.ps (chrs s s.size 0))) []) : PR E gl 56 [St s] [] (I (bad s)) [] := by
 refine fnZ hE (cfg := cfg) (fuel := fuel) h56 (by kernel_rfl) ?_
 unfold t56
 have hl := chrs_len s s.size 0
 unfold bad
 generalize chrs s s.size 0 = l at h95 hl ⊢
 try refine z_call rfl h95 (Nat.le_refl _) ?_
 try dsimp only [go_sem]
 refine z_loop (fun κ vs ν => ν = [] ∧ ∃ i, κ = l.length - i ∧ i ≤ l.length ∧ vs = [I 0, I i] ∧ badL (l.drop i) = badL l) rfl l.length _ (LeL.refl _) ⟨rfl, 0, by omega, by omega, rfl, rfl⟩ ?_
 rintro κ vs ν ⟨rfl, i, rfl, hi, rfl, heq⟩
 try dsimp only [go_sem]
 try refine z_run ?_
 refine z_br rfl (fun hlt => ?_) (fun hge => ?_)
 ·have hlt : i < l.length := by have := of_decide_eq_true hlt; omega
  obtain ⟨c, hc⟩ : ∃ c, l[i]? = some c := ⟨l[i], List.getElem?_eq_getElem hlt⟩
  have hstep : l.drop i = c :: l.drop (i + 1) := by
   rw [List.drop_eq_getElem_cons hlt]
   rw [List.getElem?_eq_getElem hlt] at hc
   cases hc; rfl
  obtain ⟨c0, c1, c2, c3⟩ := Chr.ps_k hc
  obtain ⟨x1, x2, x3, x4⟩ := c
  rw [hstep] at heq
  simp only [badL] at heq
  try refine zn_idx rfl hlt ?_
  try dsimp only [go_sem]
  try refine z_run ?_
  try refine zn_ld1 rfl c3 ?_
  try dsimp only [go_sem]
  cases x4 with
  | true =>
   try refine z_run ?_
   try refine zn_idx rfl hlt ?_
   try dsimp only [go_sem]
   try refine z_run ?_
   try refine zn_ld1 rfl c1 ?_
   try dsimp only [go_sem]
   refine z_fin rfl ?_
   try dsimp only [go_sem]
   try refine z_run ?_
   rw [← heq]
   exact z_finD 0 rfl (Nat.zero_le _) rfl rfl ⟨rfl, rfl⟩
  | false =>
   try refine z_run ?_
   try rw [wrapI (n := (i : Int) + 1) (by omega) (by omega)]
   refine z_fin rfl ?_
   exact ⟨l.length - (i + 1), by omega, rfl, i + 1, rfl, by omega, rfl, heq⟩
 ·have hge : i = l.length := by have := of_decide_eq_false hge; omega
  subst hge
  rw [List.drop_length] at heq
  refine z_fin rfl ?_
  try dsimp only [go_sem]
  try refine z_run ?_
  rw [← heq]
  exact z_finD 0 rfl (Nat.zero_le _) rfl rfl ⟨rfl, rfl⟩
end
end Go.AM.PV
namespace Go.AM.PV
open Go Go.AM Go.AM.SX
theorem enc_fffd : Lib.encodeRune 65533 = [239, 191, 189] := by decide
theorem encsz_fffd : (Utf8.encode 65533).size = 3 := by decide
theorem dec_rep3 (l : List UInt8) : Lib.decodeL (239 :: 191 :: 189 :: l) = (65533, 3) := by
 rw [Lib.decodeL_N]
 have h : (239 :: 191 :: 189 :: l).length = l.length + 3 := rfl
 rw [h]
 simp [Lib.decodeN]
theorem chr_bad (s : ByteArray) (pos : Nat) (h : pos < s.size) : (chr s pos).2.2.2 = decide ((Utf8.decode s pos).1 = 65533 ∧ (Utf8.decode s pos).2 = 1) := by
 have hd := Lib.decodeL_drop s pos
 have hne : s.data.toList.drop pos ≠ [] := by
  intro e
  have := congrArg List.length e
  rw [List.length_drop, ← Lib.size_eq] at this
  simp at this
  omega
 have hl : (s.data.toList.drop pos).length = s.size - pos := by rw [List.length_drop, ← Lib.size_eq]
 have hx : ∀ k, (s.extract pos (pos + k)).data.toList = (s.data.toList.drop pos).take k := by
  intro k
  rw [Lib.extract_data, show pos + k - pos = k by omega]
 unfold chr chrOf
 by_cases hr : (Utf8.decode s pos).1 = 65533
 ·rw [hr]
  rw [show (((65533 : Nat) : Int)) = 65533 from rfl, if_pos rfl, encsz_fffd]
  by_cases hw : (Utf8.decode s pos).2 = 1
  ·rw [hw, decide_eq_true ⟨rfl, rfl⟩]
   split
   ·rfl
   ·split
    ·rename_i h1 h2
     have h3 := hx 3
     rw [h2] at h3
     have h4 : s.data.toList.drop pos = 239 :: 191 :: 189 :: (s.data.toList.drop pos).drop 3 := by
      have := List.take_append_drop 3 (s.data.toList.drop pos)
      rw [← h3] at this
      exact this.symm
     rw [h4, dec_rep3] at hd
     rw [← hd] at hw
     simp at hw
    ·rfl
  ·rw [decide_eq_false (fun e => hw e.2)]
   have he := Lib.encode_decode _ hne (by rw [hd]; exact fun e => hw e.2)
   rw [hd, hr, show (((65533 : Nat) : Int)) = 65533 from rfl, enc_fffd] at he
   have hlen : 3 ≤ s.size - pos := by
    have := congrArg List.length he
    rw [List.length_take, hl] at this
    simp at this
    omega
   have hk : 3 ≤ (Utf8.decode s pos).2 := by
    have := congrArg List.length he
    rw [List.length_take, hl] at this
    simp at this
    omega
   rw [if_neg (by omega)]
   rw [if_pos]
   have h3 : (s.extract pos (pos + 3)).data.toList = [239, 191, 189] := by
    rw [hx]
    have := congrArg (List.take 3) he
    rw [List.take_take, Nat.min_eq_left hk] at this
    exact this.symm
   generalize s.extract pos (pos + 3) = x at h3
   obtain ⟨xd⟩ := x
   unfold rep3
   rw [← h3]
 ·rw [decide_eq_false (fun e => hr e.1), if_neg (by omega)]
theorem bad_valid (s : ByteArray) : ∀ n pos, s.size ≤ pos + n → (badL (chrs s n pos) < 0 ↔ Lib.validD (s.data.toList.drop pos) = true)
 | 0, pos, h => by
  rw [List.drop_of_length_le (by rw [← Lib.size_eq]; omega)]
  exact ⟨fun _ => rfl, fun _ => by show (-1 : Int) < 0; omega⟩
 | n + 1, pos, h => by
  simp only [chrs]
  by_cases hlt : pos < s.size
  ·rw [if_pos hlt]
   have hne : s.data.toList.drop pos ≠ [] := by
    intro e
    have := congrArg List.length e
    rw [List.length_drop, ← Lib.size_eq] at this
    simp at this
    omega
   rw [Lib.validD_step _ hne, Lib.decodeL_drop, List.drop_drop]
   have hw : 1 ≤ (Utf8.decode s pos).2 := Lib.decode_width_pos s pos hlt
   have ih := bad_valid s n (pos + (Utf8.decode s pos).2) (by omega)
   simp only [badL]
   rw [chr_bad s pos hlt]
   by_cases hb : (Utf8.decode s pos).1 = 65533 ∧ (Utf8.decode s pos).2 = 1
   ·rw [if_pos hb, decide_eq_true hb, if_pos rfl]
    have : (chr s pos).2.1 = (pos : Int) := by
     unfold chr chrOf
     split
     ·split
      ·rfl
      ·split <;> rfl
     ·rfl
    rw [this]
    exact ⟨fun h => by omega, fun h => by cases h⟩
   ·rw [if_neg hb, decide_eq_false hb]
    exact ih
  ·rw [if_neg hlt, List.drop_of_length_le (by rw [← Lib.size_eq]; omega)]
   exact ⟨fun _ => rfl, fun _ => by show (-1 : Int) < 0; omega⟩
theorem bad_vs (s : ByteArray) : decide (bad s < 0) = Lib.validD s.data.toList := by
 have h := bad_valid s s.size 0 (by omega)
 rw [List.drop_zero] at h
 unfold bad
 cases hv : Lib.validD s.data.toList with
 | true => exact decide_eq_true (h.2 hv)
 | false => exact decide_eq_false fun e => by rw [h.1 e] at hv; cases hv
end Go.AM.PV
namespace Go.AM.PV
open Go Go.AM Go.AM.SX
attribute [local irreducible] pz LoopP
abbrev R32 (n : Int) : P := .c (.int .i32 n)
def blankR (r : Int) : Bool := r == 9 || r == 10 || r == 13 || r == 32 || r == 160 || r == 12288
def script (r : Int) : Int := if 48 ≤ r ∧ r ≤ 57 then 48 else if 1632 ≤ r ∧ r ≤ 1641 then 1632 else if 65296 ≤ r ∧ r ≤ 65305 then 65296 else 0
section
variable {E : Env} {gl : List GRow} {cfg : Cfg} {fuel : Nat}
theorem blank_ok (hE : SxEnv E) (h130 : sxFn E cfg fuel 130 1 = some t130) (r : Int) : PR E gl 130 [R32 r] [] (Bo (blankR r)) [] := by
 refine fnZ hE (cfg := cfg) (fuel := fuel) h130 (by kernel_rfl) ?_
 unfold t130
 unfold blankR
 try refine z_run ?_
 refine z_br rfl (fun h => ?_) (fun h1 => ?_)
 ·have h : (r == 9) = true := h
  rw [h]
  exact z_finD 0 rfl (Nat.zero_le _) rfl rfl ⟨rfl, rfl⟩
 have h1 : (r == 9) = false := h1
 try refine z_run ?_
 refine z_br rfl (fun h => ?_) (fun h2 => ?_)
 ·have h : (r == 10) = true := h
  rw [h, h1]
  exact z_finD 0 rfl (Nat.zero_le _) rfl rfl ⟨rfl, rfl⟩
 have h2 : (r == 10) = false := h2
 try refine z_run ?_
 refine z_br rfl (fun h => ?_) (fun h3 => ?_)
 ·have h : (r == 13) = true := h
  rw [h, h1, h2]
  exact z_finD 0 rfl (Nat.zero_le _) rfl rfl ⟨rfl, rfl⟩
 have h3 : (r == 13) = false := h3
 try refine z_run ?_
 refine z_br rfl (fun h => ?_) (fun h4 => ?_)
 ·have h : (r == 32) = true := h
  rw [h, h1, h2, h3]
  exact z_finD 0 rfl (Nat.zero_le _) rfl rfl ⟨rfl, rfl⟩
 have h4 : (r == 32) = false := h4
 try refine z_run ?_
 refine z_br rfl (fun h => ?_) (fun h5 => ?_)
 ·have h : (r == 160) = true := h
  rw [h, h1, h2, h3, h4]
  exact z_finD 0 rfl (Nat.zero_le _) rfl rfl ⟨rfl, rfl⟩
 have h5 : (r == 160) = false := h5
 try refine z_run ?_
 rw [h1, h2, h3, h4, h5]
 exact z_finD 0 rfl (Nat.zero_le _) rfl rfl ⟨rfl, rfl⟩
theorem script_ok (hE : SxEnv E) (h148 : sxFn E cfg fuel 148 1 = some t148) (r : Int) : PR E gl 148 [R32 r] [] (R32 (script r)) [] := by
 refine fnZ hE (cfg := cfg) (fuel := fuel) h148 (by kernel_rfl) ?_
 unfold t148
 have e : ∀ x : Int, script r = x → [R32 x] = [R32 (script r)] ∧ ([] : Mu) = [] := fun x hx => by rw [hx]; exact ⟨rfl, rfl⟩
 unfold script at e
 try refine z_run ?_
 refine z_br rfl (fun h => ?_) (fun h => ?_)
 ·have h1 : r ≥ 48 := of_decide_eq_true h
  try refine z_run ?_
  refine z_br rfl (fun h => ?_) (fun h => ?_)
  ·have h2 : r ≤ 57 := of_decide_eq_true h
   try refine z_run ?_
   exact z_finD 0 rfl (Nat.zero_le _) rfl rfl (e 48 (by rw [if_pos ⟨h1, h2⟩]))
  have h2 : ¬ r ≤ 57 := of_decide_eq_false h
  try refine z_run ?_
  refine z_br rfl (fun h => ?_) (fun h => ?_)
  ·have h3 : r ≥ 1632 := of_decide_eq_true h
   try refine z_run ?_
   refine z_br rfl (fun h => ?_) (fun h => ?_)
   ·have h4 : r ≤ 1641 := of_decide_eq_true h
    try refine z_run ?_
    exact z_finD 0 rfl (Nat.zero_le _) rfl rfl (e 1632 (by rw [if_neg (by omega), if_pos ⟨h3, h4⟩]))
   have h4 : ¬ r ≤ 1641 := of_decide_eq_false h
   try refine z_run ?_
   refine z_br rfl (fun h => ?_) (fun h => ?_)
   ·have h5 : r ≥ 65296 := of_decide_eq_true h
    try refine z_run ?_
    refine z_br rfl (fun h => ?_) (fun h => ?_)
    ·have h6 : r ≤ 65305 := of_decide_eq_true h
     try refine z_run ?_
     exact z_finD 0 rfl (Nat.zero_le _) rfl rfl (e 65296 (by rw [if_neg (by omega), if_neg (by omega), if_pos ⟨h5, h6⟩]))
    have h6 : ¬ r ≤ 65305 := of_decide_eq_false h
    try refine z_run ?_
    exact z_finD 0 rfl (Nat.zero_le _) rfl rfl (e 0 (by rw [if_neg (by omega), if_neg (by omega), if_neg (by omega)]))
   have h5 : ¬ r ≥ 65296 := of_decide_eq_false h
   try refine z_run ?_
   exact z_finD 0 rfl (Nat.zero_le _) rfl rfl (e 0 (by rw [if_neg (by omega), if_neg (by omega), if_neg (by omega)]))
  have h3 : ¬ r ≥ 1632 := of_decide_eq_false h
  try refine z_run ?_
  exact z_finD 0 rfl (Nat.zero_le _) rfl rfl (e 0 (by rw [if_neg (by omega), if_neg (by omega), if_neg (by omega)]))
 have h1 : ¬ r ≥ 48 := of_decide_eq_false h
 try refine z_run ?_
 exact z_finD 0 rfl (Nat.zero_le _) rfl rfl (e 0 (by rw [if_neg (by omega), if_neg (by omega), if_neg (by omega)]))
end
def digit (r : Int) : Int × Int × Bool := if script r = 0 then (0, 0, false) else (r - script r, script r, true)
theorem wrapI32 {n : Int} (h0 : -2147483648 ≤ n) (h1 : n ≤ 2147483647) : wrapF .i32 n = n := by
 unfold wrapF
 rw [if_pos ⟨by simp only [lo]; omega, by simp only [hi]; omega⟩]
def baseN : Nat → Int | 0 => 48 | 1 => 1632 | _ => 65296
section
variable {E : Env} {gl : List GRow} {cfg : Cfg} {fuel : Nat}
theorem digit_ok (hE : SxEnv E) (h146 : sxFn E cfg fuel 146 1 = some t146) (r : Int) : PR E gl 146 [R32 r] [] (.tup [I (digit r).1, R32 (digit r).2.1, Bo (digit r).2.2]) [] := by
 refine fnZ hE (cfg := cfg) (fuel := fuel) h146 (by kernel_rfl) ?_
 unfold t146
 try refine z_run ?_
 refine z_loop (fun κ vs ν => ν = [] ∧ ∃ i, κ = 3 - i ∧ i ≤ 3 ∧ vs = [I 0, R32 0, Bo false, I i] ∧ ∀ j, j < i → ¬ (baseN j ≤ r ∧ r ≤ baseN j + 9)) rfl 3 _ (LeL.refl _) ⟨rfl, 0, by omega, by omega, rfl, fun j hj => by omega⟩ ?_
 rintro κ vs ν ⟨rfl, i, rfl, hi, rfl, hno⟩
 try dsimp only [go_sem]
 try refine z_run ?_
 refine z_br rfl (fun hlt => ?_) (fun hge => ?_)
 ·have hlt : i < 3 := by have := of_decide_eq_true hlt; omega
  try refine zn_idxf rfl hlt ?_
  try dsimp only [go_sem]
  try refine zn_ld1 rfl (p := R32 (baseN i)) (by match i, hlt with | 0, _ => rfl | 1, _ => rfl | 2, _ => rfl) ?_
  try dsimp only [go_sem]
  try refine z_run ?_
  have hb : 48 ≤ baseN i ∧ baseN i ≤ 65296 := by
   match i, hlt with
   | 0, _ => exact ⟨by show (48 : Int) ≤ 48; omega, by show (48 : Int) ≤ 65296; omega⟩
   | 1, _ => exact ⟨by show (48 : Int) ≤ 1632; omega, by show (1632 : Int) ≤ 65296; omega⟩
   | 2, _ => exact ⟨by show (48 : Int) ≤ 65296; omega, by show (65296 : Int) ≤ 65296; omega⟩
  have hsc : baseN i ≤ r → r ≤ baseN i + 9 → script r = baseN i := by
   intro a b
   unfold script
   match i, hlt with
   | 0, _ =>
    have a : (48 : Int) ≤ r := a
    have b : r ≤ 48 + 9 := b
    rw [if_pos ⟨a, by omega⟩]; rfl
   | 1, _ =>
    have a : (1632 : Int) ≤ r := a
    have b : r ≤ 1632 + 9 := b
    rw [if_neg (by omega), if_pos ⟨a, by omega⟩]; rfl
   | 2, _ =>
    have a : (65296 : Int) ≤ r := a
    have b : r ≤ 65296 + 9 := b
    rw [if_neg (by omega), if_neg (by omega), if_pos ⟨a, by omega⟩]; rfl
  have hno' : ¬ (baseN i ≤ r ∧ r ≤ baseN i + 9) → ∀ j, j < i + 1 → ¬ (baseN j ≤ r ∧ r ≤ baseN j + 9) := by
   intro h j hj
   by_cases e : j = i
   ·subst e; exact h
   ·exact hno j (by omega)
  generalize baseN i = b at hb hsc hno' ⊢
  refine z_br rfl (fun h => ?_) (fun h => ?_)
  ·have h1 : r ≥ b := of_decide_eq_true h
   try refine z_run ?_
   try rw [wrapI32 (n := b + 9) (by omega) (by omega)]
   refine z_br rfl (fun h => ?_) (fun h => ?_)
   ·have h2 : r ≤ b + 9 := of_decide_eq_true h
    try refine z_run ?_
    try rw [wrapI32 (n := r - b) (by omega) (by omega), wrapI (n := r - b) (by omega) (by omega)]
    refine z_fin rfl ?_
    try dsimp only [go_sem]
    try refine z_run ?_
    unfold digit
    rw [hsc h1 h2, if_neg (by omega)]
    exact z_finD 0 rfl (Nat.zero_le _) rfl rfl ⟨rfl, rfl⟩
   ·have h2 : ¬ r ≤ b + 9 := of_decide_eq_false h
    try refine z_run ?_
    try rw [wrapI (n := (i : Int) + 1) (by omega) (by omega)]
    refine z_fin rfl ?_
    exact ⟨3 - (i + 1), by omega, rfl, i + 1, rfl, by omega, rfl, hno' (fun e => h2 e.2)⟩
  ·have h1 : ¬ r ≥ b := of_decide_eq_false h
   try refine z_run ?_
   try rw [wrapI (n := (i : Int) + 1) (by omega) (by omega)]
   refine z_fin rfl ?_
   exact ⟨3 - (i + 1), by omega, rfl, i + 1, rfl, by omega, rfl, hno' (fun e => h1 e.1)⟩
 ·have hge : i = 3 := by have := of_decide_eq_false hge; omega
  subst hge
  have h0 := hno 0 (by omega)
  have h1 := hno 1 (by omega)
  have h2 := hno 2 (by omega)
  simp only [baseN] at h0 h1 h2
  have hs : script r = 0 := by
   unfold script
   rw [if_neg (by omega), if_neg (by omega), if_neg (by omega)]
  refine z_fin rfl ?_
  try dsimp only [go_sem]
  try refine z_run ?_
  unfold digit
  rw [hs]
  exact z_finD 0 rfl (Nat.zero_le _) rfl rfl ⟨rfl, rfl⟩
end
def resW : List (List UInt8) := [[58], [59], [40], [41], [45, 45], [91], [93], [123], [125], [116], [102]]
def reserved (s : ByteArray) : Bool := resW.any fun t => s.data.toList == t
def idxS : List (List UInt8) → Nat → ByteArray → Int
 | [], _, _ => -1
 | t :: l, i, s => if s.data.toList == t then i else idxS l (i + 1) s
theorem idxS_ge : ∀ (l : List (List UInt8)) (i : Nat) (s : ByteArray), (decide (idxS l i s ≥ 0)) = l.any fun t => s.data.toList == t
 | [], _, _ => rfl
 | t :: l, i, s => by
  simp only [idxS, List.any_cons]
  by_cases h : (s.data.toList == t) = true
  ·simp only [h, if_true, Bool.true_or]; exact decide_eq_true (by omega)
  ·simp only [h, if_false, Bool.false_or, Bool.false_eq_true]; exact idxS_ge l (i + 1) s
abbrev Sb (l : List UInt8) : P := .c (.string ⟨l.toArray⟩)
section
variable {E : Env} {gl : List GRow} {cfg : Cfg} {fuel : Nat}
theorem reserved97_ok (hE : SxEnv E) (h97 : sxFn E cfg fuel 97 1 = some t97) (s : ByteArray) : PR E gl 97 [St s] [] (Bo (reserved s)) [] := by
 refine fnZ hE (cfg := cfg) (fuel := fuel) h97 (by kernel_rfl) ?_
 unfold t97
 have e : ∀ b : Bool, reserved s = b → [Bo b] = [Bo (reserved s)] ∧ ([] : Mu) = [] := fun b hb => by rw [hb]; exact ⟨rfl, rfl⟩
 have hr : reserved s = resW.any fun t => s.data.toList == t := rfl
 simp only [resW, List.any_cons, List.any_nil, Bool.or_false] at hr
 try refine z_run ?_
 refine z_br rfl (fun h => ?_) (fun h => ?_)
 ·have h : (s.data.toList == [58]) = true := h
  try refine z_run ?_
  exact z_finD 0 rfl (Nat.zero_le _) rfl rfl (e true (by rw [hr, h, Bool.true_or]))
 have h : (s.data.toList == [58]) = false := h
 rw [h, Bool.false_or] at hr
 try refine z_run ?_
 refine z_br rfl (fun h => ?_) (fun h => ?_)
 ·have h : (s.data.toList == [59]) = true := h
  try refine z_run ?_
  exact z_finD 0 rfl (Nat.zero_le _) rfl rfl (e true (by rw [hr, h, Bool.true_or]))
 have h : (s.data.toList == [59]) = false := h
 rw [h, Bool.false_or] at hr
 try refine z_run ?_
 refine z_br rfl (fun h => ?_) (fun h => ?_)
 ·have h : (s.data.toList == [40]) = true := h
  try refine z_run ?_
  exact z_finD 0 rfl (Nat.zero_le _) rfl rfl (e true (by rw [hr, h, Bool.true_or]))
 have h : (s.data.toList == [40]) = false := h
 rw [h, Bool.false_or] at hr
 try refine z_run ?_
 refine z_br rfl (fun h => ?_) (fun h => ?_)
 ·have h : (s.data.toList == [41]) = true := h
  try refine z_run ?_
  exact z_finD 0 rfl (Nat.zero_le _) rfl rfl (e true (by rw [hr, h, Bool.true_or]))
 have h : (s.data.toList == [41]) = false := h
 rw [h, Bool.false_or] at hr
 try refine z_run ?_
 refine z_br rfl (fun h => ?_) (fun h => ?_)
 ·have h : (s.data.toList == [45, 45]) = true := h
  try refine z_run ?_
  exact z_finD 0 rfl (Nat.zero_le _) rfl rfl (e true (by rw [hr, h, Bool.true_or]))
 have h : (s.data.toList == [45, 45]) = false := h
 rw [h, Bool.false_or] at hr
 try refine z_run ?_
 refine z_br rfl (fun h => ?_) (fun h => ?_)
 ·have h : (s.data.toList == [91]) = true := h
  try refine z_run ?_
  exact z_finD 0 rfl (Nat.zero_le _) rfl rfl (e true (by rw [hr, h, Bool.true_or]))
 have h : (s.data.toList == [91]) = false := h
 rw [h, Bool.false_or] at hr
 try refine z_run ?_
 refine z_br rfl (fun h => ?_) (fun h => ?_)
 ·have h : (s.data.toList == [93]) = true := h
  try refine z_run ?_
  exact z_finD 0 rfl (Nat.zero_le _) rfl rfl (e true (by rw [hr, h, Bool.true_or]))
 have h : (s.data.toList == [93]) = false := h
 rw [h, Bool.false_or] at hr
 try refine z_run ?_
 refine z_br rfl (fun h => ?_) (fun h => ?_)
 ·have h : (s.data.toList == [123]) = true := h
  try refine z_run ?_
  exact z_finD 0 rfl (Nat.zero_le _) rfl rfl (e true (by rw [hr, h, Bool.true_or]))
 have h : (s.data.toList == [123]) = false := h
 rw [h, Bool.false_or] at hr
 try refine z_run ?_
 refine z_br rfl (fun h => ?_) (fun h => ?_)
 ·have h : (s.data.toList == [125]) = true := h
  try refine z_run ?_
  exact z_finD 0 rfl (Nat.zero_le _) rfl rfl (e true (by rw [hr, h, Bool.true_or]))
 have h : (s.data.toList == [125]) = false := h
 rw [h, Bool.false_or] at hr
 try refine z_run ?_
 refine z_br rfl (fun h => ?_) (fun h => ?_)
 ·have h : (s.data.toList == [116]) = true := h
  try refine z_run ?_
  exact z_finD 0 rfl (Nat.zero_le _) rfl rfl (e true (by rw [hr, h, Bool.true_or]))
 have h : (s.data.toList == [116]) = false := h
 rw [h, Bool.false_or] at hr
 try refine z_run ?_
 exact z_finD 0 rfl (Nat.zero_le _) rfl rfl (e _ hr)
theorem index_ok (hE : SxEnv E) (h62 : sxFn E cfg fuel 62 2 = some t62) (l : List (List UInt8)) (hl : l.length ≤ 1048576) (s : ByteArray) : PR E gl 62 [.fx 1 l.length (l.map Sb), St s] [] (I (idxS l 0 s)) [] := by
 refine fnZ hE (cfg := cfg) (fuel := fuel) h62 (by kernel_rfl) ?_
 unfold t62
 try refine z_run ?_
 refine z_loop (fun κ vs ν => ν = [] ∧ ∃ i, κ = l.length - i ∧ i ≤ l.length ∧ vs = [I 0, I i] ∧ idxS (l.drop i) i s = idxS l 0 s) rfl l.length _ (LeL.refl _) ⟨rfl, 0, by omega, by omega, rfl, rfl⟩ ?_
 rintro κ vs ν ⟨rfl, i, rfl, hi, rfl, heq⟩
 try dsimp only [go_sem]
 try refine z_run ?_
 refine z_br rfl (fun hlt => ?_) (fun hge => ?_)
 ·have hlt : i < l.length := by have := of_decide_eq_true hlt; omega
  obtain ⟨c, hc⟩ : ∃ c, l[i]? = some c := ⟨l[i], List.getElem?_eq_getElem hlt⟩
  have hstep : l.drop i = c :: l.drop (i + 1) := by
   rw [List.drop_eq_getElem_cons hlt]
   rw [List.getElem?_eq_getElem hlt] at hc
   cases hc; rfl
  rw [hstep] at heq
  simp only [idxS] at heq
  try refine zn_idxf rfl hlt ?_
  try dsimp only [go_sem]
  refine zn_ld1 rfl (p := Sb c) (by rw [Nat.mul_one, List.getElem?_map, hc]; rfl) ?_
  try dsimp only [go_sem]
  try refine z_run ?_
  refine z_br rfl (fun h => ?_) (fun h => ?_)
  ·have h : (s.data.toList == c) = true := h
   rw [if_pos h] at heq
   try refine z_run ?_
   refine z_fin rfl ?_
   try dsimp only [go_sem]
   try refine z_run ?_
   rw [← heq]
   exact z_finD 0 rfl (Nat.zero_le _) rfl rfl ⟨rfl, rfl⟩
  ·have h : (s.data.toList == c) = false := h
   rw [if_neg (by rw [h]; simp)] at heq
   try refine z_run ?_
   try rw [wrapI (n := (i : Int) + 1) (by omega) (by omega)]
   refine z_fin rfl ?_
   exact ⟨l.length - (i + 1), by omega, rfl, i + 1, rfl, by omega, rfl, heq⟩
 ·have hge : i = l.length := by have := of_decide_eq_false hge; omega
  subst hge
  rw [List.drop_length] at heq
  refine z_fin rfl ?_
  try dsimp only [go_sem]
  try refine z_run ?_
  rw [← heq]
  exact z_finD 0 rfl (Nat.zero_le _) rfl rfl ⟨rfl, rfl⟩
theorem contains_ok (hE : SxEnv E) (h37 : sxFn E cfg fuel 37 2 = some t37) (h62 : sxFn E cfg fuel 62 2 = some t62) (l : List (List UInt8)) (hl : l.length ≤ 1048576) (s : ByteArray) :
  PR E gl 37 [.fx 1 l.length (l.map Sb), St s] [] (Bo (l.any fun t => s.data.toList == t)) [] := by
 refine fnZ hE (cfg := cfg) (fuel := fuel) h37 (by kernel_rfl) ?_
 unfold t37
 try refine z_call rfl (index_ok hE h62 l hl s) (Nat.le_refl _) ?_
 try dsimp only [go_sem]
 try refine z_run ?_
 rw [← idxS_ge l 0 s]
 exact z_finD 0 rfl (Nat.zero_le _) rfl rfl ⟨rfl, rfl⟩
theorem reserved134_ok (hE : SxEnv E) (h134 : sxFn E cfg fuel 134 1 = some t134) (h37 : sxFn E cfg fuel 37 2 = some t37) (h62 : sxFn E cfg fuel 62 2 = some t62) (s : ByteArray) : PR E gl 134 [St s] [] (Bo (reserved s)) [] := by
 refine fnZ hE (cfg := cfg) (fuel := fuel) h134 (by kernel_rfl) ?_
 unfold t134
 try refine z_run ?_
 try refine z_call rfl (contains_ok hE h37 h62 resW (by show 11 ≤ 1048576; omega) s) (Nat.le_refl _) ?_
 try dsimp only [go_sem]
 try refine z_run ?_
 exact z_finD 0 rfl (Nat.zero_le _) rfl rfl ⟨rfl, rfl⟩
end
end Go.AM.PV
namespace Go.AM.PV
open Go Go.AM Go.AM.SX
attribute [local irreducible] pz LoopP
def okR1 (r : Int) : Bool := !(blankR r || decide (r < 32) || r == 127 || r == 65533)
def quoted : List Chr → Bool | [] => false | c :: _ => c.1 == 34
/-- A name, by its runes; num: does it read as a number? -/
def nameR (l : List Chr) (s : ByteArray) (num : Bool) : Bool :=
 !decide ((l.length : Int) < 1) && (!decide ((l.length : Int) > 32) && (!quoted l && (!(s.data.toList == [33]) && ((l.all fun c => okR1 c.1) && !num))))
section
variable {E : Env} {gl : List GRow} {cfg : Cfg} {fuel : Nat}
set_option maxHeartbeats 2000000 in
theorem name96_ok (hE : SxEnv E) (h96 : sxFn E cfg fuel 96 1 = some t96) (h130 : sxFn E cfg fuel 130 1 = some t130) {s : ByteArray} {num : List Chr → Bool}
  (h95 : PR E gl 95 [St s] [] (.ow 151 4 (chrs s s.size 0).length (Chr.ps (chrs s s.size 0))) [])
  (h128 : PR E gl 128 [.sl 4 (chrs s s.size 0).length (Chr.ps (chrs s s.size 0))] [] (.tup [.any, .any, Bo (num (chrs s s.size 0))]) []) :
  PR E gl 96 [St s] [] (Bo (nameR (chrs s s.size 0) s (num (chrs s s.size 0)))) [] := by
 refine fnZ hE (cfg := cfg) (fuel := fuel) h96 (by kernel_rfl) ?_
 unfold t96
 generalize chrs s s.size 0 = l at h95 h128 ⊢
 have e : ∀ b : Bool, nameR l s (num l) = b → [Bo b] = [Bo (nameR l s (num l))] ∧ ([] : Mu) = [] := fun b hb => by rw [hb]; exact ⟨rfl, rfl⟩
 have hr : nameR l s (num l) = (!decide ((l.length : Int) < 1) && (!decide ((l.length : Int) > 32) && (!quoted l && (!(s.data.toList == [33]) && ((l.all fun c => okR1 c.1) && !(num l)))))) := rfl
 try refine z_call rfl h95 (Nat.le_refl _) ?_
 try dsimp only [go_sem]
 try refine z_run ?_
 refine z_br rfl (fun h => ?_) (fun h => ?_)
 ·have h : decide ((l.length : Int) < 1) = true := h
  try refine z_run ?_
  exact z_finD 0 rfl (Nat.zero_le _) rfl rfl (e false (by rw [hr, h, Bool.not_true, Bool.false_and]))
 have h : decide ((l.length : Int) < 1) = false := h
 have hpos : 0 < l.length := by have := of_decide_eq_false h; omega
 rw [h, Bool.not_false, Bool.true_and] at hr
 try refine z_run ?_
 refine z_br rfl (fun h => ?_) (fun h => ?_)
 ·have h : decide ((l.length : Int) > 32) = true := h
  try refine z_run ?_
  exact z_finD 0 rfl (Nat.zero_le _) rfl rfl (e false (by rw [hr, h, Bool.not_true, Bool.false_and]))
 have h : decide ((l.length : Int) > 32) = false := h
 have hle : l.length ≤ 32 := by have := of_decide_eq_false h; omega
 rw [h, Bool.not_false, Bool.true_and] at hr
 try refine z_run ?_
 obtain ⟨c, hc⟩ : ∃ c, l[0]? = some c := ⟨l[0], List.getElem?_eq_getElem hpos⟩
 have hq : quoted l = (c.1 == 34) := by
  cases l with
  | nil => cases hc
  | cons a l => cases hc; rfl
 rw [hq] at hr
 try refine zn_idx (i := 0) rfl hpos ?_
 try dsimp only [go_sem]
 try refine z_run ?_
 try refine zn_ld1 rfl (Chr.ps_k hc).1 ?_
 try dsimp only [go_sem]
 try refine z_run ?_
 refine z_br rfl (fun h => ?_) (fun h => ?_)
 ·have h : (c.1 == 34) = true := h
  try refine z_run ?_
  exact z_finD 0 rfl (Nat.zero_le _) rfl rfl (e false (by rw [hr, h, Bool.not_true, Bool.false_and]))
 have h : (c.1 == 34) = false := h
 rw [h, Bool.not_false, Bool.true_and] at hr
 try refine z_run ?_
 refine z_br rfl (fun h => ?_) (fun h => ?_)
 ·have h : (s.data.toList == [33]) = true := h
  try refine z_run ?_
  exact z_finD 0 rfl (Nat.zero_le _) rfl rfl (e false (by rw [hr, h, Bool.not_true, Bool.false_and]))
 have h : (s.data.toList == [33]) = false := h
 rw [h, Bool.not_false, Bool.true_and] at hr
 try refine z_run ?_
 have hle' : l.length ≤ 1048576 := by omega
 refine z_loop (fun κ vs ν => ν = [] ∧ ∃ i, κ = l.length - i ∧ i ≤ l.length ∧ vs = [Bo false, I i] ∧ ((l.drop i).all fun c => okR1 c.1) = (l.all fun c => okR1 c.1)) rfl l.length _ (LeL.refl _) ⟨rfl, 0, by omega, by omega, rfl, rfl⟩ ?_
 rintro κ vs ν ⟨rfl, i, rfl, hi, rfl, heq⟩
 try dsimp only [go_sem]
 try refine z_run ?_
 refine z_br rfl (fun hlt => ?_) (fun hge => ?_)
 ·have hlt : i < l.length := by have := of_decide_eq_true hlt; omega
  obtain ⟨c, hc⟩ : ∃ c, l[i]? = some c := ⟨l[i], List.getElem?_eq_getElem hlt⟩
  have hstep : l.drop i = c :: l.drop (i + 1) := by
   rw [List.drop_eq_getElem_cons hlt]
   rw [List.getElem?_eq_getElem hlt] at hc
   cases hc; rfl
  have c0 := (Chr.ps_k hc).1
  rw [hstep, List.all_cons] at heq
  obtain ⟨r, x2, x3, x4⟩ := c
  dsimp only at c0 heq
  try refine zn_idx rfl hlt ?_
  try dsimp only [go_sem]
  try refine z_run ?_
  try refine zn_ld1 rfl c0 ?_
  try dsimp only [go_sem]
  try refine z_call rfl (blank_ok hE h130 r) (Nat.le_refl _) ?_
  try dsimp only [go_sem]
  try refine z_run ?_
  refine z_br rfl (fun h => ?_) (fun h => ?_)
  ·have h : (blankR r) = true := h
   try refine z_run ?_
   refine z_fin rfl ?_
   try dsimp only [go_sem]
   try refine z_run ?_
   exact z_finD 0 rfl (Nat.zero_le _) rfl rfl (e false (by rw [hr, ← heq, show okR1 r = false by unfold okR1; rw [h]; simp, Bool.false_and, Bool.false_and]))
  have h1 : (blankR r) = false := h
  try refine z_run ?_
  try refine zn_idx rfl hlt ?_
  try dsimp only [go_sem]
  try refine z_run ?_
  try refine zn_ld1 rfl c0 ?_
  try dsimp only [go_sem]
  try refine z_run ?_
  refine z_br rfl (fun h => ?_) (fun h => ?_)
  ·have h : (decide (r < 32)) = true := h
   try refine z_run ?_
   refine z_fin rfl ?_
   try dsimp only [go_sem]
   try refine z_run ?_
   exact z_finD 0 rfl (Nat.zero_le _) rfl rfl (e false (by rw [hr, ← heq, show okR1 r = false by unfold okR1; rw [h]; simp, Bool.false_and, Bool.false_and]))
  have h2 : (decide (r < 32)) = false := h
  try refine z_run ?_
  try refine zn_idx rfl hlt ?_
  try dsimp only [go_sem]
  try refine z_run ?_
  try refine zn_ld1 rfl c0 ?_
  try dsimp only [go_sem]
  try refine z_run ?_
  refine z_br rfl (fun h => ?_) (fun h => ?_)
  ·have h : (r == 127) = true := h
   try refine z_run ?_
   refine z_fin rfl ?_
   try dsimp only [go_sem]
   try refine z_run ?_
   exact z_finD 0 rfl (Nat.zero_le _) rfl rfl (e false (by rw [hr, ← heq, show okR1 r = false by unfold okR1; rw [h]; simp, Bool.false_and, Bool.false_and]))
  have h3 : (r == 127) = false := h
  try refine z_run ?_
  try refine zn_idx rfl hlt ?_
  try dsimp only [go_sem]
  try refine z_run ?_
  try refine zn_ld1 rfl c0 ?_
  try dsimp only [go_sem]
  try refine z_run ?_
  refine z_br rfl (fun h => ?_) (fun h => ?_)
  ·have h : (r == 65533) = true := h
   try refine z_run ?_
   refine z_fin rfl ?_
   try dsimp only [go_sem]
   try refine z_run ?_
   exact z_finD 0 rfl (Nat.zero_le _) rfl rfl (e false (by rw [hr, ← heq, show okR1 r = false by unfold okR1; rw [h]; simp, Bool.false_and, Bool.false_and]))
  have h4 : (r == 65533) = false := h
  try refine z_run ?_
  try rw [wrapI (n := (i : Int) + 1) (by omega) (by omega)]
  refine z_fin rfl ?_
  refine ⟨l.length - (i + 1), by omega, rfl, i + 1, rfl, by omega, rfl, ?_⟩
  rw [← heq, show okR1 r = true by unfold okR1; rw [h1, h2, h3, h4]; rfl, Bool.true_and]
 ·have hge : i = l.length := by have := of_decide_eq_false hge; omega
  subst hge
  rw [List.drop_length] at heq
  have heq : true = (l.all fun c => okR1 c.1) := heq
  rw [← heq, Bool.true_and] at hr
  refine z_fin rfl ?_
  try dsimp only [go_sem]
  try refine z_run ?_
  try refine z_call rfl (h128.frame (by simp only [okm.okL, okm, okL_chrs, Bool.and_self]) _) (Nat.le_refl _) ?_
  try dsimp only [go_sem]
  try refine z_run ?_
  exact z_finD 0 rfl (Nat.zero_le _) rfl rfl (e _ hr)
end
end Go.AM.PV
namespace Go.AM.PV
open Go Go.AM Go.AM.SX
attribute [local irreducible] pz LoopP
theorem chr_r (s : ByteArray) (pos : Nat) : (chr s pos).1 = ((Utf8.decode s pos).1 : Int) := by
 unfold chr chrOf
 split
 ·split
  ·rfl
  ·split <;> rfl
 ·rfl
section
variable {E : Env} {gl : List GRow} {cfg : Cfg} {fuel : Nat}
set_option maxHeartbeats 4000000 in
theorem name133_ok (hE : SxEnv E) (h133 : sxFn E cfg fuel 133 1 = some t133) {s : ByteArray} (hlen : s.size ≤ 1048576) {d : Bool}
  (h157 : ∀ r : Int, 0 ≤ r → r ≤ 1114111 → PR E gl 157 [R32 r] [] (Bo (blankR r)) [])
  (h124 : PR E gl 124 [St s] [] (.tup [.any, Bo d, .any]) []) :
  PR E gl 133 [St s] [] (Bo (nameR (chrs s s.size 0) s d)) [] := by
 refine fnZ hE (cfg := cfg) (fuel := fuel) h133 (by kernel_rfl) ?_
 unfold t133
 have hlc := chrs_len s s.size 0
 have e : ∀ b : Bool, nameR (chrs s s.size 0) s d = b → [Bo b] = [Bo (nameR (chrs s s.size 0) s d)] ∧ ([] : Mu) = [] := fun b hb => by rw [hb]; exact ⟨rfl, rfl⟩
 have hr : nameR (chrs s s.size 0) s d = (!decide (((chrs s s.size 0).length : Int) < 1) && (!decide (((chrs s s.size 0).length : Int) > 32) && (!quoted (chrs s s.size 0) && (!(s.data.toList == [33]) && (((chrs s s.size 0).all fun c => okR1 c.1) && !d))))) := rfl
 have hfail : ((chrs s s.size 0).all fun c => okR1 c.1) = false → nameR (chrs s s.size 0) s d = false := fun h => by rw [hr, h]; simp
 have hquote : quoted (chrs s s.size 0) = true → nameR (chrs s s.size 0) s d = false := fun h => by rw [hr, h]; simp
 refine z_range rfl ?_
 try dsimp only [go_sem]
 refine z_loop (fun κ vs ν => ∃ (pos n : Nat) (a : List Chr), κ = s.size - pos ∧ vs = [Bo false, I a.length] ∧ ν = [.sit s pos] ∧ a.length ≤ pos ∧ s.size ≤ pos + n ∧ a ++ chrs s n pos = chrs s s.size 0 ∧
   (a.all fun c => okR1 c.1) = true ∧ (a = [] → pos = 0) ∧ (a ≠ [] → quoted (chrs s s.size 0) = false)) rfl s.size
  _ (LeL.refl _) ⟨0, s.size, [], by omega, rfl, rfl, Nat.le_refl _, by omega, rfl, rfl, fun _ => rfl, fun h => absurd rfl h⟩ ?_
 rintro κ vs ν ⟨pos, n, a, rfl, rfl, rfl, ha, hn, heq, hall, hz, hqu⟩
 try dsimp only [go_sem]
 refine z_next (i := 0) (s := s) (pos := pos) rfl rfl (fun hlt => ?_) (fun hge => ?_)
 ·obtain ⟨n, rfl⟩ : ∃ n', n = n' + 1 := ⟨n - 1, by omega⟩
  have hw : 1 ≤ (Utf8.decode s pos).2 := Lib.decode_width_pos s pos hlt
  have hch := chr_r s pos
  have hr1 : ((Utf8.decode s pos).1 : Int) ≤ 1114111 := by
   have := Lib.decodeL_rune (s.data.toList.drop pos)
   rw [Lib.decodeL_drop] at this
   omega
  have hr0 : 0 ≤ ((Utf8.decode s pos).1 : Int) := by omega
  simp only [chrs] at heq
  rw [if_pos hlt] at heq
  generalize ((Utf8.decode s pos).1 : Int) = r at hch hr0 hr1 ⊢
  generalize (Utf8.decode s pos).2 = wd at hw heq ⊢
  have bad1 : okR1 r = false → nameR (chrs s s.size 0) s d = false := fun h => hfail (by rw [← heq, List.all_append, List.all_cons, hch, h]; simp)
  try dsimp only [go_sem]
  try refine z_run ?_
  refine z_br rfl (fun h => ?_) (fun h => ?_)
  ·have h : (r == 65533) = true := h
   try refine z_run ?_
   refine z_fin rfl ?_
   try dsimp only [go_sem]
   try refine z_run ?_
   exact z_finD 0 rfl (Nat.zero_le _) rfl rfl (e false (bad1 (by unfold okR1; rw [h]; simp)))
  have h4 : (r == 65533) = false := h
  try refine z_run ?_
  try refine z_call rfl ((h157 r hr0 hr1).frame rfl _) (Nat.le_refl _) ?_
  try dsimp only [go_sem]
  try refine z_run ?_
  refine z_br rfl (fun h => ?_) (fun h => ?_)
  ·have h : blankR r = true := h
   try refine z_run ?_
   refine z_fin rfl ?_
   try dsimp only [go_sem]
   try refine z_run ?_
   exact z_finD 0 rfl (Nat.zero_le _) rfl rfl (e false (bad1 (by unfold okR1; rw [h]; simp)))
  have h1 : blankR r = false := h
  try refine z_run ?_
  refine z_br rfl (fun h => ?_) (fun h => ?_)
  ·have h : decide (r < 32) = true := h
   try refine z_run ?_
   refine z_fin rfl ?_
   try dsimp only [go_sem]
   try refine z_run ?_
   exact z_finD 0 rfl (Nat.zero_le _) rfl rfl (e false (bad1 (by unfold okR1; rw [h]; simp)))
  have h2 : decide (r < 32) = false := h
  try refine z_run ?_
  refine z_br rfl (fun h => ?_) (fun h => ?_)
  ·have h : (r == 127) = true := h
   try refine z_run ?_
   refine z_fin rfl ?_
   try dsimp only [go_sem]
   try refine z_run ?_
   exact z_finD 0 rfl (Nat.zero_le _) rfl rfl (e false (bad1 (by unfold okR1; rw [h]; simp)))
  have h3 : (r == 127) = false := h
  have hok : okR1 r = true := by unfold okR1; rw [h1, h2, h3, h4]; rfl
  have next : quoted (chrs s s.size 0) = false → ∃ j, j < s.size - pos ∧ ∃ pos' n' a', j = s.size - pos' ∧ [Bo false, I ((a.length : Int) + 1)] = [Bo false, I (List.length a')] ∧ [Ob.sit s (pos + wd)] = [Ob.sit s pos'] ∧ a'.length ≤ pos' ∧ s.size ≤ pos' + n' ∧
    a' ++ chrs s n' pos' = chrs s s.size 0 ∧ (a'.all fun c => okR1 c.1) = true ∧ (a' = [] → pos' = 0) ∧ (a' ≠ [] → quoted (chrs s s.size 0) = false) := by
   intro hq
   refine ⟨_, ?_, pos + wd, n, a ++ [chr s pos], rfl, ?_, rfl, ?_, by omega, ?_, ?_, ?_, fun _ => hq⟩
   ·omega
   ·simp only [List.length_append, List.length_cons, List.length_nil, Nat.zero_add]; rfl
   ·simp only [List.length_append, List.length_cons, List.length_nil]; omega
   ·rw [List.append_assoc]; exact heq
   ·rw [List.all_append, hall, List.all_cons, hch, hok]; rfl
   ·intro h; simp at h
  have hal : a.length ≤ 1048576 := by omega
  try refine z_run ?_
  refine z_br rfl (fun h => ?_) (fun h => ?_)
  ·have h : ((pos : Int) == 0) = true := h
   have hp0 : pos = 0 := by have := eq_of_beq h; omega
   have ha0 : a = [] := by cases a with | nil => rfl | cons x a => simp only [List.length_cons] at ha; omega
   have hq : quoted (chrs s s.size 0) = (r == 34) := by rw [← heq, ha0, ← hch]; rfl
   try refine z_run ?_
   refine z_br rfl (fun h => ?_) (fun h => ?_)
   ·have h : (r == 34) = true := h
    try refine z_run ?_
    refine z_fin rfl ?_
    try dsimp only [go_sem]
    try refine z_run ?_
    exact z_finD 0 rfl (Nat.zero_le _) rfl rfl (e false (hquote (by rw [hq, h])))
   ·have h : (r == 34) = false := h
    try refine z_run ?_
    try rw [wrapI (n := (a.length : Int) + 1) (by omega) (by omega)]
    refine z_fin rfl ?_
    exact next (by rw [hq, h])
  ·have h : ((pos : Int) == 0) = false := h
   have hp0 : a ≠ [] := fun e => by rw [hz e] at h; simp at h
   try refine z_run ?_
   try rw [wrapI (n := (a.length : Int) + 1) (by omega) (by omega)]
   refine z_fin rfl ?_
   exact next (hqu hp0)
 ·rw [chrs_end hge, List.append_nil] at heq
  rw [← heq] at hr hqu e hlc
  try dsimp only [go_sem]
  try refine z_run ?_
  refine z_fin rfl ?_
  try dsimp only [go_sem]
  try refine z_run ?_
  try refine z_call rfl (h124.frame rfl _) (Nat.le_refl _) ?_
  try dsimp only [go_sem]
  try refine z_run ?_
  rw [← heq]
  refine z_br rfl (fun h => ?_) (fun h => ?_)
  ·have h : decide ((a.length : Int) ≥ 1) = true := h
   have hp : (a.length : Int) ≥ 1 := of_decide_eq_true h
   have hq := hqu (fun e => by rw [e] at hp; simp at hp)
   rw [hq, hall, decide_eq_false (p := (a.length : Int) < 1) (by omega)] at hr
   try refine z_run ?_
   refine z_br rfl (fun h => ?_) (fun h => ?_)
   ·have h : decide ((a.length : Int) ≤ 32) = true := h
    have hp2 : (a.length : Int) ≤ 32 := of_decide_eq_true h
    rw [decide_eq_false (p := (a.length : Int) > 32) (by omega)] at hr
    try refine z_run ?_
    refine z_br rfl (fun h => ?_) (fun h => ?_)
    ·have h : (!(s.data.toList == [33])) = true := h
     rw [h] at hr
     try refine z_run ?_
     exact z_finD 0 rfl (Nat.zero_le _) rfl rfl (e _ (by rw [hr]; simp))
    ·have h : (!(s.data.toList == [33])) = false := h
     rw [h] at hr
     try refine z_run ?_
     exact z_finD 0 rfl (Nat.zero_le _) rfl rfl (e false (by rw [hr]; simp))
   ·have h : decide ((a.length : Int) ≤ 32) = false := h
    have hp2 : ¬ (a.length : Int) ≤ 32 := of_decide_eq_false h
    rw [decide_eq_true (p := (a.length : Int) > 32) (by omega)] at hr
    try refine z_run ?_
    exact z_finD 0 rfl (Nat.zero_le _) rfl rfl (e false (by rw [hr]; simp))
  ·have h : decide ((a.length : Int) ≥ 1) = false := h
   have hp : ¬ (a.length : Int) ≥ 1 := of_decide_eq_false h
   rw [decide_eq_true (p := (a.length : Int) < 1) (by omega)] at hr
   try refine z_run ?_
   exact z_finD 0 rfl (Nat.zero_le _) rfl rfl (e false (by rw [hr]; simp))
end
end Go.AM.PV
namespace Go.AM.PV
open Go Go.AM Go.AM.SX
attribute [local irreducible] pz LoopP
section
variable {E : Env} {gl : List GRow} {cfg : Cfg} {fuel : Nat}
theorem name102_ok (hE : SxEnv E) (h102 : sxFn E cfg fuel 102 1 = some t102) {s : ByteArray} {b c : Bool} (h133 : PR E gl 133 [St s] [] (Bo b) []) (h134 : PR E gl 134 [St s] [] (Bo c) []) : PR E gl 102 [St s] [] (Bo (b && !c)) [] := by
 refine fnZ hE (cfg := cfg) (fuel := fuel) h102 (by kernel_rfl) ?_
 unfold t102
 try refine z_call rfl h133 (Nat.le_refl _) ?_
 try dsimp only [go_sem]
 cases b with
 | true =>
  try refine z_run ?_
  try refine z_call rfl h134 (Nat.le_refl _) ?_
  try dsimp only [go_sem]
  try refine z_run ?_
  exact z_finD 0 rfl (Nat.zero_le _) rfl rfl ⟨rfl, rfl⟩
 | false =>
  try refine z_run ?_
  exact z_finD 0 rfl (Nat.zero_le _) rfl rfl ⟨rfl, rfl⟩
theorem name57_ok (hE : SxEnv E) (h57 : sxFn E cfg fuel 57 1 = some t57) {s : ByteArray} {b c : Bool} (h96 : PR E gl 96 [St s] [] (Bo b) []) (h97 : PR E gl 97 [St s] [] (Bo c) []) : PR E gl 57 [St s] [] (Bo (b && !c)) [] := by
 refine fnZ hE (cfg := cfg) (fuel := fuel) h57 (by kernel_rfl) ?_
 unfold t57
 try refine z_call rfl h96 (Nat.le_refl _) ?_
 try dsimp only [go_sem]
 cases b with
 | true =>
  try refine z_run ?_
  try refine z_call rfl h97 (Nat.le_refl _) ?_
  try dsimp only [go_sem]
  try refine z_run ?_
  exact z_finD 0 rfl (Nat.zero_le _) rfl rfl ⟨rfl, rfl⟩
 | false =>
  try refine z_run ?_
  exact z_finD 0 rfl (Nat.zero_le _) rfl rfl ⟨rfl, rfl⟩
end
end Go.AM.PV
namespace Go.AM.PV
open Go Go.AM Go.AM.SX
def t124_3 : N := .op (.bin .add) [vv (.int .i64 0), vn 15] (.fin 0 [vn 7, vn 16, vv (.bool false), vn 24])
def t124_6 : N := .op (.bin .mul) [vv (.int .i64 10), vn 10] (.op (.bin .add) [vn 24, vn 15] (.fin 0 [vn 7, vn 16, vn 9, vn 25]))
def t124_10 : N := .op (.bin .sub) [vv (.int .i64 1152921504606846976), vn 15] (.op (.bin .quo) [vn 21, vv (.int .i64 10)] (.op (.bin .gtr) [vn 10, vn 22] (.br (vn 23) t124_3 t124_6)))
def t124_12 : N := .op (.bin .neq) [vn 16, vn 8] (.br (vn 20) (.fin 1 [vv (.bool false), vn 8, vv (.bool false), vv (.int .i64 0)]) t124_10)
def t124_14 : N := .op (.bin .add) [vv (.int .i64 0), vn 15] (.fin 0 [vn 7, vn 16, vv (.bool false), vn 23])
def t124_17 : N := .op (.bin .mul) [vv (.int .i64 10), vn 10] (.op (.bin .add) [vn 23, vn 15] (.fin 0 [vn 7, vn 16, vn 9, vn 24]))
def t124_21 : N := .op (.bin .sub) [vv (.int .i64 1152921504606846976), vn 15] (.op (.bin .quo) [vn 20, vv (.int .i64 10)] (.op (.bin .gtr) [vn 10, vn 21] (.br (vn 22) t124_14 t124_17)))
def t124_23 : N := .op (.bin .geq) [vn 8, vv (.int .i32 0)] (.br (vn 19) t124_12 t124_21)
def t124_30 : N := .op (.ext 2) [vn 11] (.call 146 [vn 13] (.op (.ext 0) [vn 14] (.op (.ext 1) [vn 14] (.op (.ext 2) [vn 14] (.op .not [vn 17] (.br (vn 18) (.fin 1 [vv (.bool false), vn 8, vv (.bool false), vv (.int .i64 0)]) t124_23))))))
def t124_34 : N := .op (.next true) [vn 6] (.op (.ext 0) [vn 11] (.br (vn 12) t124_30 (.fin 2 [vn 7, vn 8, vn 9, vn 10])))
def t124_36 : N := .op .tup [vn 11, vn 8, vn 10] (.fin 1 [vn 12])
def t124_39 : N := .op (.bin .leq) [vn 12, vv (.int .i64 1152921504606846975)] (.op .tup [vn 12, vn 13, vn 14] (.fin 1 [vn 15]))
def t124_41 : N := .op .tup [vn 12, vn 13, vv (.bool false)] (.fin 1 [vn 14])
def t124_44 : N := .op .neg [vn 11] (.op (.bin .geq) [vn 9, vv (.int .i32 0)] (.br (vn 10) t124_39 t124_41))
def t124_46 : N := .sw 7 2 t124_44 .bad
def t124_47 : N := .sw 7 1 t124_36 t124_46
def t124_53 : N := .call 145 [vn 0] (.op (.ext 0) [vn 2] (.op (.ext 1) [vn 2] (.op (.subS true false) [vn 0, vn 4] (.op (.range true) [vn 5] (.loop [vv (.bool false), vv (.int .i32 (-1)), vv (.bool true), vv (.int .i64 0)] t124_34 t124_47)))))
def t124_57 : N := .op (.bin .add) [vv (.int .i64 0), vn 16] (.fin 0 [vn 8, vn 17, vv (.bool false), vn 25])
def t124_60 : N := .op (.bin .mul) [vv (.int .i64 10), vn 11] (.op (.bin .add) [vn 25, vn 16] (.fin 0 [vn 8, vn 17, vn 10, vn 26]))
def t124_64 : N := .op (.bin .sub) [vv (.int .i64 1152921504606846976), vn 16] (.op (.bin .quo) [vn 22, vv (.int .i64 10)] (.op (.bin .gtr) [vn 11, vn 23] (.br (vn 24) t124_57 t124_60)))
def t124_66 : N := .op (.bin .neq) [vn 17, vn 9] (.br (vn 21) (.fin 1 [vv (.bool false), vn 9, vv (.bool false), vv (.int .i64 0)]) t124_64)
def t124_68 : N := .op (.bin .add) [vv (.int .i64 0), vn 16] (.fin 0 [vn 8, vn 17, vv (.bool false), vn 24])
def t124_71 : N := .op (.bin .mul) [vv (.int .i64 10), vn 11] (.op (.bin .add) [vn 24, vn 16] (.fin 0 [vn 8, vn 17, vn 10, vn 25]))
def t124_75 : N := .op (.bin .sub) [vv (.int .i64 1152921504606846976), vn 16] (.op (.bin .quo) [vn 21, vv (.int .i64 10)] (.op (.bin .gtr) [vn 11, vn 22] (.br (vn 23) t124_68 t124_71)))
def t124_77 : N := .op (.bin .geq) [vn 9, vv (.int .i32 0)] (.br (vn 20) t124_66 t124_75)
def t124_84 : N := .op (.ext 2) [vn 12] (.call 146 [vn 14] (.op (.ext 0) [vn 15] (.op (.ext 1) [vn 15] (.op (.ext 2) [vn 15] (.op .not [vn 18] (.br (vn 19) (.fin 1 [vv (.bool false), vn 9, vv (.bool false), vv (.int .i64 0)]) t124_77))))))
def t124_88 : N := .op (.next true) [vn 7] (.op (.ext 0) [vn 12] (.br (vn 13) t124_84 (.fin 2 [vn 8, vn 9, vn 10, vn 11])))
def t124_90 : N := .op .tup [vn 12, vn 9, vn 11] (.fin 1 [vn 13])
def t124_93 : N := .op (.bin .leq) [vn 13, vv (.int .i64 1152921504606846975)] (.op .tup [vn 13, vn 14, vn 15] (.fin 1 [vn 16]))
def t124_95 : N := .op .tup [vn 13, vn 14, vv (.bool false)] (.fin 1 [vn 15])
def t124_98 : N := .op .neg [vn 12] (.op (.bin .geq) [vn 10, vv (.int .i32 0)] (.br (vn 11) t124_93 t124_95))
def t124_100 : N := .sw 8 2 t124_98 .bad
def t124_101 : N := .sw 8 1 t124_90 t124_100
def t124_107 : N := .call 145 [vn 0] (.op (.ext 0) [vn 3] (.op (.ext 1) [vn 3] (.op (.subS true false) [vn 0, vn 5] (.op (.range true) [vn 6] (.loop [vv (.bool false), vv (.int .i32 (-1)), vv (.bool true), vv (.int .i64 0)] t124_88 t124_101)))))
def t124_111 : N := .op (.bin .add) [vv (.int .i64 0), vn 12] (.fin 0 [vn 4, vn 13, vv (.bool false), vn 21])
def t124_114 : N := .op (.bin .mul) [vv (.int .i64 10), vn 7] (.op (.bin .add) [vn 21, vn 12] (.fin 0 [vn 4, vn 13, vn 6, vn 22]))
def t124_118 : N := .op (.bin .sub) [vv (.int .i64 1152921504606846976), vn 12] (.op (.bin .quo) [vn 18, vv (.int .i64 10)] (.op (.bin .gtr) [vn 7, vn 19] (.br (vn 20) t124_111 t124_114)))
def t124_120 : N := .op (.bin .neq) [vn 13, vn 5] (.br (vn 17) (.fin 1 [vv (.bool false), vn 5, vv (.bool false), vv (.int .i64 0)]) t124_118)
def t124_122 : N := .op (.bin .add) [vv (.int .i64 0), vn 12] (.fin 0 [vn 4, vn 13, vv (.bool false), vn 20])
def t124_125 : N := .op (.bin .mul) [vv (.int .i64 10), vn 7] (.op (.bin .add) [vn 20, vn 12] (.fin 0 [vn 4, vn 13, vn 6, vn 21]))
def t124_129 : N := .op (.bin .sub) [vv (.int .i64 1152921504606846976), vn 12] (.op (.bin .quo) [vn 17, vv (.int .i64 10)] (.op (.bin .gtr) [vn 7, vn 18] (.br (vn 19) t124_122 t124_125)))
def t124_131 : N := .op (.bin .geq) [vn 5, vv (.int .i32 0)] (.br (vn 16) t124_120 t124_129)
def t124_138 : N := .op (.ext 2) [vn 8] (.call 146 [vn 10] (.op (.ext 0) [vn 11] (.op (.ext 1) [vn 11] (.op (.ext 2) [vn 11] (.op .not [vn 14] (.br (vn 15) (.fin 1 [vv (.bool false), vn 5, vv (.bool false), vv (.int .i64 0)]) t124_131))))))
def t124_142 : N := .op (.next true) [vn 3] (.op (.ext 0) [vn 8] (.br (vn 9) t124_138 (.fin 2 [vn 4, vn 5, vn 6, vn 7])))
def t124_144 : N := .op .tup [vn 8, vn 5, vn 7] (.fin 1 [vn 9])
def t124_147 : N := .op (.bin .leq) [vn 8, vv (.int .i64 1152921504606846975)] (.op .tup [vn 8, vn 9, vn 10] (.fin 1 [vn 11]))
def t124_149 : N := .op .tup [vn 8, vn 9, vv (.bool false)] (.fin 1 [vn 10])
def t124_151 : N := .op (.bin .geq) [vn 6, vv (.int .i32 0)] (.br (vn 7) t124_147 t124_149)
def t124_153 : N := .sw 4 2 t124_151 .bad
def t124_154 : N := .sw 4 1 t124_144 t124_153
def t124_156 : N := .op (.range true) [vn 0] (.loop [vv (.bool false), vv (.int .i32 (-1)), vv (.bool true), vv (.int .i64 0)] t124_142 t124_154)
def t124_158 : N := .call 67 [vn 0, vv (bs [226, 136, 146])] (.br (vn 2) t124_107 t124_156)
def t124 : N := .call 67 [vn 0, vv (bs [45])] (.br (vn 1) t124_53 t124_158)
def t128_1 : N := .op .tup [vv (.int .u64 0), vv (.bool true), vv (.bool false)] (.fin 1 [vn 10])
def t128_3 : N := .op .tup [vv (.int .u64 0), vv (.bool true), vv (.bool false)] (.fin 1 [vn 15])
def t128_29 : N := .self (vn 17) (.chk 4 (.bin .mul) [vv (.int .u64 10), vn 17] (vn 32) (.chk 3 (.bin .mul) [vv (.int .u64 10), vn 17] (vn 32) (.self (vn 7) (.self (vn 7) (.self (vn 18) (.self (vn 18) (.chk 4 (.idxA 4) [vn 7, vn 18] (vn 33) (.chk 3 (.idxA 4) [vn 7, vn 18] (vn 33) (.chk 4 (.fld 0) [vn 33] (vn 34) (.chk 3 (.fld 0) [vn 33] (vn 34) (.chk 4 (.load none) [vn 34] (vn 35) (.chk 3 (.load none) [vn 34] (vn 35) (.self (vn 7) (.self (vn 18) (.chk 3 (.idxA 4) [vn 7, vn 18] (vn 36) (.chk 3 (.fld 0) [vn 36] (vn 37) (.chk 3 (.load none) [vn 37] (vn 38) (.chk 4 (.bin .sub) [vn 35, vn 39] (vn 40) (.chk 4 (.conv .u64) [vn 40] (vn 41) (.chk 4 (.bin .add) [vn 32, vn 41] (vn 42) (.chk 4 (.mm false) [vn 42, vv (.int .u64 1152921504606846977)] (vn 43) (.self (vn 43) (.op (.bin .add) [vn 18, vv (.int .i64 1)] (.fin 0 [vn 15, vn 16, vn 43, vn 44]))))))))))))))))))))))))
def t128_45 : N := .bump 18 (.save (.op (.bin .mul) [vv (.int .u64 10), vn 17] (.op (.idxA 4) [vn 7, vn 18] (.op (.fld 0) [vn 33] (.op (.load none) [vn 34] (.op (.idxA 4) [vn 7, vn 18] (.op (.fld 0) [vn 36] (.op (.load none) [vn 37] (.call 148 [vn 38] (.save (.op (.bin .sub) [vn 35, vn 39] (.op (.conv .u64) [vn 40] (.op (.bin .add) [vn 32, vn 41] (.op (.mm false) [vn 42, vv (.int .u64 1152921504606846977)] (.self (vn 17) t128_29)))))))))))))))
def t128_69 : N := .op (.load none) [vn 23] (.call 148 [vn 24] (.save (.op (.idxA 4) [vn 7, vv (.int .i64 0)] (.op (.fld 0) [vn 26] (.op (.load none) [vn 27] (.call 148 [vn 28] (.save (.op (.bin .neq) [vn 25, vn 29] (.self (vn 7) (.self (vn 18) (.chk 0 (.idxA 4) [vn 7, vn 18] (vn 22) (.chk 0 (.fld 0) [vn 22] (vn 23) (.chk 0 (.load none) [vn 23] (vn 24) (.self (vn 7) (.self (vn 7) (.chk 1 (.idxA 4) [vn 7, vv (.int .i64 0)] (vn 26) (.chk 0 (.idxA 4) [vn 7, vv (.int .i64 0)] (vn 26) (.chk 1 (.fld 0) [vn 26] (vn 27) (.chk 0 (.fld 0) [vn 26] (vn 27) (.chk 1 (.load none) [vn 27] (vn 28) (.chk 0 (.load none) [vn 27] (vn 28) (.chk 2 (.bin .neq) [vn 25, vn 29] (vn 30) (.br (vn 30) (.fin 1 [vn 15, vv (.bool false), vv (.int .u64 0), vn 18]) t128_45)))))))))))))))))))))))
def t128_73 : N := .bump 12 (.save (.op (.idxA 4) [vn 7, vn 18] (.op (.fld 0) [vn 22] t128_69)))
def t128_77 : N := .op .lenL [vn 7] (.op (.bin .lss) [vn 18, vn 19] (.br (vn 20) t128_73 (.fin 2 [vn 15, vn 16, vn 17, vn 18])))
def t128_79 : N := .op .tup [vn 18, vn 16, vn 17] (.fin 1 [vn 20])
def t128_81 : N := .op .tup [vn 18, vn 16, vv (.bool true)] (.fin 1 [vn 20])
def t128_83 : N := .sw 15 2 t128_81 .bad
def t128_84 : N := .sw 15 1 t128_79 t128_83
def t128_85 : N := .loop [vv (.bool true), vv (.bool false), vv (.int .u64 0), vv (.int .i64 0)] t128_77 t128_84
def t128_91 : N := .op (.idxA 4) [vn 7, vv (.int .i64 0)] (.op (.fld 0) [vn 10] (.op (.load none) [vn 11] (.call 148 [vn 12] (.op (.bin .eql) [vn 13, vv (.int .i32 0)] (.br (vn 14) t128_3 t128_85)))))
def t128_95 : N := .op (.subL 4 true false false) [vn 0, vv (.int .i64 1)] (.op .lenL [vn 7] (.op (.bin .eql) [vn 8, vv (.int .i64 0)] (.br (vn 9) t128_1 t128_91)))
def t128_97 : N := .op .tup [vv (.int .u64 0), vv (.bool true), vv (.bool false)] (.fin 1 [vn 14])
def t128_99 : N := .op .tup [vv (.int .u64 0), vv (.bool true), vv (.bool false)] (.fin 1 [vn 19])
def t128_125 : N := .self (vn 21) (.chk 4 (.bin .mul) [vv (.int .u64 10), vn 21] (vn 36) (.chk 3 (.bin .mul) [vv (.int .u64 10), vn 21] (vn 36) (.self (vn 11) (.self (vn 11) (.self (vn 22) (.self (vn 22) (.chk 4 (.idxA 4) [vn 11, vn 22] (vn 37) (.chk 3 (.idxA 4) [vn 11, vn 22] (vn 37) (.chk 4 (.fld 0) [vn 37] (vn 38) (.chk 3 (.fld 0) [vn 37] (vn 38) (.chk 4 (.load none) [vn 38] (vn 39) (.chk 3 (.load none) [vn 38] (vn 39) (.self (vn 11) (.self (vn 22) (.chk 3 (.idxA 4) [vn 11, vn 22] (vn 40) (.chk 3 (.fld 0) [vn 40] (vn 41) (.chk 3 (.load none) [vn 41] (vn 42) (.chk 4 (.bin .sub) [vn 39, vn 43] (vn 44) (.chk 4 (.conv .u64) [vn 44] (vn 45) (.chk 4 (.bin .add) [vn 36, vn 45] (vn 46) (.chk 4 (.mm false) [vn 46, vv (.int .u64 1152921504606846977)] (vn 47) (.self (vn 47) (.op (.bin .add) [vn 22, vv (.int .i64 1)] (.fin 0 [vn 19, vn 20, vn 47, vn 48]))))))))))))))))))))))))
def t128_141 : N := .bump 18 (.save (.op (.bin .mul) [vv (.int .u64 10), vn 21] (.op (.idxA 4) [vn 11, vn 22] (.op (.fld 0) [vn 37] (.op (.load none) [vn 38] (.op (.idxA 4) [vn 11, vn 22] (.op (.fld 0) [vn 40] (.op (.load none) [vn 41] (.call 148 [vn 42] (.save (.op (.bin .sub) [vn 39, vn 43] (.op (.conv .u64) [vn 44] (.op (.bin .add) [vn 36, vn 45] (.op (.mm false) [vn 46, vv (.int .u64 1152921504606846977)] (.self (vn 21) t128_125)))))))))))))))
def t128_165 : N := .op (.load none) [vn 27] (.call 148 [vn 28] (.save (.op (.idxA 4) [vn 11, vv (.int .i64 0)] (.op (.fld 0) [vn 30] (.op (.load none) [vn 31] (.call 148 [vn 32] (.save (.op (.bin .neq) [vn 29, vn 33] (.self (vn 11) (.self (vn 22) (.chk 0 (.idxA 4) [vn 11, vn 22] (vn 26) (.chk 0 (.fld 0) [vn 26] (vn 27) (.chk 0 (.load none) [vn 27] (vn 28) (.self (vn 11) (.self (vn 11) (.chk 1 (.idxA 4) [vn 11, vv (.int .i64 0)] (vn 30) (.chk 0 (.idxA 4) [vn 11, vv (.int .i64 0)] (vn 30) (.chk 1 (.fld 0) [vn 30] (vn 31) (.chk 0 (.fld 0) [vn 30] (vn 31) (.chk 1 (.load none) [vn 31] (vn 32) (.chk 0 (.load none) [vn 31] (vn 32) (.chk 2 (.bin .neq) [vn 29, vn 33] (vn 34) (.br (vn 34) (.fin 1 [vn 19, vv (.bool false), vv (.int .u64 0), vn 22]) t128_141)))))))))))))))))))))))
def t128_169 : N := .bump 12 (.save (.op (.idxA 4) [vn 11, vn 22] (.op (.fld 0) [vn 26] t128_165)))
def t128_173 : N := .op .lenL [vn 11] (.op (.bin .lss) [vn 22, vn 23] (.br (vn 24) t128_169 (.fin 2 [vn 19, vn 20, vn 21, vn 22])))
def t128_175 : N := .op .tup [vn 22, vn 20, vn 21] (.fin 1 [vn 24])
def t128_177 : N := .op .tup [vn 22, vn 20, vv (.bool true)] (.fin 1 [vn 24])
def t128_179 : N := .sw 19 2 t128_177 .bad
def t128_180 : N := .sw 19 1 t128_175 t128_179
def t128_181 : N := .loop [vv (.bool true), vv (.bool false), vv (.int .u64 0), vv (.int .i64 0)] t128_173 t128_180
def t128_187 : N := .op (.idxA 4) [vn 11, vv (.int .i64 0)] (.op (.fld 0) [vn 14] (.op (.load none) [vn 15] (.call 148 [vn 16] (.op (.bin .eql) [vn 17, vv (.int .i32 0)] (.br (vn 18) t128_99 t128_181)))))
def t128_191 : N := .op (.subL 4 true false false) [vn 0, vv (.int .i64 1)] (.op .lenL [vn 11] (.op (.bin .eql) [vn 12, vv (.int .i64 0)] (.br (vn 13) t128_97 t128_187)))
def t128_193 : N := .op .tup [vv (.int .u64 0), vv (.bool false), vv (.bool false)] (.fin 1 [vn 13])
def t128_195 : N := .op .tup [vv (.int .u64 0), vv (.bool false), vv (.bool false)] (.fin 1 [vn 18])
def t128_221 : N := .self (vn 20) (.chk 4 (.bin .mul) [vv (.int .u64 10), vn 20] (vn 35) (.chk 3 (.bin .mul) [vv (.int .u64 10), vn 20] (vn 35) (.self (vn 0) (.self (vn 0) (.self (vn 21) (.self (vn 21) (.chk 4 (.idxA 4) [vn 0, vn 21] (vn 36) (.chk 3 (.idxA 4) [vn 0, vn 21] (vn 36) (.chk 4 (.fld 0) [vn 36] (vn 37) (.chk 3 (.fld 0) [vn 36] (vn 37) (.chk 4 (.load none) [vn 37] (vn 38) (.chk 3 (.load none) [vn 37] (vn 38) (.self (vn 0) (.self (vn 21) (.chk 3 (.idxA 4) [vn 0, vn 21] (vn 39) (.chk 3 (.fld 0) [vn 39] (vn 40) (.chk 3 (.load none) [vn 40] (vn 41) (.chk 4 (.bin .sub) [vn 38, vn 42] (vn 43) (.chk 4 (.conv .u64) [vn 43] (vn 44) (.chk 4 (.bin .add) [vn 35, vn 44] (vn 45) (.chk 4 (.mm false) [vn 45, vv (.int .u64 1152921504606846977)] (vn 46) (.self (vn 46) (.op (.bin .add) [vn 21, vv (.int .i64 1)] (.fin 0 [vn 18, vn 19, vn 46, vn 47]))))))))))))))))))))))))
def t128_237 : N := .bump 18 (.save (.op (.bin .mul) [vv (.int .u64 10), vn 20] (.op (.idxA 4) [vn 0, vn 21] (.op (.fld 0) [vn 36] (.op (.load none) [vn 37] (.op (.idxA 4) [vn 0, vn 21] (.op (.fld 0) [vn 39] (.op (.load none) [vn 40] (.call 148 [vn 41] (.save (.op (.bin .sub) [vn 38, vn 42] (.op (.conv .u64) [vn 43] (.op (.bin .add) [vn 35, vn 44] (.op (.mm false) [vn 45, vv (.int .u64 1152921504606846977)] (.self (vn 20) t128_221)))))))))))))))
def t128_261 : N := .op (.load none) [vn 26] (.call 148 [vn 27] (.save (.op (.idxA 4) [vn 0, vv (.int .i64 0)] (.op (.fld 0) [vn 29] (.op (.load none) [vn 30] (.call 148 [vn 31] (.save (.op (.bin .neq) [vn 28, vn 32] (.self (vn 0) (.self (vn 21) (.chk 0 (.idxA 4) [vn 0, vn 21] (vn 25) (.chk 0 (.fld 0) [vn 25] (vn 26) (.chk 0 (.load none) [vn 26] (vn 27) (.self (vn 0) (.self (vn 0) (.chk 1 (.idxA 4) [vn 0, vv (.int .i64 0)] (vn 29) (.chk 0 (.idxA 4) [vn 0, vv (.int .i64 0)] (vn 29) (.chk 1 (.fld 0) [vn 29] (vn 30) (.chk 0 (.fld 0) [vn 29] (vn 30) (.chk 1 (.load none) [vn 30] (vn 31) (.chk 0 (.load none) [vn 30] (vn 31) (.chk 2 (.bin .neq) [vn 28, vn 32] (vn 33) (.br (vn 33) (.fin 1 [vn 18, vv (.bool false), vv (.int .u64 0), vn 21]) t128_237)))))))))))))))))))))))
def t128_265 : N := .bump 12 (.save (.op (.idxA 4) [vn 0, vn 21] (.op (.fld 0) [vn 25] t128_261)))
def t128_269 : N := .op .lenL [vn 0] (.op (.bin .lss) [vn 21, vn 22] (.br (vn 23) t128_265 (.fin 2 [vn 18, vn 19, vn 20, vn 21])))
def t128_271 : N := .op .tup [vn 21, vn 19, vn 20] (.fin 1 [vn 23])
def t128_273 : N := .op .tup [vn 21, vn 19, vv (.bool true)] (.fin 1 [vn 23])
def t128_275 : N := .sw 18 2 t128_273 .bad
def t128_276 : N := .sw 18 1 t128_271 t128_275
def t128_277 : N := .loop [vv (.bool false), vv (.bool false), vv (.int .u64 0), vv (.int .i64 0)] t128_269 t128_276
def t128_283 : N := .op (.idxA 4) [vn 0, vv (.int .i64 0)] (.op (.fld 0) [vn 13] (.op (.load none) [vn 14] (.call 148 [vn 15] (.op (.bin .eql) [vn 16, vv (.int .i32 0)] (.br (vn 17) t128_195 t128_277)))))
def t128_286 : N := .op .lenL [vn 0] (.op (.bin .eql) [vn 11, vv (.int .i64 0)] (.br (vn 12) t128_193 t128_283))
def t128_291 : N := .op (.idxA 4) [vn 0, vv (.int .i64 0)] (.op (.fld 0) [vn 7] (.op (.load none) [vn 8] (.op (.bin .eql) [vn 9, vv (.int .i32 8722)] (.br (vn 10) t128_191 t128_286))))
def t128_296 : N := .op (.idxA 4) [vn 0, vv (.int .i64 0)] (.op (.fld 0) [vn 3] (.op (.load none) [vn 4] (.op (.bin .eql) [vn 5, vv (.int .i32 45)] (.br (vn 6) t128_95 t128_291))))
def t128_298 : N := .op .tup [vv (.int .u64 0), vv (.bool false), vv (.bool false)] (.fin 1 [vn 5])
def t128_300 : N := .op .tup [vv (.int .u64 0), vv (.bool false), vv (.bool false)] (.fin 1 [vn 10])
def t128_326 : N := .self (vn 12) (.chk 4 (.bin .mul) [vv (.int .u64 10), vn 12] (vn 27) (.chk 3 (.bin .mul) [vv (.int .u64 10), vn 12] (vn 27) (.self (vn 0) (.self (vn 0) (.self (vn 13) (.self (vn 13) (.chk 4 (.idxA 4) [vn 0, vn 13] (vn 28) (.chk 3 (.idxA 4) [vn 0, vn 13] (vn 28) (.chk 4 (.fld 0) [vn 28] (vn 29) (.chk 3 (.fld 0) [vn 28] (vn 29) (.chk 4 (.load none) [vn 29] (vn 30) (.chk 3 (.load none) [vn 29] (vn 30) (.self (vn 0) (.self (vn 13) (.chk 3 (.idxA 4) [vn 0, vn 13] (vn 31) (.chk 3 (.fld 0) [vn 31] (vn 32) (.chk 3 (.load none) [vn 32] (vn 33) (.chk 4 (.bin .sub) [vn 30, vn 34] (vn 35) (.chk 4 (.conv .u64) [vn 35] (vn 36) (.chk 4 (.bin .add) [vn 27, vn 36] (vn 37) (.chk 4 (.mm false) [vn 37, vv (.int .u64 1152921504606846977)] (vn 38) (.self (vn 38) (.op (.bin .add) [vn 13, vv (.int .i64 1)] (.fin 0 [vn 10, vn 11, vn 38, vn 39]))))))))))))))))))))))))
def t128_342 : N := .bump 18 (.save (.op (.bin .mul) [vv (.int .u64 10), vn 12] (.op (.idxA 4) [vn 0, vn 13] (.op (.fld 0) [vn 28] (.op (.load none) [vn 29] (.op (.idxA 4) [vn 0, vn 13] (.op (.fld 0) [vn 31] (.op (.load none) [vn 32] (.call 148 [vn 33] (.save (.op (.bin .sub) [vn 30, vn 34] (.op (.conv .u64) [vn 35] (.op (.bin .add) [vn 27, vn 36] (.op (.mm false) [vn 37, vv (.int .u64 1152921504606846977)] (.self (vn 12) t128_326)))))))))))))))
def t128_366 : N := .op (.load none) [vn 18] (.call 148 [vn 19] (.save (.op (.idxA 4) [vn 0, vv (.int .i64 0)] (.op (.fld 0) [vn 21] (.op (.load none) [vn 22] (.call 148 [vn 23] (.save (.op (.bin .neq) [vn 20, vn 24] (.self (vn 0) (.self (vn 13) (.chk 0 (.idxA 4) [vn 0, vn 13] (vn 17) (.chk 0 (.fld 0) [vn 17] (vn 18) (.chk 0 (.load none) [vn 18] (vn 19) (.self (vn 0) (.self (vn 0) (.chk 1 (.idxA 4) [vn 0, vv (.int .i64 0)] (vn 21) (.chk 0 (.idxA 4) [vn 0, vv (.int .i64 0)] (vn 21) (.chk 1 (.fld 0) [vn 21] (vn 22) (.chk 0 (.fld 0) [vn 21] (vn 22) (.chk 1 (.load none) [vn 22] (vn 23) (.chk 0 (.load none) [vn 22] (vn 23) (.chk 2 (.bin .neq) [vn 20, vn 24] (vn 25) (.br (vn 25) (.fin 1 [vn 10, vv (.bool false), vv (.int .u64 0), vn 13]) t128_342)))))))))))))))))))))))
def t128_370 : N := .bump 12 (.save (.op (.idxA 4) [vn 0, vn 13] (.op (.fld 0) [vn 17] t128_366)))
def t128_374 : N := .op .lenL [vn 0] (.op (.bin .lss) [vn 13, vn 14] (.br (vn 15) t128_370 (.fin 2 [vn 10, vn 11, vn 12, vn 13])))
def t128_376 : N := .op .tup [vn 13, vn 11, vn 12] (.fin 1 [vn 15])
def t128_378 : N := .op .tup [vn 13, vn 11, vv (.bool true)] (.fin 1 [vn 15])
def t128_380 : N := .sw 10 2 t128_378 .bad
def t128_381 : N := .sw 10 1 t128_376 t128_380
def t128_382 : N := .loop [vv (.bool false), vv (.bool false), vv (.int .u64 0), vv (.int .i64 0)] t128_374 t128_381
def t128_388 : N := .op (.idxA 4) [vn 0, vv (.int .i64 0)] (.op (.fld 0) [vn 5] (.op (.load none) [vn 6] (.call 148 [vn 7] (.op (.bin .eql) [vn 8, vv (.int .i32 0)] (.br (vn 9) t128_300 t128_382)))))
def t128_391 : N := .op .lenL [vn 0] (.op (.bin .eql) [vn 3, vv (.int .i64 0)] (.br (vn 4) t128_298 t128_388))
def t128 : N := .op .lenL [vn 0] (.op (.bin .gtr) [vn 1, vv (.int .i64 0)] (.br (vn 2) t128_296 t128_391))
end Go.AM.PV
namespace Go.AM.PV
open Go Go.AM Go.AM.SX
attribute [local irreducible] pz LoopP
def pref (s p : ByteArray) : Bool := decide ((s.size : Int) ≥ (p.size : Int)) && ((s.extract 0 p.size).data.toList == p.data.toList)
section
variable {E : Env} {gl : List GRow} {cfg : Cfg} {fuel : Nat}
theorem pref105_ok (hE : SxEnv E) (h105 : sxFn E cfg fuel 105 2 = some t105) (s p : ByteArray) : PR E gl 105 [St s, St p] [] (Bo (pref s p)) [] := by
 refine fnZ hE (cfg := cfg) (fuel := fuel) h105 (by kernel_rfl) ?_
 unfold t105
 have hr : pref s p = (decide ((s.size : Int) ≥ (p.size : Int)) && ((s.extract 0 p.size).data.toList == p.data.toList)) := rfl
 try refine z_run ?_
 refine z_br rfl (fun h => ?_) (fun h => ?_)
 ·have h : decide ((s.size : Int) ≥ (p.size : Int)) = true := h
  rw [h, Bool.true_and] at hr
  try refine z_run ?_
  refine z_subTo (s := s) (h := p.size) rfl (by have := of_decide_eq_true h; omega) ?_
  try dsimp only [go_sem]
  try refine z_run ?_
  rw [hr]
  exact z_finD 0 rfl (Nat.zero_le _) rfl rfl ⟨rfl, rfl⟩
 ·have h : decide ((s.size : Int) ≥ (p.size : Int)) = false := h
  rw [h, Bool.false_and] at hr
  try refine z_run ?_
  rw [hr]
  exact z_finD 0 rfl (Nat.zero_le _) rfl rfl ⟨rfl, rfl⟩
theorem pref_ok (hE : SxEnv E) (h67 : sxFn E cfg fuel 67 2 = some t67) (h105 : sxFn E cfg fuel 105 2 = some t105) (s p : ByteArray) : PR E gl 67 [St s, St p] [] (Bo (pref s p)) [] := by
 refine fnZ hE (cfg := cfg) (fuel := fuel) h67 (by kernel_rfl) ?_
 unfold t67
 try refine z_call rfl (pref105_ok hE h105 s p) (Nat.le_refl _) ?_
 try dsimp only [go_sem]
 try refine z_run ?_
 exact z_finD 0 rfl (Nat.zero_le _) rfl rfl ⟨rfl, rfl⟩
end
end Go.AM.PV
namespace Go.AM.PV
open Go Go.AM Go.AM.SX
/-- All of one script. -/
def oneScript : List Chr → Bool
 | [] => false
 | c :: l => !(script c.1 == 0) && (c :: l).all fun x => script x.1 == script c.1
/-- Does a text read as a number, by its runes? -/
def numR : List Chr → Bool
 | [] => false
 | c :: l => if c.1 == 45 || c.1 == 8722 then oneScript l else oneScript (c :: l)
/-- As the program goes: the base so far, -1 ahead of the first. -/
def digR : Int → List Chr → Bool
 | b, [] => decide (b ≥ 0)
 | b, c :: l => if script c.1 = 0 then false else if b ≥ 0 ∧ script c.1 ≠ b then false else digR (script c.1) l
theorem script_cases (r : Int) : script r = 0 ∨ script r = 48 ∨ script r = 1632 ∨ script r = 65296 := by
 unfold script
 split
 ·exact .inr (.inl rfl)
 ·split
  ·exact .inr (.inr (.inl rfl))
  ·split
   ·exact .inr (.inr (.inr rfl))
   ·exact .inl rfl
theorem digR_in : ∀ (l : List Chr) (b : Int), b > 0 → digR b l = l.all fun x => script x.1 == b
 | [], b, h => by simp only [digR, List.all_nil]; exact decide_eq_true (by omega)
 | c :: l, b, h => by
  simp only [digR, List.all_cons]
  by_cases h0 : script c.1 = 0
  ·rw [if_pos h0]
   have : (script c.1 == b) = false := by rw [h0]; exact beq_eq_false_iff_ne.mpr (by omega)
   rw [this, Bool.false_and]
  ·rw [if_neg h0]
   by_cases h1 : script c.1 = b
   ·rw [if_neg (fun e => e.2 h1), h1, digR_in l b h, beq_self_eq_true, Bool.true_and]
   ·rw [if_pos ⟨by omega, h1⟩, beq_eq_false_iff_ne.mpr h1, Bool.false_and]
theorem digR_eq (l : List Chr) : digR (-1) l = oneScript l := by
 cases l with
 | nil => rfl
 | cons c l =>
  simp only [digR, oneScript]
  by_cases h0 : script c.1 = 0
  ·rw [if_pos h0, h0]; rfl
  ·rw [if_neg h0, if_neg (fun e => by have := e.1; omega)]
   have hp : script c.1 > 0 := by rcases script_cases c.1 with h | h | h | h <;> omega
   rw [digR_in l _ hp, List.all_cons, beq_self_eq_true, Bool.true_and, beq_eq_false_iff_ne.mpr h0]
   rfl
end Go.AM.PV
namespace Go.AM.PV
open Go Go.AM Go.AM.SX
theorem z_quoW {E : Env} {gl : List GRow} {k : N} {m : Nat} {rv : Rv} {d : Bool} {hs : List Nat} {ps : List P} {xs : List X} {μ : Mu} {Q : PPost} {x y : Int} (h : denF ps xs = some [.c (.int .i64 x), .c (.int .i64 y)]) (hy : y ≠ 0) (hk : pz E gl k m rv d hs (ps ++ [.c (.int .i64 (IntKind.wrap .i64 (x.tdiv y)))]) μ Q) : pz E gl (.op (.bin .quo) xs k) m rv d hs ps μ Q := by
 refine ⟨_, _, h, ?_, hk⟩
 unfold semP semC
 simp only [mfree, unc, semR, binV, fast, if_true, isShift, Bool.false_eq_true, if_false, intBin, hy]
attribute [local irreducible] pz LoopP
section
variable {E : Env} {gl : List GRow} {cfg : Cfg} {fuel : Nat}
set_option maxHeartbeats 4000000 in
theorem digits_plain (hE : SxEnv E) (h124 : sxFn E cfg fuel 124 1 = some t124) (h146 : sxFn E cfg fuel 146 1 = some t146) {s : ByteArray} (hlen : s.size ≤ 1048576)
  (hp1 : PR E gl 67 [St s, St ⟨[45].toArray⟩] [] (Bo false) []) (hp2 : PR E gl 67 [St s, St ⟨[226, 136, 146].toArray⟩] [] (Bo false) []) :
  PR E gl 124 [St s] [] (.tup [.any, Bo (digR (-1) (chrs s s.size 0)), .any]) [] := by
 refine fnZ hE (cfg := cfg) (fuel := fuel) h124 (by kernel_rfl) ?_
 unfold t124
 try refine z_call rfl hp1 (Nat.le_refl _) ?_
 try dsimp only [go_sem]
 try refine z_run ?_
 try refine z_call rfl hp2 (Nat.le_refl _) ?_
 try dsimp only [go_sem]
 try refine z_run ?_
 refine z_range rfl ?_
 try dsimp only [go_sem]
 refine z_loop (fun κ vs ν => ∃ (pos n : Nat) (b m : Int) (fl : Bool), κ = s.size - pos ∧ vs = [Bo false, R32 b, Bo fl, I m] ∧ ν = [.sit s pos] ∧ s.size ≤ pos + n ∧ digR b (chrs s n pos) = digR (-1) (chrs s s.size 0)) rfl s.size
  _ (LeL.refl _) ⟨0, s.size, -1, 0, true, by omega, rfl, rfl, by omega, rfl⟩ ?_
 rintro κ vs ν ⟨pos, n, b, m, fl, rfl, rfl, rfl, hn, heq⟩
 try dsimp only [go_sem]
 refine z_next (i := 0) (s := s) (pos := pos) rfl rfl (fun hlt => ?_) (fun hge => ?_)
 ·obtain ⟨n, rfl⟩ : ∃ n', n = n' + 1 := ⟨n - 1, by omega⟩
  have hw : 1 ≤ (Utf8.decode s pos).2 := Lib.decode_width_pos s pos hlt
  have hch := chr_r s pos
  simp only [chrs] at heq
  rw [if_pos hlt] at heq
  simp only [digR] at heq
  rw [hch] at heq
  have hd := digit_ok (gl := gl) hE h146 ((Utf8.decode s pos).1 : Int)
  generalize ((Utf8.decode s pos).1 : Int) = r at hch heq hd ⊢
  generalize (Utf8.decode s pos).2 = wd at hw heq ⊢
  try dsimp only [go_sem]
  try refine z_run ?_
  try refine z_call rfl (hd.frame rfl _) (Nat.le_refl _) ?_
  try dsimp only [go_sem]
  try refine z_run ?_
  unfold digit
  by_cases h0 : script r = 0
  ·rw [if_pos h0] at heq
   rw [if_pos h0]
   try dsimp only [go_sem]
   try refine z_run ?_
   refine z_fin rfl ?_
   try dsimp only [go_sem]
   try refine z_run ?_
   rw [← heq]
   exact z_finW 0 rfl (LeL.one (.tup _ _ (.cons _ _ _ _ (.any _ rfl) (.cons _ _ _ _ (.refl _) (.cons _ _ _ _ (.any _ rfl) .nil))))) (Nat.zero_le _) rfl rfl ⟨rfl, rfl⟩
  ·rw [if_neg h0] at heq
   rw [if_neg h0]
   try dsimp only [go_sem]
   try refine z_run ?_
   have next : digR (script r) (chrs s n (pos + wd)) = digR (-1) (chrs s s.size 0) → ∀ m fl, ∃ j, j < s.size - pos ∧ ∃ pos' n' b' m' fl', j = s.size - pos' ∧ [Bo false, R32 (script r), Bo fl, I m] = [Bo false, R32 b', Bo fl', I m'] ∧
     [Ob.sit s (pos + wd)] = [Ob.sit s pos'] ∧ s.size ≤ pos' + n' ∧ digR b' (chrs s n' pos') = digR (-1) (chrs s s.size 0) := fun h m fl => ⟨_, by omega, pos + wd, n, script r, m, fl, rfl, rfl, rfl, by omega, h⟩
   refine z_br rfl (fun hb => ?_) (fun hb => ?_)
   ·have hb : b ≥ 0 := of_decide_eq_true hb
    try refine z_run ?_
    refine z_br rfl (fun hx => ?_) (fun hx => ?_)
    ·have hx : (script r != b) = true := hx
     rw [if_pos ⟨hb, by simpa using hx⟩] at heq
     try refine z_run ?_
     refine z_fin rfl ?_
     try dsimp only [go_sem]
     try refine z_run ?_
     rw [← heq]
     exact z_finW 0 rfl (LeL.one (.tup _ _ (.cons _ _ _ _ (.any _ rfl) (.cons _ _ _ _ (.refl _) (.cons _ _ _ _ (.any _ rfl) .nil))))) (Nat.zero_le _) rfl rfl ⟨rfl, rfl⟩
    have hx : (script r != b) = false := hx
    rw [if_neg (fun e => by have h := e.2; simp [bne, h] at hx)] at heq
    try refine z_run ?_
    refine z_quoW rfl (by decide) ?_
    try dsimp only [go_sem]
    try refine z_run ?_
    refine z_br rfl (fun h => ?_) (fun h => ?_)
    ·try refine z_run ?_
     refine z_fin rfl ?_
     exact next heq _ _
    ·try refine z_run ?_
     refine z_fin rfl ?_
     exact next heq _ _
   ·have hb : ¬ b ≥ 0 := of_decide_eq_false hb
    rw [if_neg (fun e => hb e.1)] at heq
    try refine z_run ?_
    refine z_quoW rfl (by decide) ?_
    try dsimp only [go_sem]
    try refine z_run ?_
    refine z_br rfl (fun h => ?_) (fun h => ?_)
    ·try refine z_run ?_
     refine z_fin rfl ?_
     exact next heq _ _
    ·try refine z_run ?_
     refine z_fin rfl ?_
     exact next heq _ _
 ·rw [chrs_end hge] at heq
  simp only [digR] at heq
  try dsimp only [go_sem]
  try refine z_run ?_
  refine z_fin rfl ?_
  try dsimp only [go_sem]
  try refine z_run ?_
  cases fl with
  | true =>
   try refine z_run ?_
   rw [← heq]
   exact z_finW 0 rfl (LeL.one (.tup _ _ (.cons _ _ _ _ (.any _ rfl) (.cons _ _ _ _ (.refl _) (.cons _ _ _ _ (.any _ rfl) .nil))))) (Nat.zero_le _) rfl rfl ⟨rfl, rfl⟩
  | false =>
   try refine z_run ?_
   rw [← heq]
   exact z_finW 0 rfl (LeL.one (.tup _ _ (.cons _ _ _ _ (.any _ rfl) (.cons _ _ _ _ (.refl _) (.cons _ _ _ _ (.any _ rfl) .nil))))) (Nat.zero_le _) rfl rfl ⟨rfl, rfl⟩
set_option maxHeartbeats 4000000 in
theorem digits_minus (hE : SxEnv E) (h124 : sxFn E cfg fuel 124 1 = some t124) (h146 : sxFn E cfg fuel 146 1 = some t146) {s : ByteArray} (hlen : s.size ≤ 1048576)
  (hp1 : PR E gl 67 [St s, St ⟨[45].toArray⟩] [] (Bo true) []) {r0 : Int} {k : Nat} (hk : k ≤ s.size) (hde : PR E gl 145 [St s] [] (.c (.tuple #[.int .i32 r0, .int .i64 (k : Int)])) []) :
  PR E gl 124 [St s] [] (.tup [.any, Bo (digR (-1) (chrs (s.extract k s.size) (s.extract k s.size).size 0)), .any]) [] := by
 refine fnZ hE (cfg := cfg) (fuel := fuel) h124 (by kernel_rfl) ?_
 unfold t124
 try refine z_call rfl hp1 (Nat.le_refl _) ?_
 try dsimp only [go_sem]
 try refine z_run ?_
 try refine z_call rfl hde (Nat.le_refl _) ?_
 try dsimp only [go_sem]
 try refine z_run ?_
 refine z_subFrom (s := s) (l := k) rfl hk ?_
 try dsimp only [go_sem]
 try refine z_run ?_
 have hul : (s.extract k s.size).size ≤ 1048576 := by rw [Lib.ext_size]; omega
 generalize s.extract k s.size = u at hul ⊢
 refine z_range rfl ?_
 try dsimp only [go_sem]
 refine z_loop (fun κ vs ν => ∃ (pos n : Nat) (b m : Int) (fl : Bool), κ = u.size - pos ∧ vs = [Bo false, R32 b, Bo fl, I m] ∧ ν = [.sit u pos] ∧ u.size ≤ pos + n ∧ digR b (chrs u n pos) = digR (-1) (chrs u u.size 0)) rfl u.size
  _ (LeL.refl _) ⟨0, u.size, -1, 0, true, by omega, rfl, rfl, by omega, rfl⟩ ?_
 rintro κ vs ν ⟨pos, n, b, m, fl, rfl, rfl, rfl, hn, heq⟩
 try dsimp only [go_sem]
 refine z_next (i := 0) (s := u) (pos := pos) rfl rfl (fun hlt => ?_) (fun hge => ?_)
 ·obtain ⟨n, rfl⟩ : ∃ n', n = n' + 1 := ⟨n - 1, by omega⟩
  have hw : 1 ≤ (Utf8.decode u pos).2 := Lib.decode_width_pos u pos hlt
  have hch := chr_r u pos
  simp only [chrs] at heq
  rw [if_pos hlt] at heq
  simp only [digR] at heq
  rw [hch] at heq
  have hd := digit_ok (gl := gl) hE h146 ((Utf8.decode u pos).1 : Int)
  generalize ((Utf8.decode u pos).1 : Int) = r at hch heq hd ⊢
  generalize (Utf8.decode u pos).2 = wd at hw heq ⊢
  try dsimp only [go_sem]
  try refine z_run ?_
  try refine z_call rfl (hd.frame rfl _) (Nat.le_refl _) ?_
  try dsimp only [go_sem]
  try refine z_run ?_
  unfold digit
  by_cases h0 : script r = 0
  ·rw [if_pos h0] at heq
   rw [if_pos h0]
   try dsimp only [go_sem]
   try refine z_run ?_
   refine z_fin rfl ?_
   try dsimp only [go_sem]
   try refine z_run ?_
   rw [← heq]
   exact z_finW 0 rfl (LeL.one (.tup _ _ (.cons _ _ _ _ (.any _ rfl) (.cons _ _ _ _ (.refl _) (.cons _ _ _ _ (.any _ rfl) .nil))))) (Nat.zero_le _) rfl rfl ⟨rfl, rfl⟩
  ·rw [if_neg h0] at heq
   rw [if_neg h0]
   try dsimp only [go_sem]
   try refine z_run ?_
   have next : digR (script r) (chrs u n (pos + wd)) = digR (-1) (chrs u u.size 0) → ∀ m fl, ∃ j, j < u.size - pos ∧ ∃ pos' n' b' m' fl', j = u.size - pos' ∧ [Bo false, R32 (script r), Bo fl, I m] = [Bo false, R32 b', Bo fl', I m'] ∧
     [Ob.sit u (pos + wd)] = [Ob.sit u pos'] ∧ u.size ≤ pos' + n' ∧ digR b' (chrs u n' pos') = digR (-1) (chrs u u.size 0) := fun h m fl => ⟨_, by omega, pos + wd, n, script r, m, fl, rfl, rfl, rfl, by omega, h⟩
   refine z_br rfl (fun hb => ?_) (fun hb => ?_)
   ·have hb : b ≥ 0 := of_decide_eq_true hb
    try refine z_run ?_
    refine z_br rfl (fun hx => ?_) (fun hx => ?_)
    ·have hx : (script r != b) = true := hx
     rw [if_pos ⟨hb, by simpa using hx⟩] at heq
     try refine z_run ?_
     refine z_fin rfl ?_
     try dsimp only [go_sem]
     try refine z_run ?_
     rw [← heq]
     exact z_finW 0 rfl (LeL.one (.tup _ _ (.cons _ _ _ _ (.any _ rfl) (.cons _ _ _ _ (.refl _) (.cons _ _ _ _ (.any _ rfl) .nil))))) (Nat.zero_le _) rfl rfl ⟨rfl, rfl⟩
    have hx : (script r != b) = false := hx
    rw [if_neg (fun e => by have h := e.2; simp [bne, h] at hx)] at heq
    try refine z_run ?_
    refine z_quoW rfl (by decide) ?_
    try dsimp only [go_sem]
    try refine z_run ?_
    refine z_br rfl (fun h => ?_) (fun h => ?_)
    ·try refine z_run ?_
     refine z_fin rfl ?_
     exact next heq _ _
    ·try refine z_run ?_
     refine z_fin rfl ?_
     exact next heq _ _
   ·have hb : ¬ b ≥ 0 := of_decide_eq_false hb
    rw [if_neg (fun e => hb e.1)] at heq
    try refine z_run ?_
    refine z_quoW rfl (by decide) ?_
    try dsimp only [go_sem]
    try refine z_run ?_
    refine z_br rfl (fun h => ?_) (fun h => ?_)
    ·try refine z_run ?_
     refine z_fin rfl ?_
     exact next heq _ _
    ·try refine z_run ?_
     refine z_fin rfl ?_
     exact next heq _ _
 ·rw [chrs_end hge] at heq
  simp only [digR] at heq
  try dsimp only [go_sem]
  try refine z_run ?_
  refine z_fin rfl ?_
  try dsimp only [go_sem]
  try refine z_run ?_
  cases fl with
  | true =>
   try refine z_run ?_
   rw [← heq]
   exact z_finW 0 rfl (LeL.one (.tup _ _ (.cons _ _ _ _ (.any _ rfl) (.cons _ _ _ _ (.refl _) (.cons _ _ _ _ (.any _ rfl) .nil))))) (Nat.zero_le _) rfl rfl ⟨rfl, rfl⟩
  | false =>
   try refine z_run ?_
   rw [← heq]
   exact z_finW 0 rfl (LeL.one (.tup _ _ (.cons _ _ _ _ (.any _ rfl) (.cons _ _ _ _ (.refl _) (.cons _ _ _ _ (.any _ rfl) .nil))))) (Nat.zero_le _) rfl rfl ⟨rfl, rfl⟩
set_option maxHeartbeats 4000000 in
theorem digits_sign (hE : SxEnv E) (h124 : sxFn E cfg fuel 124 1 = some t124) (h146 : sxFn E cfg fuel 146 1 = some t146) {s : ByteArray} (hlen : s.size ≤ 1048576)
  (hp1 : PR E gl 67 [St s, St ⟨[45].toArray⟩] [] (Bo false) []) (hp2 : PR E gl 67 [St s, St ⟨[226, 136, 146].toArray⟩] [] (Bo true) []) {r0 : Int} {k : Nat} (hk : k ≤ s.size) (hde : PR E gl 145 [St s] [] (.c (.tuple #[.int .i32 r0, .int .i64 (k : Int)])) []) :
  PR E gl 124 [St s] [] (.tup [.any, Bo (digR (-1) (chrs (s.extract k s.size) (s.extract k s.size).size 0)), .any]) [] := by
 refine fnZ hE (cfg := cfg) (fuel := fuel) h124 (by kernel_rfl) ?_
 unfold t124
 try refine z_call rfl hp1 (Nat.le_refl _) ?_
 try dsimp only [go_sem]
 try refine z_run ?_
 try refine z_call rfl hp2 (Nat.le_refl _) ?_
 try dsimp only [go_sem]
 try refine z_run ?_
 try refine z_call rfl hde (Nat.le_refl _) ?_
 try dsimp only [go_sem]
 try refine z_run ?_
 refine z_subFrom (s := s) (l := k) rfl hk ?_
 try dsimp only [go_sem]
 try refine z_run ?_
 have hul : (s.extract k s.size).size ≤ 1048576 := by rw [Lib.ext_size]; omega
 generalize s.extract k s.size = u at hul ⊢
 refine z_range rfl ?_
 try dsimp only [go_sem]
 refine z_loop (fun κ vs ν => ∃ (pos n : Nat) (b m : Int) (fl : Bool), κ = u.size - pos ∧ vs = [Bo false, R32 b, Bo fl, I m] ∧ ν = [.sit u pos] ∧ u.size ≤ pos + n ∧ digR b (chrs u n pos) = digR (-1) (chrs u u.size 0)) rfl u.size
  _ (LeL.refl _) ⟨0, u.size, -1, 0, true, by omega, rfl, rfl, by omega, rfl⟩ ?_
 rintro κ vs ν ⟨pos, n, b, m, fl, rfl, rfl, rfl, hn, heq⟩
 try dsimp only [go_sem]
 refine z_next (i := 0) (s := u) (pos := pos) rfl rfl (fun hlt => ?_) (fun hge => ?_)
 ·obtain ⟨n, rfl⟩ : ∃ n', n = n' + 1 := ⟨n - 1, by omega⟩
  have hw : 1 ≤ (Utf8.decode u pos).2 := Lib.decode_width_pos u pos hlt
  have hch := chr_r u pos
  simp only [chrs] at heq
  rw [if_pos hlt] at heq
  simp only [digR] at heq
  rw [hch] at heq
  have hd := digit_ok (gl := gl) hE h146 ((Utf8.decode u pos).1 : Int)
  generalize ((Utf8.decode u pos).1 : Int) = r at hch heq hd ⊢
  generalize (Utf8.decode u pos).2 = wd at hw heq ⊢
  try dsimp only [go_sem]
  try refine z_run ?_
  try refine z_call rfl (hd.frame rfl _) (Nat.le_refl _) ?_
  try dsimp only [go_sem]
  try refine z_run ?_
  unfold digit
  by_cases h0 : script r = 0
  ·rw [if_pos h0] at heq
   rw [if_pos h0]
   try dsimp only [go_sem]
   try refine z_run ?_
   refine z_fin rfl ?_
   try dsimp only [go_sem]
   try refine z_run ?_
   rw [← heq]
   exact z_finW 0 rfl (LeL.one (.tup _ _ (.cons _ _ _ _ (.any _ rfl) (.cons _ _ _ _ (.refl _) (.cons _ _ _ _ (.any _ rfl) .nil))))) (Nat.zero_le _) rfl rfl ⟨rfl, rfl⟩
  ·rw [if_neg h0] at heq
   rw [if_neg h0]
   try dsimp only [go_sem]
   try refine z_run ?_
   have next : digR (script r) (chrs u n (pos + wd)) = digR (-1) (chrs u u.size 0) → ∀ m fl, ∃ j, j < u.size - pos ∧ ∃ pos' n' b' m' fl', j = u.size - pos' ∧ [Bo false, R32 (script r), Bo fl, I m] = [Bo false, R32 b', Bo fl', I m'] ∧
     [Ob.sit u (pos + wd)] = [Ob.sit u pos'] ∧ u.size ≤ pos' + n' ∧ digR b' (chrs u n' pos') = digR (-1) (chrs u u.size 0) := fun h m fl => ⟨_, by omega, pos + wd, n, script r, m, fl, rfl, rfl, rfl, by omega, h⟩
   refine z_br rfl (fun hb => ?_) (fun hb => ?_)
   ·have hb : b ≥ 0 := of_decide_eq_true hb
    try refine z_run ?_
    refine z_br rfl (fun hx => ?_) (fun hx => ?_)
    ·have hx : (script r != b) = true := hx
     rw [if_pos ⟨hb, by simpa using hx⟩] at heq
     try refine z_run ?_
     refine z_fin rfl ?_
     try dsimp only [go_sem]
     try refine z_run ?_
     rw [← heq]
     exact z_finW 0 rfl (LeL.one (.tup _ _ (.cons _ _ _ _ (.any _ rfl) (.cons _ _ _ _ (.refl _) (.cons _ _ _ _ (.any _ rfl) .nil))))) (Nat.zero_le _) rfl rfl ⟨rfl, rfl⟩
    have hx : (script r != b) = false := hx
    rw [if_neg (fun e => by have h := e.2; simp [bne, h] at hx)] at heq
    try refine z_run ?_
    refine z_quoW rfl (by decide) ?_
    try dsimp only [go_sem]
    try refine z_run ?_
    refine z_br rfl (fun h => ?_) (fun h => ?_)
    ·try refine z_run ?_
     refine z_fin rfl ?_
     exact next heq _ _
    ·try refine z_run ?_
     refine z_fin rfl ?_
     exact next heq _ _
   ·have hb : ¬ b ≥ 0 := of_decide_eq_false hb
    rw [if_neg (fun e => hb e.1)] at heq
    try refine z_run ?_
    refine z_quoW rfl (by decide) ?_
    try dsimp only [go_sem]
    try refine z_run ?_
    refine z_br rfl (fun h => ?_) (fun h => ?_)
    ·try refine z_run ?_
     refine z_fin rfl ?_
     exact next heq _ _
    ·try refine z_run ?_
     refine z_fin rfl ?_
     exact next heq _ _
 ·rw [chrs_end hge] at heq
  simp only [digR] at heq
  try dsimp only [go_sem]
  try refine z_run ?_
  refine z_fin rfl ?_
  try dsimp only [go_sem]
  try refine z_run ?_
  cases fl with
  | true =>
   try refine z_run ?_
   rw [← heq]
   exact z_finW 0 rfl (LeL.one (.tup _ _ (.cons _ _ _ _ (.any _ rfl) (.cons _ _ _ _ (.refl _) (.cons _ _ _ _ (.any _ rfl) .nil))))) (Nat.zero_le _) rfl rfl ⟨rfl, rfl⟩
  | false =>
   try refine z_run ?_
   rw [← heq]
   exact z_finW 0 rfl (LeL.one (.tup _ _ (.cons _ _ _ _ (.any _ rfl) (.cons _ _ _ _ (.refl _) (.cons _ _ _ _ (.any _ rfl) .nil))))) (Nat.zero_le _) rfl rfl ⟨rfl, rfl⟩
end
end Go.AM.PV
namespace Go.AM.PV
open Go Go.AM Go.AM.SX
/-- The runes of a text. -/
def runesF : Nat → List UInt8 → List Int
 | 0, _ => []
 | n + 1, l => if l = [] then [] else ((Lib.decodeL l).1 : Int) :: runesF n (l.drop (Lib.decodeL l).2)
theorem drop_nil_iff (s : ByteArray) (pos : Nat) : s.data.toList.drop pos = [] ↔ s.size ≤ pos := by
 rw [List.drop_eq_nil_iff, ← Lib.size_eq]
theorem chrs_runes (s : ByteArray) : ∀ (n pos : Nat), (chrs s n pos).map (·.1) = runesF n (s.data.toList.drop pos)
 | 0, _ => rfl
 | n + 1, pos => by
  simp only [chrs, runesF]
  by_cases h : pos < s.size
  ·rw [if_pos h, if_neg (fun e => by have := (drop_nil_iff s pos).1 e; omega), List.map_cons, chrs_runes s n _, Lib.decodeL_drop, List.drop_drop, chr_r]
  ·rw [if_neg h, if_pos ((drop_nil_iff s pos).2 (by omega))]; rfl
theorem runesF_eq : ∀ (n m : Nat) (l : List UInt8), l.length ≤ n → l.length ≤ m → runesF n l = runesF m l
 | 0, m, l, h, _ => by
  obtain rfl := List.length_eq_zero_iff.1 (Nat.le_zero.1 h)
  cases m <;> rfl
 | n + 1, 0, l, _, h => by
  obtain rfl := List.length_eq_zero_iff.1 (Nat.le_zero.1 h)
  rfl
 | n + 1, m + 1, l, h1, h2 => by
  simp only [runesF]
  by_cases e : l = []
  ·rw [if_pos e, if_pos e]
  ·have hl : 0 < l.length := List.length_pos_iff.2 e
   have hw := Lib.decodeL_width l
   rw [if_neg e, if_neg e, runesF_eq n m _ (by rw [List.length_drop]; omega) (by rw [List.length_drop]; omega)]
def oneI : List Int → Bool
 | [] => false
 | c :: l => !(script c == 0) && (c :: l).all fun x => script x == script c
theorem oneScript_map (l : List Chr) : oneScript l = oneI (l.map (·.1)) := by
 cases l with
 | nil => rfl
 | cons c l => simp only [oneScript, oneI, List.map_cons, List.all_cons, List.all_map, Function.comp_def]
def numI : List Int → Bool
 | [] => false
 | c :: l => if c == 45 || c == 8722 then oneI l else oneI (c :: l)
theorem numR_map (l : List Chr) : numR l = numI (l.map (·.1)) := by
 cases l with
 | nil => rfl
 | cons c l => simp only [numR, numI, List.map_cons, oneScript_map]
theorem chrs_all (s : ByteArray) : (chrs s s.size 0).map (·.1) = runesF s.data.toList.length s.data.toList := by
 rw [chrs_runes, List.drop_zero, Lib.size_eq]
theorem extract_tail (s : ByteArray) (k : Nat) : (s.extract k s.size).data.toList = s.data.toList.drop k := by
 rw [Lib.extract_data, List.take_of_length_le (by rw [List.length_drop, ← Lib.size_eq]; omega)]
theorem pref_iff (s p : ByteArray) : pref s p = true ↔ s.data.toList.take p.data.toList.length = p.data.toList := by
 unfold pref
 rw [Bool.and_eq_true, decide_eq_true_iff, Lib.extract_data, List.drop_zero, Nat.sub_zero, beq_iff_eq, Lib.size_eq, Lib.size_eq]
 constructor
 ·exact fun h => h.2
 ·intro h
  refine ⟨?_, h⟩
  have := congrArg List.length h
  rw [List.length_take] at this
  omega
theorem digR_runes (s : ByteArray) (k : Nat) : digR (-1) (chrs (s.extract k s.size) (s.extract k s.size).size 0) = oneI (runesF (s.data.toList.drop k).length (s.data.toList.drop k)) := by
 rw [digR_eq, oneScript_map, chrs_all, extract_tail]
theorem first_rune {l : List UInt8} (h : l ≠ []) {r w : Nat} (hd : Lib.decodeL l = (r, w)) (hw : 1 ≤ w) : runesF l.length l = (r : Int) :: runesF (l.drop w).length (l.drop w) := by
 obtain ⟨n, hn⟩ : ∃ n, l.length = n + 1 := ⟨l.length - 1, by have := List.length_pos_iff.2 h; omega⟩
 rw [hn]
 simp only [runesF]
 rw [if_neg h, hd]
 dsimp only
 rw [runesF_eq n (l.drop w).length _ (by rw [List.length_drop]; omega) (Nat.le_refl _)]
theorem dec_sign (l : List UInt8) : Lib.decodeL (226 :: 136 :: 146 :: l) = (8722, 3) := by
 rw [Lib.decodeL_N]
 have h : (226 :: 136 :: 146 :: l).length = l.length + 3 := rfl
 rw [h]
 simp [Lib.decodeN]
theorem pref_minus {s : ByteArray} (h : pref s ⟨[45].toArray⟩ = true) : Lib.decodeL s.data.toList = (45, 1) ∧ s.data.toList ≠ [] := by
 have h1 := (pref_iff s _).1 h
 have h1 : s.data.toList.take 1 = [45] := h1
 generalize s.data.toList = l at h1
 cases l with
 | nil => cases h1
 | cons b t =>
  have hb : b = 45 := by simpa using h1
  subst hb
  exact ⟨Lib.decodeL_ascii 45 t (by decide), List.cons_ne_nil _ _⟩
theorem pref_sign {s : ByteArray} (h : pref s ⟨[226, 136, 146].toArray⟩ = true) : Lib.decodeL s.data.toList = (8722, 3) ∧ s.data.toList ≠ [] := by
 have h1 := (pref_iff s _).1 h
 have h1 : s.data.toList.take 3 = [226, 136, 146] := h1
 have h2 := List.take_append_drop 3 s.data.toList
 rw [h1] at h2
 rw [← h2]
 exact ⟨dec_sign _, List.cons_ne_nil _ _⟩
theorem dec_go {s : ByteArray} (h : s.data.toList ≠ []) : Lib.decodeGo s = Lib.decodeL s.data.toList := by
 have h0 : s.size ≠ 0 := by
  rw [Lib.size_eq]
  exact fun e => h (List.length_eq_zero_iff.1 e)
 unfold Lib.decodeGo
 rw [if_neg h0, ← Lib.decodeL_drop, List.drop_zero]
theorem num_minus {s : ByteArray} (h : pref s ⟨[45].toArray⟩ = true) : Lib.decodeGo s = (45, 1) ∧ 1 ≤ s.size ∧ digR (-1) (chrs (s.extract 1 s.size) (s.extract 1 s.size).size 0) = numR (chrs s s.size 0) := by
 obtain ⟨hd, hne⟩ := pref_minus h
 refine ⟨(dec_go hne).trans hd, ?_, ?_⟩
 ·rw [Lib.size_eq]; exact List.length_pos_iff.2 hne
 ·rw [digR_runes, numR_map, chrs_all, first_rune hne hd (by omega)]
  rfl
theorem num_sign {s : ByteArray} (h : pref s ⟨[226, 136, 146].toArray⟩ = true) : Lib.decodeGo s = (8722, 3) ∧ 3 ≤ s.size ∧ digR (-1) (chrs (s.extract 3 s.size) (s.extract 3 s.size).size 0) = numR (chrs s s.size 0) := by
 obtain ⟨hd, hne⟩ := pref_sign h
 refine ⟨(dec_go hne).trans hd, ?_, ?_⟩
 ·have := Lib.decodeL_le _ hne
  rw [hd] at this
  rw [Lib.size_eq]; exact this
 ·rw [digR_runes, numR_map, chrs_all, first_rune hne hd (by omega)]
  rfl
theorem enc_minus : Lib.encodeRune 45 = [45] := by decide
theorem enc_sign : Lib.encodeRune 8722 = [226, 136, 146] := by decide
theorem num_plain {s : ByteArray} (h1 : pref s ⟨[45].toArray⟩ = false) (h2 : pref s ⟨[226, 136, 146].toArray⟩ = false) : digR (-1) (chrs s s.size 0) = numR (chrs s s.size 0) := by
 rw [digR_eq, numR_map, oneScript_map, chrs_all]
 have n1 : ¬ (s.data.toList.take 1 = [45]) := fun e => by rw [(pref_iff s ⟨[45].toArray⟩).2 e] at h1; cases h1
 have n2 : ¬ (s.data.toList.take 3 = [226, 136, 146]) := fun e => by rw [(pref_iff s ⟨[226, 136, 146].toArray⟩).2 e] at h2; cases h2
 generalize s.data.toList = l at n1 n2
 by_cases hne : l = []
 ·subst hne; rfl
 rw [first_rune hne (r := (Lib.decodeL l).1) (w := (Lib.decodeL l).2) rfl (Lib.decodeL_width l)]
 generalize runesF (l.drop (Lib.decodeL l).2).length (l.drop (Lib.decodeL l).2) = t
 simp only [numI]
 have he := Lib.encode_decode l hne
 have g1 : (Lib.decodeL l).1 ≠ 45 := by
  intro e
  rw [e] at he
  have he := he (by omega)
  rw [show ((45 : Nat) : Int) = 45 from rfl, enc_minus] at he
  apply n1
  have := congrArg (List.take 1) he
  rw [List.take_take, Nat.min_eq_left (Lib.decodeL_width l)] at this
  exact this.symm
 have g2 : (Lib.decodeL l).1 ≠ 8722 := by
  intro e
  rw [e] at he
  have he := he (by omega)
  rw [show ((8722 : Nat) : Int) = 8722 from rfl, enc_sign] at he
  have hl := congrArg List.length he
  rw [List.length_take] at hl
  have hl : 3 = min (Lib.decodeL l).2 l.length := hl
  apply n2
  have := congrArg (List.take 3) he
  rw [List.take_take, Nat.min_eq_left (by omega)] at this
  exact this.symm
 generalize (Lib.decodeL l).1 = r at g1 g2
 have f1 : ((r : Int) == 45) = false := beq_eq_false_iff_ne.2 (by omega)
 have f2 : ((r : Int) == 8722) = false := beq_eq_false_iff_ne.2 (by omega)
 rw [f1, f2]
 rfl
end Go.AM.PV
namespace Go.AM.PV
open Go Go.AM Go.AM.SX
def t157_3 : N := .op (.conv .u8) [vn 0] (.call 153 [vv (bs [9, 10, 13, 32, 194, 160, 227, 128, 128]), vn 3] (.op (.bin .geq) [vn 4, vv (.int .i64 0)] (.fin 1 [vn 5])))
def t157_9 : N := .op (.ext 1) [vn 6] (.op (.ext 2) [vn 6] (.op (.bin .eql) [vn 9, vv (.int .i32 65533)] (.br (vn 10) (.fin 1 [vn 8]) (.fin 0 [vn 5]))))
def t157_13 : N := .op (.next true) [vn 4] (.op (.ext 0) [vn 6] (.br (vn 7) t157_9 (.fin 11 [vn 5])))
def t157_15 : N := .op (.bin .geq) [vn 6, vv (.int .i64 0)] (.fin 1 [vn 7])
def t157_18 : N := .sw 5 11 (.fin 1 [vv (.bool false)]) .bad
def t157_19 : N := .sw 5 1 t157_15 t157_18
def t157_21 : N := .op (.range true) [vv (bs [9, 10, 13, 32, 194, 160, 227, 128, 128])] (.loop [vv (.int .i64 0)] t157_13 t157_19)
def t157_26 : N := .op (.bin .add) [vn 25, vv (.int .i64 1)] (.fin 0 [vn 34])
def t157_45 : N := .bump 11 (.save (.op (.bin .sub) [vn 24, vn 25] (.op .idxS [vv (bs [9, 10, 13, 32, 194, 160, 227, 128, 128]), vn 29] (.op (.bin .sub) [vn 8, vn 25] (.op .idxS [vn 6, vn 31] (.op (.bin .neq) [vn 30, vn 32] (.self (vv (bs [9, 10, 13, 32, 194, 160, 227, 128, 128])) (.self (vn 24) (.self (vn 25) (.self (vn 29) (.self (vn 30) (.self (vn 6) (.self (vn 8) (.self (vn 25) (.self (vn 31) (.self (vn 32) (.self (vn 33) (.br (vn 33) (.fin 1000000002 [vn 25]) t157_26))))))))))))))))))
def t157_49 : N := .op .lenS [vn 6] (.op (.bin .lss) [vn 25, vn 26] (.br (vn 27) t157_45 (.fin 5 [vn 25])))
def t157_53 : N := .op (.bin .lss) [vn 28, vv (.int .i64 9)] (.br (vn 32) (.fin 1000000003 [vn 9, vn 27, vn 28]) (.fin 0 [vn 9, vn 27, vn 28]))
def t157_60 : N := .op (.bin .add) [vn 10, vv (.int .i64 1)] (.op (.bin .add) [vn 24, vv (.int .i64 1)] (.op (.bin .add) [vn 28, vv (.int .i64 16)] (.op (.bin .quo) [vn 29, vv (.int .i64 8)] (.op (.bin .gtr) [vn 27, vn 30] (.br (vn 31) t157_53 (.fin 0 [vn 9, vn 27, vn 28]))))))
def t157_62 : N := .op (.bin .sub) [vn 24, vn 8] (.fin 1 [vn 27, vn 10, vn 24])
def t157_64 : N := .sw 25 5 t157_62 .bad
def t157_65 : N := .sw 25 1000000002 t157_60 t157_64
def t157_68 : N := .op (.bin .add) [vn 21, vv (.int .i64 1)] (.op (.bin .add) [vn 11, vn 23] (.loop [vv (.int .i64 1)] t157_49 t157_65))
def t157_85 : N := .bump 9 (.save (.op (.bin .add) [vn 11, vv (.int .i64 1)] (.op (.subS true false) [vv (bs [9, 10, 13, 32, 194, 160, 227, 128, 128]), vn 18] (.op .idxS [vn 6, vn 8] (.call 153 [vn 19, vn 20] (.save (.self (vv (bs [9, 10, 13, 32, 194, 160, 227, 128, 128])) (.self (vn 11) (.chk 1 (.bin .add) [vn 11, vv (.int .i64 1)] (vn 18) (.chk 1 (.subS true false) [vv (bs [9, 10, 13, 32, 194, 160, 227, 128, 128]), vn 18] (vn 19) (.self (vn 6) (.self (vn 8) (.chk 1 .idxS [vn 6, vn 8] (vn 20) (.self (vn 21) (.op (.bin .lss) [vn 21, vv (.int .i64 0)] (.br (vn 22) (.fin 1 [vv (.int .i64 (-1)), vn 10, vn 11]) t157_68))))))))))))))))
def t157_88 : N := .op (.bin .add) [vn 17, vv (.int .i64 1)] (.fin 0 [vn 26])
def t157_107 : N := .bump 11 (.save (.op (.bin .sub) [vn 11, vn 17] (.op .idxS [vv (bs [9, 10, 13, 32, 194, 160, 227, 128, 128]), vn 21] (.op (.bin .sub) [vn 8, vn 17] (.op .idxS [vn 6, vn 23] (.op (.bin .neq) [vn 22, vn 24] (.self (vv (bs [9, 10, 13, 32, 194, 160, 227, 128, 128])) (.self (vn 11) (.self (vn 17) (.self (vn 21) (.self (vn 22) (.self (vn 6) (.self (vn 8) (.self (vn 17) (.self (vn 23) (.self (vn 24) (.self (vn 25) (.br (vn 25) (.fin 1000000002 [vn 17]) t157_88))))))))))))))))))
def t157_111 : N := .op .lenS [vn 6] (.op (.bin .lss) [vn 17, vn 18] (.br (vn 19) t157_107 (.fin 5 [vn 17])))
def t157_115 : N := .op (.bin .lss) [vn 20, vv (.int .i64 9)] (.br (vn 24) (.fin 1000000003 [vn 9, vn 19, vn 20]) (.fin 0 [vn 9, vn 19, vn 20]))
def t157_122 : N := .op (.bin .add) [vn 10, vv (.int .i64 1)] (.op (.bin .add) [vn 11, vv (.int .i64 1)] (.op (.bin .add) [vn 20, vv (.int .i64 16)] (.op (.bin .quo) [vn 21, vv (.int .i64 8)] (.op (.bin .gtr) [vn 19, vn 22] (.br (vn 23) t157_115 (.fin 0 [vn 9, vn 19, vn 20]))))))
def t157_124 : N := .op (.bin .sub) [vn 11, vn 8] (.fin 1 [vn 19, vn 10, vn 11])
def t157_126 : N := .sw 17 5 t157_124 .bad
def t157_127 : N := .sw 17 1000000002 t157_122 t157_126
def t157_128 : N := .loop [vv (.int .i64 1)] t157_111 t157_127
def t157_141 : N := .bump 7 (.save (.op .idxS [vv (bs [9, 10, 13, 32, 194, 160, 227, 128, 128]), vn 11] (.op .idxS [vn 6, vn 8] (.op (.bin .neq) [vn 14, vn 15] (.self (vv (bs [9, 10, 13, 32, 194, 160, 227, 128, 128])) (.self (vn 11) (.self (vn 14) (.self (vn 6) (.self (vn 8) (.self (vn 15) (.self (vn 16) (.br (vn 16) t157_85 t157_128))))))))))))
def t157_144 : N := .op (.bin .lss) [vn 11, vv (.int .i64 9)] (.br (vn 12) t157_141 (.fin 3 [vn 9, vn 10, vn 11]))
def t157_148 : N := .op (.bin .add) [vn 12, vn 16] (.op (.bin .sub) [vn 18, vn 8] (.op (.bin .geq) [vn 19, vv (.int .i64 0)] (.fin 1 [vn 20])))
def t157_155 : N := .op (.bin .sub) [vn 12, vn 8] (.op (.subS true false) [vv (bs [9, 10, 13, 32, 194, 160, 227, 128, 128]), vn 13] (.op .runeStr [vn 0] (.op (.extern "internal/bytealg.IndexString") [vn 14, vn 15] (.op (.bin .geq) [vn 16, vv (.int .i64 0)] (.br (vn 17) t157_148 (.fin 1 [vv (.bool false)]))))))
def t157_157 : N := .op (.bin .geq) [vn 10, vv (.int .i64 0)] (.fin 1 [vn 13])
def t157_160 : N := .sw 9 3 (.fin 1 [vv (.bool false)]) .bad
def t157_161 : N := .sw 9 1 t157_157 t157_160
def t157_162 : N := .sw 9 1000000003 t157_155 t157_161
def t157_166 : N := .op .runeStr [vn 0] (.op .lenS [vn 6] (.op (.bin .sub) [vn 7, vv (.int .i64 1)] (.loop [vv (.int .i64 0), vv (.int .i64 0), vn 8] t157_144 t157_162)))
def t157_169 : N := .call 191 [vn 0] (.op .not [vn 4] (.br (vn 5) (.fin 1 [vv (.bool false)]) t157_166))
def t157_171 : N := .op (.bin .eql) [vn 0, vv (.int .i32 65533)] (.br (vn 3) t157_21 t157_169)
def t157_173 : N := .op (.bin .lss) [vn 0, vv (.int .i32 128)] (.br (vn 2) t157_3 t157_171)
def t157_179 : N := .op (.ext 1) [vn 5] (.op (.ext 2) [vn 5] (.op (.bin .eql) [vn 8, vv (.int .i32 65533)] (.br (vn 9) (.fin 1 [vn 7]) (.fin 0 [vn 4]))))
def t157_183 : N := .op (.next true) [vn 3] (.op (.ext 0) [vn 5] (.br (vn 6) t157_179 (.fin 11 [vn 4])))
def t157_185 : N := .op (.bin .geq) [vn 5, vv (.int .i64 0)] (.fin 1 [vn 6])
def t157_188 : N := .sw 4 11 (.fin 1 [vv (.bool false)]) .bad
def t157_189 : N := .sw 4 1 t157_185 t157_188
def t157_191 : N := .op (.range true) [vv (bs [9, 10, 13, 32, 194, 160, 227, 128, 128])] (.loop [vv (.int .i64 0)] t157_183 t157_189)
def t157_196 : N := .op (.bin .add) [vn 24, vv (.int .i64 1)] (.fin 0 [vn 33])
def t157_215 : N := .bump 11 (.save (.op (.bin .sub) [vn 23, vn 24] (.op .idxS [vv (bs [9, 10, 13, 32, 194, 160, 227, 128, 128]), vn 28] (.op (.bin .sub) [vn 7, vn 24] (.op .idxS [vn 5, vn 30] (.op (.bin .neq) [vn 29, vn 31] (.self (vv (bs [9, 10, 13, 32, 194, 160, 227, 128, 128])) (.self (vn 23) (.self (vn 24) (.self (vn 28) (.self (vn 29) (.self (vn 5) (.self (vn 7) (.self (vn 24) (.self (vn 30) (.self (vn 31) (.self (vn 32) (.br (vn 32) (.fin 1000000002 [vn 24]) t157_196))))))))))))))))))
def t157_219 : N := .op .lenS [vn 5] (.op (.bin .lss) [vn 24, vn 25] (.br (vn 26) t157_215 (.fin 5 [vn 24])))
def t157_223 : N := .op (.bin .lss) [vn 27, vv (.int .i64 9)] (.br (vn 31) (.fin 1000000003 [vn 8, vn 26, vn 27]) (.fin 0 [vn 8, vn 26, vn 27]))
def t157_230 : N := .op (.bin .add) [vn 9, vv (.int .i64 1)] (.op (.bin .add) [vn 23, vv (.int .i64 1)] (.op (.bin .add) [vn 27, vv (.int .i64 16)] (.op (.bin .quo) [vn 28, vv (.int .i64 8)] (.op (.bin .gtr) [vn 26, vn 29] (.br (vn 30) t157_223 (.fin 0 [vn 8, vn 26, vn 27]))))))
def t157_232 : N := .op (.bin .sub) [vn 23, vn 7] (.fin 1 [vn 26, vn 9, vn 23])
def t157_234 : N := .sw 24 5 t157_232 .bad
def t157_235 : N := .sw 24 1000000002 t157_230 t157_234
def t157_238 : N := .op (.bin .add) [vn 20, vv (.int .i64 1)] (.op (.bin .add) [vn 10, vn 22] (.loop [vv (.int .i64 1)] t157_219 t157_235))
def t157_255 : N := .bump 9 (.save (.op (.bin .add) [vn 10, vv (.int .i64 1)] (.op (.subS true false) [vv (bs [9, 10, 13, 32, 194, 160, 227, 128, 128]), vn 17] (.op .idxS [vn 5, vn 7] (.call 153 [vn 18, vn 19] (.save (.self (vv (bs [9, 10, 13, 32, 194, 160, 227, 128, 128])) (.self (vn 10) (.chk 1 (.bin .add) [vn 10, vv (.int .i64 1)] (vn 17) (.chk 1 (.subS true false) [vv (bs [9, 10, 13, 32, 194, 160, 227, 128, 128]), vn 17] (vn 18) (.self (vn 5) (.self (vn 7) (.chk 1 .idxS [vn 5, vn 7] (vn 19) (.self (vn 20) (.op (.bin .lss) [vn 20, vv (.int .i64 0)] (.br (vn 21) (.fin 1 [vv (.int .i64 (-1)), vn 9, vn 10]) t157_238))))))))))))))))
def t157_258 : N := .op (.bin .add) [vn 16, vv (.int .i64 1)] (.fin 0 [vn 25])
def t157_277 : N := .bump 11 (.save (.op (.bin .sub) [vn 10, vn 16] (.op .idxS [vv (bs [9, 10, 13, 32, 194, 160, 227, 128, 128]), vn 20] (.op (.bin .sub) [vn 7, vn 16] (.op .idxS [vn 5, vn 22] (.op (.bin .neq) [vn 21, vn 23] (.self (vv (bs [9, 10, 13, 32, 194, 160, 227, 128, 128])) (.self (vn 10) (.self (vn 16) (.self (vn 20) (.self (vn 21) (.self (vn 5) (.self (vn 7) (.self (vn 16) (.self (vn 22) (.self (vn 23) (.self (vn 24) (.br (vn 24) (.fin 1000000002 [vn 16]) t157_258))))))))))))))))))
def t157_281 : N := .op .lenS [vn 5] (.op (.bin .lss) [vn 16, vn 17] (.br (vn 18) t157_277 (.fin 5 [vn 16])))
def t157_285 : N := .op (.bin .lss) [vn 19, vv (.int .i64 9)] (.br (vn 23) (.fin 1000000003 [vn 8, vn 18, vn 19]) (.fin 0 [vn 8, vn 18, vn 19]))
def t157_292 : N := .op (.bin .add) [vn 9, vv (.int .i64 1)] (.op (.bin .add) [vn 10, vv (.int .i64 1)] (.op (.bin .add) [vn 19, vv (.int .i64 16)] (.op (.bin .quo) [vn 20, vv (.int .i64 8)] (.op (.bin .gtr) [vn 18, vn 21] (.br (vn 22) t157_285 (.fin 0 [vn 8, vn 18, vn 19]))))))
def t157_294 : N := .op (.bin .sub) [vn 10, vn 7] (.fin 1 [vn 18, vn 9, vn 10])
def t157_296 : N := .sw 16 5 t157_294 .bad
def t157_297 : N := .sw 16 1000000002 t157_292 t157_296
def t157_298 : N := .loop [vv (.int .i64 1)] t157_281 t157_297
def t157_311 : N := .bump 7 (.save (.op .idxS [vv (bs [9, 10, 13, 32, 194, 160, 227, 128, 128]), vn 10] (.op .idxS [vn 5, vn 7] (.op (.bin .neq) [vn 13, vn 14] (.self (vv (bs [9, 10, 13, 32, 194, 160, 227, 128, 128])) (.self (vn 10) (.self (vn 13) (.self (vn 5) (.self (vn 7) (.self (vn 14) (.self (vn 15) (.br (vn 15) t157_255 t157_298))))))))))))
def t157_314 : N := .op (.bin .lss) [vn 10, vv (.int .i64 9)] (.br (vn 11) t157_311 (.fin 3 [vn 8, vn 9, vn 10]))
def t157_318 : N := .op (.bin .add) [vn 11, vn 15] (.op (.bin .sub) [vn 17, vn 7] (.op (.bin .geq) [vn 18, vv (.int .i64 0)] (.fin 1 [vn 19])))
def t157_325 : N := .op (.bin .sub) [vn 11, vn 7] (.op (.subS true false) [vv (bs [9, 10, 13, 32, 194, 160, 227, 128, 128]), vn 12] (.op .runeStr [vn 0] (.op (.extern "internal/bytealg.IndexString") [vn 13, vn 14] (.op (.bin .geq) [vn 15, vv (.int .i64 0)] (.br (vn 16) t157_318 (.fin 1 [vv (.bool false)]))))))
def t157_327 : N := .op (.bin .geq) [vn 9, vv (.int .i64 0)] (.fin 1 [vn 12])
def t157_330 : N := .sw 8 3 (.fin 1 [vv (.bool false)]) .bad
def t157_331 : N := .sw 8 1 t157_327 t157_330
def t157_332 : N := .sw 8 1000000003 t157_325 t157_331
def t157_336 : N := .op .runeStr [vn 0] (.op .lenS [vn 5] (.op (.bin .sub) [vn 6, vv (.int .i64 1)] (.loop [vv (.int .i64 0), vv (.int .i64 0), vn 7] t157_314 t157_332)))
def t157_339 : N := .call 191 [vn 0] (.op .not [vn 3] (.br (vn 4) (.fin 1 [vv (.bool false)]) t157_336))
def t157_341 : N := .op (.bin .eql) [vn 0, vv (.int .i32 65533)] (.br (vn 2) t157_191 t157_339)
def t157 : N := .op (.bin .leq) [vv (.int .i32 0), vn 0] (.br (vn 1) t157_173 t157_341)
def t191_4 : N := .op (.bin .leq) [vn 0, vv (.int .i32 1114111)] (.br (vn 4) (.fin 1 [vv (.bool true)]) (.fin 1 [vv (.bool false)]))
def t191_7 : N := .op (.bin .lss) [vv (.int .i32 57343), vn 0] (.br (vn 3) t191_4 (.fin 1 [vv (.bool false)]))
def t191_9 : N := .op (.bin .lss) [vn 0, vv (.int .i32 55296)] (.br (vn 2) (.fin 1 [vv (.bool true)]) t191_7)
def t191_13 : N := .op (.bin .leq) [vn 0, vv (.int .i32 1114111)] (.br (vn 3) (.fin 1 [vv (.bool true)]) (.fin 1 [vv (.bool false)]))
def t191_16 : N := .op (.bin .lss) [vv (.int .i32 57343), vn 0] (.br (vn 2) t191_13 (.fin 1 [vv (.bool false)]))
def t191 : N := .op (.bin .leq) [vv (.int .i32 0), vn 0] (.br (vn 1) t191_9 t191_16)
def t153 : N := .op (.extern "internal/bytealg.IndexByteString") [vn 0, vn 1] (.fin 1 [vn 2])
end Go.AM.PV
namespace Go.AM.PV
open Go Go.AM Go.AM.SX
section
variable (vs nm : ByteArray → Bool)
/-- What is said when all goes well and the depth is within bounds: the nodes and the depth. -/
def okR (nest : Int) (x : R3) : Option (Int × Int) := if x.2.2 = true ∧ x.2.1 + nest ≤ 32 then some (x.1, x.2.1) else none
def okP (left nest : Int) (x : Int × Bool × Int) : Option (Int × Int) := if x.2.1 = true ∧ x.1 + nest ≤ 32 then some (left - x.2.2, x.1) else none
theorem okR_f {nest : Int} {a b : Int} : okR nest (a, b, false) = none := if_neg fun h => by cases h.1
theorem okP_f {left nest : Int} {a b : Int} : okP left nest (a, false, b) = none := if_neg fun h => by cases h.1
theorem rel_gate {left nest : Int} {r : R3} {p : Int → Int × Bool × Int} (h : okR nest r = okP left nest (p (left - 1))) : okR nest (gateR left nest r) = okP left nest (gate left nest p) := by
 unfold gateR gate
 by_cases h1 : left < 1
 ·rw [if_pos h1, if_pos (by omega), okR_f, okP_f]
 have h3 : ¬ left - 1 < 0 := by omega
 rw [if_neg h1, if_neg h3]
 by_cases h2 : nest > 32
 ·rw [if_pos h2, if_pos h2, okR_f, okP_f]
 rw [if_neg h2, if_neg h2]
 exact h
theorem rel_leaf {left nest : Int} {b : Bool} : okR nest (1, 0, b) = okP left nest (0, b, left - 1) := by
 unfold okR okP
 cases b with
 | false => rw [if_neg (fun h => by cases h.1), if_neg (fun h => by cases h.1)]
 | true =>
  dsimp only
  by_cases h : 0 + nest ≤ 32
  ·rw [if_pos ⟨rfl, h⟩, if_pos ⟨rfl, h⟩, show left - (left - 1) = 1 by omega]
  ·rw [if_neg (fun e => h e.2), if_neg (fun e => h e.2)]
theorem rel_fin {left nest : Int} {x : R3} {y : Int × Bool × Int} (hn : 0 ≤ nest) (h : okR (nest + 1) x = okP left (nest + 1) y) : okR nest (finR x) = okP left nest (finM y) := by
 obtain ⟨x1, x2, xo⟩ := x
 obtain ⟨y1, yo, y2⟩ := y
 have e1 : okR nest (finR (x1, x2, xo)) = (okR (nest + 1) (x1, x2, xo)).map fun z => (z.1, z.2 + 1) := by
  cases xo with
  | false => rw [okR_f]; exact okR_f
  | true =>
   unfold finR okR
   dsimp only
   rw [if_pos rfl]
   by_cases h : x2 + (nest + 1) ≤ 32
   ·rw [if_pos ⟨decide_eq_true (by omega), by show x2 + 1 + nest ≤ 32; omega⟩, if_pos ⟨rfl, h⟩]
    rfl
   ·rw [if_neg (fun e => h (by have : x2 + 1 + nest ≤ 32 := e.2; omega)), if_neg (fun e => h e.2)]
    rfl
 have e2 : okP left nest (finM (y1, yo, y2)) = (okP left (nest + 1) (y1, yo, y2)).map fun z => (z.1, z.2 + 1) := by
  cases yo with
  | false => rw [okP_f]; exact okP_f
  | true =>
   unfold finM okP
   dsimp only
   rw [if_pos rfl]
   by_cases h : y1 + (nest + 1) ≤ 32
   ·rw [if_pos ⟨decide_eq_true (by omega), by show y1 + 1 + nest ≤ 32; omega⟩, if_pos ⟨rfl, h⟩]
    rfl
   ·rw [if_neg (fun e => h (by have : y1 + 1 + nest ≤ 32 := e.2; omega)), if_neg (fun e => h e.2)]
    rfl
 rw [e1, e2, h]
theorem rmL_mono (b : Bool) : ∀ (l : List V) {left nest n d : Int}, (V.rmL vs nm b l left nest n d).2.2 = true → d ≤ (V.rmL vs nm b l left nest n d).2.1
 | [], _, _, _, _, _ => Int.le_refl _
 | v :: l, left, nest, n, d, h => by
  simp only [V.rmL] at h ⊢
  split at h
  ·cases h
  ·rename_i h1
   rw [if_neg h1]
   split at h
   ·rename_i h2
    rw [if_pos h2]
    have := rmL_mono b l h
    omega
   ·cases h
theorem measL_mono : ∀ (l : List Val) {lf nest d : Int}, (Val.measL vs nm l lf nest d).2.1 = true → d ≤ (Val.measL vs nm l lf nest d).1
 | [], _, _, _, _ => Int.le_refl _
 | v :: l, lf, nest, d, h => by
  simp only [Val.measL] at h ⊢
  split at h
  ·rename_i h2
   rw [if_pos h2]
   have := measL_mono l h
   omega
  ·cases h
theorem imeasL_mono : ∀ (l : List Itm) {lf nest d : Int}, (Itm.measL vs nm l lf nest d).2.1 = true → d ≤ (Itm.measL vs nm l lf nest d).1
 | [], _, _, _, _ => Int.le_refl _
 | v :: l, lf, nest, d, h => by
  simp only [Itm.measL] at h ⊢
  split at h
  ·rename_i h2
   rw [if_pos h2]
   have := imeasL_mono l h
   omega
  ·cases h
/-- One element more. -/
theorem rel_step {left nest n d : Int} {x : R3} {y : Int × Bool × Int} {fr : Int → Int → R3} {fm : Int → Int → Int × Bool × Int} (h : okR nest x = okP (left - n) nest y)
  (hr : ∀ a b, (fr a b).2.2 = true → b ≤ (fr a b).2.1) (hm : ∀ a b, (fm a b).2.1 = true → b ≤ (fm a b).1)
  (ih : ∀ a b, a = n + x.1 → b = max d x.2.1 → okR nest (fr a b) = okP left nest (fm (left - a) b)) :
  okR nest (if x.2.2 = true then fr (n + x.1) (max d x.2.1) else (0, 0, false)) = okP left nest (if y.2.1 = true then fm y.2.2 (max d y.1) else (0, false, y.2.2)) := by
 obtain ⟨x1, x2, xo⟩ := x
 obtain ⟨y1, yo, y2⟩ := y
 dsimp only at ih ⊢
 by_cases hx : xo = true ∧ x2 + nest ≤ 32
 ·by_cases hy : yo = true ∧ y1 + nest ≤ 32
  ·obtain ⟨rfl, hx⟩ := hx
   obtain ⟨rfl, hy⟩ := hy
   unfold okR okP at h
   rw [if_pos ⟨rfl, hx⟩, if_pos ⟨rfl, hy⟩] at h
   have h1 : x1 = left - n - y2 := congrArg (fun z : Option (Int × Int) => match z with | some z => z.1 | none => 0) h
   have h2 : x2 = y1 := congrArg (fun z : Option (Int × Int) => match z with | some z => z.2 | none => 0) h
   subst h2
   rw [if_pos rfl, if_pos rfl, ih _ _ rfl rfl, show left - (n + x1) = y2 by omega]
  ·unfold okR okP at h
   rw [if_pos hx, if_neg hy] at h
   cases h
 ·by_cases hy : yo = true ∧ y1 + nest ≤ 32
  ·unfold okR okP at h
   rw [if_neg hx, if_pos hy] at h
   cases h
  ·have e1 : okR nest (if xo = true then fr (n + x1) (max d x2) else (0, 0, false)) = none := by
    split
    ·rename_i ho
     refine if_neg fun e => hx ⟨ho, ?_⟩
     have h1 := hr _ _ e.1
     have h2 := e.2
     omega
    ·exact okR_f
   have e2 : okP left nest (if yo = true then fm y2 (max d y1) else (0, false, y2)) = none := by
    split
    ·rename_i ho
     refine if_neg fun e => hy ⟨ho, ?_⟩
     have h1 := hm _ _ e.1
     have h2 := e.2
     omega
    ·exact okP_f
   rw [e1, e2]
theorem Val.tree_k (v : Val) : ¬ v.tree.k = 7 := by cases v <;> simp [Val.tree, V.k]
theorem rel_nil {left nest n d : Int} {x : Int × Bool × Int} (hx : x = (d, true, left - n)) : okR nest (n, d, true) = okP left nest x := by
 subst hx
 unfold okR okP
 dsimp only
 by_cases h : d + nest ≤ 32
 ·rw [if_pos ⟨rfl, h⟩, if_pos ⟨rfl, h⟩, show left - (left - n) = n by omega]
 ·rw [if_neg (fun e => h e.2), if_neg (fun e => h e.2)]
mutual
theorem Val.rel : ∀ (v : Val) (left nest : Int), 0 ≤ nest → okR nest (v.tree.rm vs nm left nest) = okP left nest (v.meas vs nm left nest)
 | .nil, left, nest, h => by
  simp only [Val.tree, V.rm, Val.meas]
  refine rel_gate ?_
  simp only [okR_f, okP_f, show ¬ (8 : Int) = 1 by omega, show ¬ (8 : Int) = 2 by omega, show ¬ (8 : Int) = 3 by omega, show ¬ (8 : Int) = 4 by omega, show ¬ (8 : Int) = 5 by omega, show ¬ (8 : Int) = 6 by omega, show ¬ (8 : Int) = 7 by omega, if_false]
 | .int _, left, nest, h => by
  simp only [Val.tree, V.rm, Val.meas]
  refine rel_gate ?_
  rw [if_pos trivial]
  exact rel_leaf
 | .str _, left, nest, h => by
  simp only [Val.tree, V.rm, Val.meas]
  refine rel_gate ?_
  rw [if_neg (by omega), if_pos trivial]
  exact rel_leaf
 | .bool _, left, nest, h => by
  simp only [Val.tree, V.rm, Val.meas]
  refine rel_gate ?_
  rw [if_neg (by omega), if_neg (by omega), if_pos trivial]
  exact rel_leaf
 | .box _, left, nest, h => by
  simp only [Val.tree, V.rm, Val.meas]
  refine rel_gate ?_
  rw [if_neg (by omega), if_neg (by omega), if_neg (by omega), if_pos trivial]
  exact rel_leaf
 | .list l, left, nest, h => by
  have a := Val.relL l left (nest + 1) 1 0 (by omega)
  simp only [Val.tree, V.rm, Val.meas]
  refine rel_gate ?_
  rw [if_neg (by omega), if_neg (by omega), if_neg (by omega), if_neg (by omega), if_neg (by omega), if_pos trivial]
  exact rel_fin h a
 | .quot l, left, nest, h => by
  have a := Itm.relL l left (nest + 1) 1 0 (by omega)
  simp only [Val.tree, V.rm, Val.meas]
  refine rel_gate ?_
  rw [if_neg (by omega), if_neg (by omega), if_neg (by omega), if_neg (by omega), if_neg (by omega), if_neg (by omega), if_pos trivial]
  exact rel_fin h a
theorem Val.relL : ∀ (l : List Val) (left nest n d : Int), 0 ≤ nest → okR nest (V.rmL vs nm true (Val.trees l) left nest n d) = okP left nest (Val.measL vs nm l (left - n) nest d)
 | [], left, nest, n, d, h => rel_nil rfl
 | v :: l, left, nest, n, d, h => by
  have a := Val.rel v (left - n) nest h
  have b := fun n d => Val.relL l left nest n d h
  simp only [Val.trees, V.rmL, Val.measL]
  rw [if_neg (by simp [Val.tree_k v])]
  exact rel_step (fr := fun n d => V.rmL vs nm true (Val.trees l) left nest n d) (fm := fun lf d => Val.measL vs nm l lf nest d) a (fun _ _ => rmL_mono vs nm true _) (fun _ _ => measL_mono vs nm _) fun n d _ _ => b n d
theorem Itm.rel : ∀ (v : Itm) (left nest : Int), 0 ≤ nest → okR nest (v.tree.rm vs nm left nest) = okP left nest (v.meas vs nm left nest)
 | .push w, left, nest, h => Val.rel w left nest h
 | .nil, left, nest, h => by
  simp only [Itm.tree, V.rm, Itm.meas, gateR]
  simp only [okR_f, okP_f, show ¬ (8 : Int) = 1 by omega, show ¬ (8 : Int) = 2 by omega, show ¬ (8 : Int) = 3 by omega, show ¬ (8 : Int) = 4 by omega, show ¬ (8 : Int) = 5 by omega, show ¬ (8 : Int) = 6 by omega, show ¬ (8 : Int) = 7 by omega, if_false]
  split
  ·exact okR_f
  ·split <;> exact okR_f
 | .call s, left, nest, h => by
  simp only [Itm.tree, V.rm, Itm.meas, gateR]
  by_cases h1 : left < 1
  ·rw [if_pos h1, show decide (left - 1 ≥ 0) = false from decide_eq_false (by omega), Bool.false_and, okR_f, okP_f]
  rw [if_neg h1, show decide (left - 1 ≥ 0) = true from decide_eq_true (by omega), Bool.true_and]
  by_cases h2 : nest > 32
  ·rw [if_pos h2, okR_f]
   refine (if_neg fun e => ?_).symm
   have : (0 : Int) + nest ≤ 32 := e.2
   omega
  rw [if_neg h2, if_neg (by omega), if_neg (by omega), if_neg (by omega), if_neg (by omega), if_pos trivial]
  exact rel_leaf
theorem Itm.relL : ∀ (l : List Itm) (left nest n d : Int), 0 ≤ nest → okR nest (V.rmL vs nm false (Itm.trees l) left nest n d) = okP left nest (Itm.measL vs nm l (left - n) nest d)
 | [], left, nest, n, d, h => rel_nil rfl
 | v :: l, left, nest, n, d, h => by
  have a := Itm.rel v (left - n) nest h
  have b := fun n d => Itm.relL l left nest n d h
  simp only [Itm.trees, V.rmL, Itm.measL]
  rw [if_neg (by simp)]
  exact rel_step (fr := fun n d => V.rmL vs nm false (Itm.trees l) left nest n d) (fm := fun lf d => Itm.measL vs nm l lf nest d) a (fun _ _ => rmL_mono vs nm false _) (fun _ _ => imeasL_mono vs nm _) fun n d _ _ => b n d
end
/-- The program and the reference agree on what is sound. -/
theorem sound_chk (v : Val) : v.tree.sound vs nm = decide (v.chk vs nm = 0) := by
 have h := Val.rel vs nm v 1024 0 (Int.le_refl _)
 obtain ⟨_, _, _, _, b5⟩ := V.rm_bnd vs nm v.tree (left := 1024) (nest := 0) (by omega)
 obtain ⟨_, _, _, _, c5⟩ := Val.bnd vs nm v (left := 1024) (nest := 0) (by omega)
 unfold V.sound Val.chk
 rw [decide_eq_false (Val.tree_k v), Bool.not_false, Bool.and_true]
 generalize v.tree.rm vs nm 1024 0 = x at h b5
 generalize v.meas vs nm 1024 0 = y at h c5
 obtain ⟨x1, x2, xo⟩ := x
 obtain ⟨y1, yo, y2⟩ := y
 dsimp only at b5 c5 ⊢
 cases xo with
 | true =>
  cases yo with
  | true => rfl
  | false =>
   rw [okP_f] at h
   unfold okR at h
   rw [if_pos ⟨rfl, by have := b5 rfl; dsimp only; omega⟩] at h
   cases h
 | false =>
  cases yo with
  | false => rfl
  | true =>
   rw [okR_f] at h
   unfold okP at h
   rw [if_pos ⟨rfl, by have := c5 rfl; dsimp only; omega⟩] at h
   cases h
end
end Go.AM.PV
namespace Go.AM.PV
open Go Go.AM Go.AM.SX
/-- Block k, behind all of A, an open row of one's own. -/
structure OpB (A B : Go.AM.St) (e : TypeId) (cs : List Value) (r : Row) : Prop where
 nx : B.next = A.next + 1
 g : B.g = A.g
 oth : ∀ c, c ≠ A.next → B.h.get c = A.h.get c
 at_ : B.h.get A.next = some (.row r)
 own : r.own = true
 opn : r.opn = true
 elem : r.elem = e
 esz : r.esz = 1
 grp : r.grp = A.next
 frz : r.frz = 0
 size : r.size = cs.length
 ones : cs.all one = true
 cells : ∀ i, i < cs.length → r.cells.get i = cs[i]?
theorem OpB.new (A : Go.AM.St) (e : TypeId) (cs : List Value) (n : Nat) (ho : cs.all one = true) : ∃ r, OpB A (appNew A e 1 n cs).2 e cs r := by
 refine ⟨_, rfl, rfl, fun c hc => T.get_set_other _ _ hc, T.get_set_same _ _ _, rfl, rfl, rfl, rfl, rfl, rfl, rfl, ho, fun i _ => ?_⟩
 exact T.get_ofList _ _
theorem OpB.store {A B : Go.AM.St} {e : TypeId} {cs : List Value} {r : Row} (h : OpB A B e cs r) (hg : A.g.get A.next = none) {off : Nat} {new : List Value} (hl : off + new.length ≤ cs.length) (ho : new.all one = true) :
  ∃ B' r', B.storeN ⟨A.next, off, none⟩ new = some B' ∧ OpB A B' e (setFrom cs off new) r' := by
 have hal : B.alone A.next r = B := by
  unfold Go.AM.St.alone
  rw [h.grp, h.g, hg]
 refine ⟨B.setObj A.next (.row { r with cells := r.cells.setL off new }), _, ?_, h.nx, h.g, fun c hc => (T.get_set_other _ _ hc).trans (h.oth c hc), T.get_set_same _ _ _, h.own, h.opn, h.elem, h.esz, h.grp, h.frz, by rw [setFrom_length]; exact h.size, setFrom_ones _ _ _ h.ones ho, fun i hi => ?_⟩
 ·unfold Go.AM.St.storeN Go.AM.St.row?
  simp only [h.at_]
  rw [if_pos]
  ·simp only [hal]
  ·simp only [h.own, h.frz, Bool.and_eq_true, decide_eq_true_eq, h.size]
   exact ⟨⟨⟨trivial, hl⟩, Nat.zero_le _⟩, ho⟩
 ·rw [setFrom_length] at hi
  rw [setFrom_get _ _ _ _ hl, T.get_setL]
  split
  ·rfl
  ·exact h.cells i hi
theorem zeros_one (z : Value) (hz : one z = true) : ∀ n, (zeros [z] n).length = n ∧ (zeros [z] n).all one = true
 | 0 => ⟨rfl, rfl⟩
 | n + 1 => ⟨by show ((zeros [z] n).length + 1) = _; rw [(zeros_one z hz n).1], by show (one z && (zeros [z] n).all one) = true; rw [hz, (zeros_one z hz n).2]; rfl⟩
theorem set_two {zs vs ws : List Value} (h : zs.length = vs.length + ws.length) : setFrom (setFrom zs 0 vs) vs.length ws = vs ++ ws := by
 apply List.ext_getElem?
 intro k
 rw [setFrom_get _ _ _ _ (by rw [setFrom_length]; omega), setFrom_get _ _ _ _ (by omega)]
 rcases Nat.lt_or_ge k vs.length with hk | hk
 ·rw [if_neg (by omega), if_pos (by omega), Nat.sub_zero, List.getElem?_append_left hk]
 ·rw [List.getElem?_append_right hk]
  rcases Nat.lt_or_ge k (vs.length + ws.length) with hk2 | hk2
  ·rw [if_pos (by omega)]
  ·rw [if_neg (by omega), if_neg (by omega), List.getElem?_eq_none (by omega), List.getElem?_eq_none (by omega)]
end Go.AM.PV
namespace Go.AM.PV
open Go Go.AM Go.AM.SX
variable (inf : Nat → TypeInfo)
def t13_2 : N := .op (.bin .add) [vn 5, vv (.int .i64 1)] (.fin 0 [vn 3, vn 4, vn 11])
def t13_7 : N := .op (.idxA 1) [vn 1, vn 5] (.op (.load none) [vn 7] (.call 24 [vn 8] (.op (.bin .neq) [vn 9, vv (.int .i64 0)] (.br (vn 10) (.fin 1 [vv (.slice none 0 0), vn 9, vn 5]) t13_2))))
def t13_10 : N := .op (.bin .lss) [vn 5, vn 2] (.br (vn 6) t13_7 (.fin 2 [vn 3, vn 4, vn 5]))
def t13_12 : N := .op .tup [vn 4, vn 5] (.fin 1 [vn 7])
def t13_14 : N := .op .tup [vv (.slice none 0 0), vv (.int .i64 10)] (.fin 1 [vn 11])
def t13_16 : N := .op .tup [vv (.slice none 0 0), vv (.int .i64 16)] (.fin 1 [vn 14])
def t13_18 : N := .op .tup [vv (.slice none 0 0), vn 20] (.fin 1 [vn 22])
def t13_25 : N := .op (.idxA 1) [vn 24, vn 27] (.op (.load none) [vn 29] (.call 28 [vn 30] (.op (.newSl 41 [.nilIface] [(0, 1)]) [vn 31] (.op (.app 41 (inf 41) .nilIface) [vn 26, .sl (.n 32) 1] (.op (.bin .add) [vn 27, vv (.int .i64 1)] (.fin 0 [vn 33, vn 34]))))))
def t13_28 : N := .op (.bin .lss) [vn 27, vn 25] (.br (vn 28) (t13_25 inf) (.fin 5 [vn 26, vn 27]))
def t13_30 : N := .op .tup [vn 27, vv (.int .i64 0)] (.fin 1 [vn 29])
def t13_32 : N := .sw 26 5 t13_30 .bad
def t13_37 : N := .op (.subL 1 false true false) [vn 1, vn 16] (.op (.newSl 25 [(.slice none 0 0), (.slice none 0 0)] [(0, 1), (1, 1)]) [vn 22, vn 19] (.call 27 [.sl (.n 23) 2] (.op .lenL [vn 24] (.loop [vv (.slice none 0 0), vv (.int .i64 0)] (t13_28 inf) t13_32))))
def t13_46 : N := .op .lenL [vn 1] (.op .lenS [vn 8] (.op (.bin .sub) [vn 14, vn 15] (.op (.subL 1 true false false) [vn 1, vn 16] (.call 26 [vn 0, vn 17] (.op (.ext 0) [vn 18] (.op (.ext 1) [vn 18] (.op (.bin .neq) [vn 20, vv (.int .i64 0)] (.br (vn 21) t13_18 (t13_37 inf)))))))))
def t13_50 : N := .op .lenL [vn 1] (.op .lenS [vn 8] (.op (.bin .lss) [vn 11, vn 12] (.br (vn 13) t13_16 (t13_46 inf))))
def t13_55 : N := .call 25 [vn 0] (.op (.ext 0) [vn 7] (.op (.ext 1) [vn 7] (.op .not [vn 9] (.br (vn 10) t13_14 (t13_50 inf)))))
def t13_57 : N := .sw 3 2 (t13_55 inf) .bad
def t13_58 : N := .sw 3 1 t13_12 (t13_57 inf)
def t13 : N := .op .lenL [vn 1] (.loop [vv (.slice none 0 0), vv (.int .i64 0), vv (.int .i64 0)] t13_10 (t13_58 inf))
def t18 : N := .call 11 [vn 0] (.call 15 [vn 2, vn 1] (.fin 1 [vn 3]))
def t8_3 : N := .op (.bin .add) [vn 9, vv (.int .i64 1)] (.fin 0 [vn 7, vn 8, vn 21])
def t8_5 : N := .op (.bin .neq) [vn 16, vv (.int .i64 1)] (.br (vn 20) (.fin 1 [vv (.bool false), vn 8, vn 9]) t8_3)
def t8_10 : N := .op (.bin .add) [vn 8, vv (.int .i64 1)] (.op (.bin .add) [vn 9, vv (.int .i64 1)] (.fin 0 [vn 7, vn 26, vn 27]))
def t8_12 : N := .op (.bin .add) [vn 9, vv (.int .i64 1)] (.fin 0 [vn 7, vn 8, vn 26])
def t8_16 : N := .op (.build [(.int .i64 0), (.int .i64 0), (bs []), (.slice none 0 0)] [(0, 1), (1, 1)]) [vv (.int .i64 3), vv (.int .i64 1)] (.op (.newSl 35 [(.int .i64 0), (.int .i64 0), (bs []), (.slice none 0 0)] [(0, 4)]) [vn 23] (.call 18 [vn 15, .sl (.n 24) 1] (.br (vn 25) t8_10 t8_12)))
def t8_19 : N := .op .lenL [vn 15] (.op (.bin .neq) [vn 21, vv (.int .i64 1)] (.br (vn 22) (.fin 1 [vv (.bool false), vn 8, vn 9]) t8_16))
def t8_21 : N := .op (.bin .neq) [vn 16, vv (.int .i64 0)] (.br (vn 20) (.fin 1 [vv (.bool false), vn 8, vn 9]) t8_19)
def t8_31 : N := .op (.idxA 1) [.sl (.n 6) 6, vn 9] (.op (.load none) [vn 11] (.op (.newSl 41 [.nilIface] [(0, 1)]) [vn 5] (.call 13 [vn 12, .sl (.n 13) 1] (.op (.ext 0) [vn 14] (.op (.ext 1) [vn 14] (.call 20 [vn 5] (.call 16 [vn 17] (.op .not [vn 18] (.br (vn 19) t8_5 t8_21)))))))))
def t8_34 : N := .op (.bin .lss) [vn 9, vv (.int .i64 6)] (.br (vn 10) t8_31 (.fin 2 [vn 7, vn 8, vn 9]))
def t8_40 : N := .call 20 [vn 5] (.call 16 [vn 12] (.op .not [vn 13] (.fin 1 [vn 14])))
def t8_42 : N := .op (.bin .eql) [vn 9, vv (.int .i64 1)] (.br (vn 11) (.fin 1 [vv (.bool true)]) t8_40)
def t8_44 : N := .sw 7 2 t8_42 .bad
def t8_45 : N := .sw 7 1 (.fin 1 [vn 8]) t8_44
def t8_49 : N := .op (.load (some 4)) [vn 1] (.call 19 [vn 4] (.op (.newSl 9 [(bs []), (bs []), (bs []), (bs []), (bs []), (bs [])] [(0, 1), (1, 1), (2, 1), (3, 1), (4, 1), (5, 1)]) [vv (bs [105, 110, 116, 63]), vv (bs [115, 116, 114, 63]), vv (bs [98, 111, 111, 108, 63]), vv (bs [108, 105, 115, 116, 63]), vv (bs [113, 117, 111, 116, 63]), vv (bs [98, 111, 120, 63])] (.loop [vv (.bool false), vv (.int .i64 0), vv (.int .i64 0)] t8_34 t8_45)))
def t8 : N := .op (.box 35) [vn 0] (.call 10 [] (.op .not [vn 2] (.br (vn 3) (.fin 1 [vv (.bool false)]) t8_49)))
def t26_10 : N := .self (vn 3) (.self (vn 9) (.chk 0 .idxS [vn 3, vn 9] (vn 12) (.self (vn 1) (.self (vn 9) (.chk 0 (.idxA 1) [vn 1, vn 9] (vn 13) (.chk 0 (.load none) [vn 13] (vn 14) (.chk 1 .not [vn 15] (vn 16) (.self (vn 16) (.self (vv (.bool true)) (.fin 1 [vv (.slice none 0 0), vv (.int .i64 17), vn 9]))))))))))
def t26_13 : N := .op (.bin .sub) [vn 9, vv (.int .i64 1)] (.fin 0 [vn 7, vn 8, vn 26])
def t26_37 : N := .chk 0 (.idxA 1) [vn 1, vn 9] (vn 13) (.chk 0 (.load none) [vn 13] (vn 14) (.chk 1 .not [vn 15] (vn 16) (.self (vn 16) (.self (vn 9) (.chk 1 (.bin .eql) [vn 9, vv (.int .i64 0)] (vn 17) (.self (vn 17) (.self (vn 0) (.chk 1 (.bin .eql) [vn 0, vv (bs [97, 112, 112, 101, 110, 100])] (vn 18) (.self (vn 18) (.self (vn 18) (.self (vn 1) (.chk 1 (.idxA 1) [vn 1, vv (.int .i64 0)] (vn 19) (.chk 1 (.load none) [vn 19] (vn 20) (.self (vn 1) (.self (vn 1) (.chk 2 (.idxA 1) [vn 1, vv (.int .i64 1)] (vn 22) (.chk 1 (.idxA 1) [vn 1, vv (.int .i64 1)] (vn 22) (.chk 2 (.load none) [vn 22] (vn 23) (.chk 1 (.load none) [vn 22] (vn 23) (.chk 3 (.bin .neq) [vn 21, vn 24] (vn 25) (.self (vn 25) (.self (vn 25) (.br (vn 25) (.fin 1 [vv (.slice none 0 0), vv (.int .i64 17), vn 9]) t26_13)))))))))))))))))))))))
def t26_51 : N := .op (.idxA 1) [vn 1, vv (.int .i64 0)] (.op (.load none) [vn 19] (.call 42 [vn 20] (.save (.op (.idxA 1) [vn 1, vv (.int .i64 1)] (.op (.load none) [vn 22] (.call 42 [vn 23] (.save (.op (.bin .neq) [vn 21, vn 24] (.self (vn 3) (.self (vn 9) (.chk 0 .idxS [vn 3, vn 9] (vn 12) (.self (vn 1) (.self (vn 9) t26_37)))))))))))))
def t26_71 : N := .self (vn 3) (.self (vn 9) (.chk 0 .idxS [vn 3, vn 9] (vn 12) (.self (vn 1) (.self (vn 9) (.chk 0 (.idxA 1) [vn 1, vn 9] (vn 13) (.chk 0 (.load none) [vn 13] (vn 14) (.chk 1 .not [vn 15] (vn 16) (.self (vn 16) (.self (vn 9) (.chk 1 (.bin .eql) [vn 9, vv (.int .i64 0)] (vn 17) (.self (vn 17) (.self (vn 0) (.chk 1 (.bin .eql) [vn 0, vv (bs [97, 112, 112, 101, 110, 100])] (vn 18) (.self (vn 18) (.self (vn 18) (.self (vv (.bool false)) (.self (vv (.bool false)) (.op (.bin .sub) [vn 9, vv (.int .i64 1)] (.fin 0 [vn 7, vn 8, vn 19])))))))))))))))))))
def t26_73 : N := .op (.bin .eql) [vn 0, vv (bs [97, 112, 112, 101, 110, 100])] (.br (vn 18) t26_51 t26_71)
def t26_91 : N := .self (vn 3) (.self (vn 9) (.chk 0 .idxS [vn 3, vn 9] (vn 12) (.self (vn 1) (.self (vn 9) (.chk 0 (.idxA 1) [vn 1, vn 9] (vn 13) (.chk 0 (.load none) [vn 13] (vn 14) (.chk 1 .not [vn 15] (vn 16) (.self (vn 16) (.self (vn 9) (.chk 1 (.bin .eql) [vn 9, vv (.int .i64 0)] (vn 17) (.self (vn 17) (.self (vv (.bool false)) (.self (vv (.bool false)) (.self (vv (.bool false)) (.self (vv (.bool false)) (.op (.bin .sub) [vn 9, vv (.int .i64 1)] (.fin 0 [vn 7, vn 8, vn 18])))))))))))))))))
def t26_93 : N := .op (.bin .eql) [vn 9, vv (.int .i64 0)] (.br (vn 17) t26_73 t26_91)
def t26_102 : N := .bump 28 (.save (.op .idxS [vn 3, vn 9] (.op (.idxA 1) [vn 1, vn 9] (.op (.load none) [vn 13] (.call 41 [vn 12, vn 14] (.save (.op .not [vn 15] (.br (vn 16) t26_10 t26_93))))))))
def t26_105 : N := .op (.bin .geq) [vn 9, vv (.int .i64 0)] (.br (vn 10) t26_102 (.fin 2 [vn 7, vn 8, vn 9]))
def t26_107 : N := .op .tup [vn 8, vn 9] (.fin 1 [vn 11])
def t26_109 : N := .op .tup [vv (.slice none 0 0), vn 20] (.fin 1 [vn 22])
def t26_112 : N := .op (.bin .add) [vn 25, vv (.int .i64 1)] (.fin 0 [vn 23, vn 24, vn 31])
def t26_117 : N := .op (.idxA 1) [vn 19, vn 25] (.op (.load none) [vn 27] (.call 24 [vn 28] (.op (.bin .neq) [vn 29, vv (.int .i64 0)] (.br (vn 30) (.fin 1 [vv (.slice none 0 0), vv (.int .i64 11), vn 25]) t26_112))))
def t26_120 : N := .op (.bin .lss) [vn 25, vn 22] (.br (vn 26) t26_117 (.fin 4 [vn 23, vn 24, vn 25]))
def t26_122 : N := .op .tup [vn 24, vn 25] (.fin 1 [vn 27])
def t26_124 : N := .op .tup [vn 19, vv (.int .i64 0)] (.fin 1 [vn 27])
def t26_126 : N := .sw 23 4 t26_124 .bad
def t26_127 : N := .sw 23 1 t26_122 t26_126
def t26_129 : N := .op .lenL [vn 19] (.loop [vn 8, vn 9, vv (.int .i64 0)] t26_120 t26_127)
def t26_134 : N := .call 45 [vn 0, vn 1] (.op (.ext 0) [vn 18] (.op (.ext 1) [vn 18] (.op (.bin .neq) [vn 20, vv (.int .i64 0)] (.br (vn 21) t26_109 t26_129))))
def t26_136 : N := .op .tup [vv (.slice none 0 0), vn 15] (.fin 1 [vn 19])
def t26_139 : N := .op (.bin .add) [vn 22, vv (.int .i64 1)] (.fin 0 [vn 20, vn 21, vn 28])
def t26_144 : N := .op (.idxA 1) [vn 14, vn 22] (.op (.load none) [vn 24] (.call 24 [vn 25] (.op (.bin .neq) [vn 26, vv (.int .i64 0)] (.br (vn 27) (.fin 1 [vv (.slice none 0 0), vv (.int .i64 11), vn 22]) t26_139))))
def t26_147 : N := .op (.bin .lss) [vn 22, vn 19] (.br (vn 23) t26_144 (.fin 4 [vn 20, vn 21, vn 22]))
def t26_149 : N := .op .tup [vn 21, vn 22] (.fin 1 [vn 24])
def t26_151 : N := .op .tup [vn 14, vv (.int .i64 0)] (.fin 1 [vn 24])
def t26_153 : N := .sw 20 4 t26_151 .bad
def t26_154 : N := .sw 20 1 t26_149 t26_153
def t26_156 : N := .op .lenL [vn 14] (.loop [vn 8, vn 9, vv (.int .i64 0)] t26_147 t26_154)
def t26_158 : N := .op (.bin .neq) [vn 15, vv (.int .i64 0)] (.br (vn 18) t26_136 t26_156)
def t26_160 : N := .op (.bin .eql) [vn 15, vv (.int .i64 0)] (.br (vn 17) t26_134 t26_158)
def t26_162 : N := .op .tup [vv (.slice none 0 0), vn 15] (.fin 1 [vn 18])
def t26_165 : N := .op (.bin .add) [vn 21, vv (.int .i64 1)] (.fin 0 [vn 19, vn 20, vn 27])
def t26_170 : N := .op (.idxA 1) [vn 14, vn 21] (.op (.load none) [vn 23] (.call 24 [vn 24] (.op (.bin .neq) [vn 25, vv (.int .i64 0)] (.br (vn 26) (.fin 1 [vv (.slice none 0 0), vv (.int .i64 11), vn 21]) t26_165))))
def t26_173 : N := .op (.bin .lss) [vn 21, vn 18] (.br (vn 22) t26_170 (.fin 4 [vn 19, vn 20, vn 21]))
def t26_175 : N := .op .tup [vn 20, vn 21] (.fin 1 [vn 23])
def t26_177 : N := .op .tup [vn 14, vv (.int .i64 0)] (.fin 1 [vn 23])
def t26_179 : N := .sw 19 4 t26_177 .bad
def t26_180 : N := .sw 19 1 t26_175 t26_179
def t26_182 : N := .op .lenL [vn 14] (.loop [vn 8, vn 9, vv (.int .i64 0)] t26_173 t26_180)
def t26_184 : N := .op (.bin .neq) [vn 15, vv (.int .i64 0)] (.br (vn 17) t26_162 t26_182)
def t26_189 : N := .call 44 [vn 0, vn 1] (.op (.ext 0) [vn 13] (.op (.ext 1) [vn 13] (.op (.eqn (.slice 41) false) [vn 14, vv (.slice none 0 0)] (.br (vn 16) t26_160 t26_184))))
def t26_191 : N := .op .tup [vv (.slice none 0 0), vn 16] (.fin 1 [vn 18])
def t26_194 : N := .op (.bin .add) [vn 21, vv (.int .i64 1)] (.fin 0 [vn 19, vn 20, vn 27])
def t26_199 : N := .op (.idxA 1) [vn 15, vn 21] (.op (.load none) [vn 23] (.call 24 [vn 24] (.op (.bin .neq) [vn 25, vv (.int .i64 0)] (.br (vn 26) (.fin 1 [vv (.slice none 0 0), vv (.int .i64 11), vn 21]) t26_194))))
def t26_202 : N := .op (.bin .lss) [vn 21, vn 18] (.br (vn 22) t26_199 (.fin 4 [vn 19, vn 20, vn 21]))
def t26_204 : N := .op .tup [vn 20, vn 21] (.fin 1 [vn 23])
def t26_206 : N := .op .tup [vn 15, vv (.int .i64 0)] (.fin 1 [vn 23])
def t26_208 : N := .sw 19 4 t26_206 .bad
def t26_209 : N := .sw 19 1 t26_204 t26_208
def t26_211 : N := .op .lenL [vn 15] (.loop [vn 8, vn 9, vv (.int .i64 0)] t26_202 t26_209)
def t26_216 : N := .call 45 [vn 0, vn 1] (.op (.ext 0) [vn 14] (.op (.ext 1) [vn 14] (.op (.bin .neq) [vn 16, vv (.int .i64 0)] (.br (vn 17) t26_191 t26_211))))
def t26_219 : N := .op (.bin .add) [vn 17, vv (.int .i64 1)] (.fin 0 [vn 15, vn 16, vn 23])
def t26_224 : N := .op (.idxA 1) [vn 11, vn 17] (.op (.load none) [vn 19] (.call 24 [vn 20] (.op (.bin .neq) [vn 21, vv (.int .i64 0)] (.br (vn 22) (.fin 1 [vv (.slice none 0 0), vv (.int .i64 11), vn 17]) t26_219))))
def t26_227 : N := .op (.bin .lss) [vn 17, vn 14] (.br (vn 18) t26_224 (.fin 4 [vn 15, vn 16, vn 17]))
def t26_229 : N := .op .tup [vn 16, vn 17] (.fin 1 [vn 19])
def t26_231 : N := .op .tup [vn 11, vv (.int .i64 0)] (.fin 1 [vn 19])
def t26_233 : N := .sw 15 4 t26_231 .bad
def t26_234 : N := .sw 15 1 t26_229 t26_233
def t26_236 : N := .op .lenL [vn 11] (.loop [vn 8, vn 9, vv (.int .i64 0)] t26_227 t26_234)
def t26_238 : N := .op (.eqn (.slice 41) false) [vn 11, vv (.slice none 0 0)] (.br (vn 13) t26_216 t26_236)
def t26_241 : N := .call 43 [vn 0, vn 1] (.op (.eqn (.slice 41) false) [vn 11, vv (.slice none 0 0)] (.br (vn 12) t26_189 t26_238))
def t26_243 : N := .sw 7 2 t26_241 .bad
def t26_244 : N := .sw 7 1 t26_107 t26_243
def t26 : N := .call 25 [vn 0] (.op (.ext 0) [vn 2] (.op (.ext 1) [vn 2] (.op .lenS [vn 3] (.op (.bin .sub) [vn 5, vv (.int .i64 1)] (.loop [vv (.slice none 0 0), vv (.int .i64 0), vn 6] t26_105 t26_244)))))
def t41_3 : N := .op (.bin .eql) [vn 2, vv (.int .u8 108)] (.fin 1 [vn 6])
def t41_5 : N := .op (.bin .eql) [vn 2, vv (.int .u8 115)] (.br (vn 5) (.fin 1 [vv (.bool true)]) t41_3)
def t41_9 : N := .op (.bin .eql) [vn 2, vv (.int .u8 113)] (.fin 1 [vn 8])
def t41_11 : N := .op (.bin .eql) [vn 2, vv (.int .u8 108)] (.br (vn 7) (.fin 1 [vv (.bool true)]) t41_9)
def t41_13 : N := .op (.bin .eql) [vn 2, vv (.int .u8 115)] (.br (vn 6) (.fin 1 [vv (.bool true)]) t41_11)
def t41_15 : N := .op (.bin .eql) [vn 2, vn 0] (.fin 1 [vn 6])
def t41_17 : N := .op (.bin .eql) [vn 0, vv (.int .u8 97)] (.br (vn 5) t41_13 t41_15)
def t41_19 : N := .op (.bin .eql) [vn 0, vv (.int .u8 101)] (.br (vn 4) t41_5 t41_17)
def t41 : N := .call 42 [vn 1] (.op (.bin .eql) [vn 0, vv (.int .u8 120)] (.br (vn 3) (.fin 1 [vv (.bool true)]) t41_19))
def t42_9 : N := .op (.ta 76 (.agg #[(.slice none 0 0)]) true) [vn 0] (.op (.ext 1) [vn 13] (.op (.ext 0) [vn 13] (.br (vn 14) (.fin 1 [vv (.int .u8 113)]) (.fin 1 [vv (.int .u8 111)]))))
def t42_13 : N := .op (.ta 52 (.agg #[(.slice none 0 0)]) true) [vn 0] (.op (.ext 1) [vn 10] (.op (.ext 0) [vn 10] (.br (vn 11) (.fin 1 [vv (.int .u8 108)]) t42_9)))
def t42_17 : N := .op (.ta 49 (.agg #[(.bool false)]) true) [vn 0] (.op (.ext 1) [vn 7] (.op (.ext 0) [vn 7] (.br (vn 8) (.fin 1 [vv (.int .u8 98)]) t42_13)))
def t42_21 : N := .op (.ta 72 (.agg #[(bs [])]) true) [vn 0] (.op (.ext 1) [vn 4] (.op (.ext 0) [vn 4] (.br (vn 5) (.fin 1 [vv (.int .u8 115)]) t42_17)))
def t42 : N := .op (.ta 45 (.agg #[(.int .i64 0)]) true) [vn 0] (.op (.ext 1) [vn 1] (.op (.ext 0) [vn 1] (.br (vn 2) (.fin 1 [vv (.int .u8 110)]) t42_21)))
def t72 : N := .op (.build [(.bool false)] [(0, 1)]) [vn 0] (.op (.newSl 41 [.nilIface] [(0, 1)]) [.ifc 49 (.n 1)] (.fin 1 [.sl (.n 2) 1]))
def t27_2 : N := .op (.bin .add) [vn 3, vv (.int .i64 1)] (.fin 0 [vn 8, vn 10])
def t27_8 : N := .op (.idxA 1) [vn 0, vn 3] (.op (.load none) [vn 5] (.op .lenL [vn 6] (.op (.bin .add) [vn 2, vn 7] (.op (.bin .lss) [vn 8, vv (.int .i64 0)] (.br (vn 9) .bad t27_2)))))
def t27_11 : N := .op (.bin .lss) [vn 3, vn 1] (.br (vn 4) t27_8 (.fin 2 [vn 2, vn 3]))
def t27_17 : N := .op (.idxA 1) [vn 0, vn 16] (.op (.load none) [vn 18] (.op (.app 41 (inf 41) .nilIface) [vn 15, vn 19] (.op (.bin .add) [vn 16, vv (.int .i64 1)] (.fin 0 [vn 20, vn 21]))))
def t27_20 : N := .op (.bin .lss) [vn 16, vn 14] (.br (vn 17) (t27_17 inf) (.fin 4 [vn 15, vn 16]))
def t27_23 : N := .sw 15 4 (.fin 1 [vn 16]) .bad
def t27_29 : N := .op .capL [vv (.slice none 0 0)] (.op (.subL 1 false true false) [vv (.slice none 0 0), vn 10] (.op (.appZ 41 (inf 41) .nilIface) [vn 11, vn 8] (.op (.subL 1 false true false) [vn 12, vv (.int .i64 0)] (.op .lenL [vn 0] (.loop [vn 13, vv (.int .i64 0)] (t27_20 inf) t27_23)))))
def t27_34 : N := .op (.idxA 1) [vn 0, vn 12] (.op (.load none) [vn 14] (.op (.app 41 (inf 41) .nilIface) [vn 11, vn 15] (.op (.bin .add) [vn 12, vv (.int .i64 1)] (.fin 0 [vn 16, vn 17]))))
def t27_37 : N := .op (.bin .lss) [vn 12, vn 10] (.br (vn 13) (t27_34 inf) (.fin 4 [vn 11, vn 12]))
def t27_40 : N := .sw 11 4 (.fin 1 [vn 12]) .bad
def t27_42 : N := .op .lenL [vn 0] (.loop [vv (.slice none 0 0), vv (.int .i64 0)] (t27_37 inf) t27_40)
def t27_47 : N := .op .capL [vv (.slice none 0 0)] (.op (.bin .sub) [vn 6, vv (.int .i64 0)] (.op (.bin .sub) [vn 3, vn 7] (.op (.bin .gtr) [vn 8, vv (.int .i64 0)] (.br (vn 9) (t27_29 inf) (t27_42 inf)))))
def t27_49 : N := .op (.bin .lss) [vn 3, vv (.int .i64 0)] (.br (vn 5) .bad (t27_47 inf))
def t27_51 : N := .sw 2 2 (t27_49 inf) .bad
def t27 : N := .op .lenL [vn 0] (.loop [vv (.int .i64 0), vv (.int .i64 0)] t27_11 (t27_51 inf))
def t43_14 : N := .bump 8 (.save (.op (.idxA 1) [vn 1, vv (.int .i64 0)] (.op (.load none) [vn 4] (.op (.idxA 1) [vn 1, vv (.int .i64 0)] (.op (.load none) [vn 6] (.opAt 3 6 (.newSl 41 [.nilIface, .nilIface] [(0, 1), (1, 1)]) [vn 5, vn 7] (.self (vn 1) (.chk 0 (.idxA 1) [vn 1, vv (.int .i64 0)] (vn 4) (.chk 0 (.load none) [vn 4] (vn 5) (.self (vn 1) (.chk 0 (.idxA 1) [vn 1, vv (.int .i64 0)] (vn 6) (.chk 0 (.load none) [vn 6] (vn 7) (.self (.sl (.n 8) 2) (.fin 1 [.sl (.n 8) 2]))))))))))))))
def t43_16 : N := .op (.newSl 41 [] []) [] (.fin 1 [.sl (.n 4) 0])
def t43_31 : N := .bump 8 (.save (.op (.idxA 1) [vn 1, vv (.int .i64 1)] (.op (.load none) [vn 6] (.op (.idxA 1) [vn 1, vv (.int .i64 0)] (.op (.load none) [vn 8] (.opAt 5 6 (.newSl 41 [.nilIface, .nilIface] [(0, 1), (1, 1)]) [vn 7, vn 9] (.self (vn 1) (.chk 0 (.idxA 1) [vn 1, vv (.int .i64 1)] (vn 6) (.chk 0 (.load none) [vn 6] (vn 7) (.self (vn 1) (.chk 0 (.idxA 1) [vn 1, vv (.int .i64 0)] (vn 8) (.chk 0 (.load none) [vn 8] (vn 9) (.self (.sl (.n 10) 2) (.fin 1 [.sl (.n 10) 2]))))))))))))))
def t43_51 : N := .bump 11 (.save (.op (.idxA 1) [vn 1, vv (.int .i64 0)] (.op (.load none) [vn 7] (.op (.idxA 1) [vn 1, vv (.int .i64 1)] (.op (.load none) [vn 9] (.op (.idxA 1) [vn 1, vv (.int .i64 0)] (.op (.load none) [vn 11] (.opAt 6 9 (.newSl 41 [.nilIface, .nilIface, .nilIface] [(0, 1), (1, 1), (2, 1)]) [vn 8, vn 10, vn 12] (.self (vn 1) (.chk 0 (.idxA 1) [vn 1, vv (.int .i64 0)] (vn 7) (.chk 0 (.load none) [vn 7] (vn 8) (.self (vn 1) (.chk 0 (.idxA 1) [vn 1, vv (.int .i64 1)] (vn 9) (.chk 0 (.load none) [vn 9] (vn 10) (.self (vn 1) (.chk 0 (.idxA 1) [vn 1, vv (.int .i64 0)] (vn 11) (.chk 0 (.load none) [vn 11] (vn 12) (.self (.sl (.n 13) 3) (.fin 1 [.sl (.n 13) 3])))))))))))))))))))
def t43_71 : N := .bump 11 (.save (.op (.idxA 1) [vn 1, vv (.int .i64 1)] (.op (.load none) [vn 8] (.op (.idxA 1) [vn 1, vv (.int .i64 2)] (.op (.load none) [vn 10] (.op (.idxA 1) [vn 1, vv (.int .i64 0)] (.op (.load none) [vn 12] (.opAt 7 9 (.newSl 41 [.nilIface, .nilIface, .nilIface] [(0, 1), (1, 1), (2, 1)]) [vn 9, vn 11, vn 13] (.self (vn 1) (.chk 0 (.idxA 1) [vn 1, vv (.int .i64 1)] (vn 8) (.chk 0 (.load none) [vn 8] (vn 9) (.self (vn 1) (.chk 0 (.idxA 1) [vn 1, vv (.int .i64 2)] (vn 10) (.chk 0 (.load none) [vn 10] (vn 11) (.self (vn 1) (.chk 0 (.idxA 1) [vn 1, vv (.int .i64 0)] (vn 12) (.chk 0 (.load none) [vn 12] (vn 13) (.self (.sl (.n 14) 3) (.fin 1 [.sl (.n 14) 3])))))))))))))))))))
def t43_75 : N := .op (.idxA 1) [vn 1, vv (.int .i64 1)] (.op (.load none) [vn 8] (.op (.newSl 41 [.nilIface] [(0, 1)]) [vn 9] (.fin 1 [.sl (.n 10) 1])))
def t43_95 : N := .bump 11 (.save (.op (.idxA 1) [vn 1, vv (.int .i64 1)] (.op (.load none) [vn 10] (.op (.idxA 1) [vn 1, vv (.int .i64 0)] (.op (.load none) [vn 12] (.op (.idxA 1) [vn 1, vv (.int .i64 1)] (.op (.load none) [vn 14] (.opAt 9 9 (.newSl 41 [.nilIface, .nilIface, .nilIface] [(0, 1), (1, 1), (2, 1)]) [vn 11, vn 13, vn 15] (.self (vn 1) (.chk 0 (.idxA 1) [vn 1, vv (.int .i64 1)] (vn 10) (.chk 0 (.load none) [vn 10] (vn 11) (.self (vn 1) (.chk 0 (.idxA 1) [vn 1, vv (.int .i64 0)] (vn 12) (.chk 0 (.load none) [vn 12] (vn 13) (.self (vn 1) (.chk 0 (.idxA 1) [vn 1, vv (.int .i64 1)] (vn 14) (.chk 0 (.load none) [vn 14] (vn 15) (.self (.sl (.n 16) 3) (.fin 1 [.sl (.n 16) 3])))))))))))))))))))
def t43_101 : N := .op (.idxA 1) [vn 1, vv (.int .i64 0)] (.op (.load none) [vn 10] (.call 42 [vn 11] (.op (.bin .eql) [vn 12, vv (.int .u8 110)] (.call 72 [vn 13] (.fin 1 [vn 14])))))
def t43_107 : N := .op (.idxA 1) [vn 1, vv (.int .i64 0)] (.op (.load none) [vn 11] (.call 42 [vn 12] (.op (.bin .eql) [vn 13, vv (.int .u8 115)] (.call 72 [vn 14] (.fin 1 [vn 15])))))
def t43_113 : N := .op (.idxA 1) [vn 1, vv (.int .i64 0)] (.op (.load none) [vn 12] (.call 42 [vn 13] (.op (.bin .eql) [vn 14, vv (.int .u8 98)] (.call 72 [vn 15] (.fin 1 [vn 16])))))
def t43_119 : N := .op (.idxA 1) [vn 1, vv (.int .i64 0)] (.op (.load none) [vn 13] (.call 42 [vn 14] (.op (.bin .eql) [vn 15, vv (.int .u8 108)] (.call 72 [vn 16] (.fin 1 [vn 17])))))
def t43_125 : N := .op (.idxA 1) [vn 1, vv (.int .i64 0)] (.op (.load none) [vn 14] (.call 42 [vn 15] (.op (.bin .eql) [vn 16, vv (.int .u8 113)] (.call 72 [vn 17] (.fin 1 [vn 18])))))
def t43_131 : N := .op (.idxA 1) [vn 1, vv (.int .i64 0)] (.op (.load none) [vn 15] (.call 42 [vn 16] (.op (.bin .eql) [vn 17, vv (.int .u8 111)] (.call 72 [vn 18] (.fin 1 [vn 19])))))
def t43_134 : N := .op (.bin .eql) [vn 0, vv (bs [98, 111, 120, 63])] (.br (vn 14) t43_131 (.fin 1 [vv (.slice none 0 0)]))
def t43_136 : N := .op (.bin .eql) [vn 0, vv (bs [113, 117, 111, 116, 63])] (.br (vn 13) t43_125 t43_134)
def t43_138 : N := .op (.bin .eql) [vn 0, vv (bs [108, 105, 115, 116, 63])] (.br (vn 12) t43_119 t43_136)
def t43_140 : N := .op (.bin .eql) [vn 0, vv (bs [98, 111, 111, 108, 63])] (.br (vn 11) t43_113 t43_138)
def t43_142 : N := .op (.bin .eql) [vn 0, vv (bs [115, 116, 114, 63])] (.br (vn 10) t43_107 t43_140)
def t43_144 : N := .op (.bin .eql) [vn 0, vv (bs [105, 110, 116, 63])] (.br (vn 9) t43_101 t43_142)
def t43_146 : N := .op (.bin .eql) [vn 0, vv (bs [116, 117, 99, 107])] (.br (vn 8) t43_95 t43_144)
def t43_148 : N := .op (.bin .eql) [vn 0, vv (bs [110, 105, 112])] (.br (vn 7) t43_75 t43_146)
def t43_150 : N := .op (.bin .eql) [vn 0, vv (bs [114, 111, 116])] (.br (vn 6) t43_71 t43_148)
def t43_152 : N := .op (.bin .eql) [vn 0, vv (bs [111, 118, 101, 114])] (.br (vn 5) t43_51 t43_150)
def t43_154 : N := .op (.bin .eql) [vn 0, vv (bs [115, 119, 97, 112])] (.br (vn 4) t43_31 t43_152)
def t43_156 : N := .op (.bin .eql) [vn 0, vv (bs [100, 114, 111, 112])] (.br (vn 3) t43_16 t43_154)
def t43 : N := .op (.bin .eql) [vn 0, vv (bs [100, 117, 112])] (.br (vn 2) t43_14 t43_156)
end Go.AM.PV
namespace Go.AM.PV
open Go Go.AM Go.AM.SX
theorem load_at {A : Go.AM.St} {p : Addr} {v : Value} (h : A.loadN p 1 = some [v]) : semR (.load none) [.pointer (some p)] A = some (v, A) := by
 show (match A.loadN p 1 with
  | some [v] => some (v, A)
  | _ => none) = _
 rw [h]
theorem add_nat {a b : Nat} {A : Go.AM.St} (h : a + b < 4611686018427387904) : semR (.bin .add) [goInt a, goInt b] A = some (goInt ((a + b : Nat) : Int), A) := by
 show some (Value.int .i64 (wrapF .i64 ((a : Int) + b)), A) = _
 rw [wrapF_in (by omega) (by omega)]
 rfl
theorem lt_zero {a : Nat} {A : Go.AM.St} : semR (.bin .lss) [goInt a, .int .i64 0] A = some (.bool false, A) := by
 show some (Value.bool (decide ((a : Int) < 0)), A) = _
 rw [decide_eq_false (by omega)]
theorem sub_zero {n : Nat} {A : Go.AM.St} (h : n < 4611686018427387904) : semR (.bin .sub) [goInt n, goInt ((0 : Nat) : Int)] A = some (goInt (n : Int), A) := by
 show some (Value.int .i64 (wrapF .i64 ((n : Int) - ((0 : Nat) : Int))), A) = _
 rw [show (n : Int) - ((0 : Nat) : Int) = n by omega, wrapF_in (by omega) (by omega)]
 rfl
theorem appZ_new {i : TypeInfo} {n : Nat} {A : Go.AM.St} (h1 : i.size = 1) (h2 : i.bytes = 16) (h0 : 0 < n) (hn : n ≤ 4194304) :
  semR (.appZ 41 i .nilIface) [.slice none 0 0, goInt n] A = some (appNew A 41 1 n (zeros [.nilIface] n)) := by
 have hz := zeros_one .nilIface rfl n
 show (if 0 ≤ (n : Int) ∧ (n : Int) ≤ 4294967296 ∧ (Value.cells .nilIface).size = i.size then (if i.size ≠ 0 ∧ (zeros [Value.nilIface] ((n : Int).toNat)).length = (n : Int).toNat * i.size ∧ (0 + (n : Int).toNat) * i.bytes ≤ 140737488355328 ∧ 0 + (n : Int).toNat ≤ 4611686018427387904 ∧ (Value.cells .nilIface).size = i.size ∧ (zeros [Value.nilIface] ((n : Int).toNat)).all one = true then
   if 0 + (n : Int).toNat ≤ 0 then appIn A none i.size 0 (n : Int).toNat 0 (zeros [Value.nilIface] ((n : Int).toNat)) else appGrow A 41 i none 0 (n : Int).toNat (zeros [Value.nilIface] ((n : Int).toNat))
  else none) else none) = _
 rw [if_pos ⟨by omega, by omega, by rw [h1]; rfl⟩]
 rw [Int.toNat_natCast, if_pos ⟨by omega, by rw [h1, hz.1]; omega, by rw [h2]; omega, by omega, by rw [h1]; rfl, hz.2⟩, if_neg (by omega)]
 show some (appNew A 41 i.size n _) = _
 rw [h1]
theorem sub_open {A B : Go.AM.St} {e : TypeId} {cs : List Value} {r : Row} {n : Nat} (h : OpB A B e cs r) : semR (.subL 1 false true false) [.slice (some ⟨A.next, 0, none⟩) n n, .int .i64 0] B = some (.slice (some ⟨A.next, 0, none⟩) 0 n, B) := by
 have hr : B.row? A.next = some r := by
  unfold Go.AM.St.row?
  rw [h.at_]
 have hb : bound (.int .i64 0) n = some 0 := by
  unfold bound
  simp
 simp only [semR, hr, optBound, List.head?, List.tail, Bool.false_eq_true, if_false, if_true, hb, h.opn, h.esz]
 rfl
theorem app_in {A B : Go.AM.St} {e : TypeId} {cs : List Value} {r : Row} {i : TypeInfo} {z w : Value} {n off m : Nat} {new : List Value} (h1 : i.size = 1) (h2 : i.bytes = 16) (h : OpB A B e cs r) (hg : A.g.get A.next = none) (hcs : cs.length = n) (hn : n ≤ 4194304) (hm : off + m ≤ n)
  (hw : newC B 1 w = some (m, new)) (hl : new.length = m) (ho : new.all one = true) (hz : z.cells.size = 1) :
  ∃ B' r', semR (.app e i z) [.slice (some ⟨A.next, 0, none⟩) off n, w] B = some (.slice (some ⟨A.next, 0, none⟩) (off + m) n, B') ∧ OpB A B' e (setFrom cs off new) r' := by
 have hs : ∀ x, appIn B (some ⟨A.next, 0, none⟩) i.size off m n new = some x → semR (.app e i z) [.slice (some ⟨A.next, 0, none⟩) off n, w] B = some x := by
  intro x hx
  simp only [semR]
  rw [h1, hw]
  show (if (1 : Nat) ≠ 0 ∧ new.length = m * 1 ∧ (off + m) * i.bytes ≤ 140737488355328 ∧ off + m ≤ 4611686018427387904 ∧ z.cells.size = 1 ∧ new.all one = true then if off + m ≤ n then appIn B _ 1 off m n new else appGrow B e i _ off m new else none) = _
  rw [if_pos ⟨by omega, by omega, by rw [h2]; omega, by omega, hz, ho⟩, if_pos hm, ← h1]
  exact hx
 cases m with
 | zero =>
  have hnil : new = [] := List.length_eq_zero_iff.1 hl
  subst hnil
  exact ⟨B, r, hs _ rfl, h⟩
 | succ m =>
  obtain ⟨B', r', k1, k2⟩ := h.store hg (off := off) (new := new) (by omega) ho
  refine ⟨B', r', hs _ ?_, k2⟩
  unfold appIn
  simp only [addA, h1, Nat.zero_add, Nat.mul_one]
  rw [k1]
theorem app_none {A : Go.AM.St} {i : TypeInfo} {w : Value} {new : List Value} (h1 : i.size = 1) (h2 : i.bytes = 16) (hw : newC A 1 w = some (0, new)) (hl : new.length = 0) (ho : new.all one = true) :
  semR (.app 41 i .nilIface) [.slice none 0 0, w] A = some (.slice none 0 0, A) := by
 simp only [semR]
 rw [h1, hw]
 show (if (1 : Nat) ≠ 0 ∧ new.length = 0 * 1 ∧ (0 + 0) * i.bytes ≤ 140737488355328 ∧ 0 + 0 ≤ 4611686018427387904 ∧ _ ∧ new.all one = true then if 0 + 0 ≤ 0 then appIn A none 1 0 0 0 new else appGrow A 41 i none 0 0 new else none) = _
 rw [if_pos ⟨by omega, by omega, by omega, by omega, rfl, ho⟩]
 rfl
/-- What holds of a slice's stand-in. -/
structure SlP (q : P) (n : Nat) (l : List P) : Prop where
 new : newP 1 q = some (n, l)
 val : ∀ {β : List Nat} {S : Nat → Prop} {h : T AObj} {w : Value}, Rep β S h w q → ∃ b c, w = .slice b n c
theorem SlP.sl (n : Nat) (l : List P) : SlP (.sl 1 n l) n l := ⟨rfl, fun r => by
 cases r with
 | nil => exact ⟨none, 0, rfl⟩
 | sl a _ _ c vs _ _ h3 h4 h5 => exact ⟨some a, c, rfl⟩⟩
theorem SlP.fx (n : Nat) (l : List P) : SlP (.fx 1 n l) n l := ⟨rfl, fun r => by
 cases r with
 | fx a _ _ vs _ _ h3 h4 h5 => exact ⟨some a, n, rfl⟩⟩
theorem SlP.nil (k : Nat) : SlP (.c (.slice none 0 k)) 0 [] := ⟨rfl, fun r => by
 cases r
 exact ⟨none, k, rfl⟩⟩
section
variable {E : Env} {gl : List GRow} {cfg : Cfg} {fuel : Nat}
theorem concat_ok (hE : SxEnv E) {inf : Nat → TypeInfo} (h27 : sxFn E cfg fuel 27 1 = some (t27 inf)) (hi1 : (inf 41).size = 1) (hi2 : (inf 41).bytes = 16) {q1 q2 : P} {n1 n2 : Nat} {l1 l2 : List P} (hs1 : SlP q1 n1 l1) (hs2 : SlP q2 n2 l2) (hn1 : n1 ≤ 2097152) (hn2 : n2 ≤ 2097152) (μ : Mu) :
  PR E gl 27 [.fx 1 2 [q1, q2]] μ (.ow 41 1 (n1 + n2) (l1 ++ l2)) μ := by
 intro A β S vs gs gm R
 obtain ⟨v, rfl, hr, rfl⟩ : ∃ v, vs = [v] ∧ Rep β S A.h v (.fx 1 2 [q1, q2]) ∧ gs = [] := by
  have r := R.vars
  cases r with
  | cons v p g vs ps gs hr hn =>
   cases hn
   obtain ⟨h1, rfl⟩ := hr
   exact ⟨v, rfl, h1, rfl⟩
 obtain ⟨a, w1, w2, rfl, haS, hRd, hr1, hr2⟩ : ∃ a w1 w2, v = .slice (some a) 2 2 ∧ S a.block ∧ Rdc A.h 1 a [w1, w2] ∧ Rep β S A.h w1 q1 ∧ Rep β S A.h w2 q2 := by
  cases hr with
  | fx a _ _ vs _ h1 h2 _ h5 =>
   cases h5 with
   | cons w1 _ vs _ k1 h5 => cases h5 with
    | cons w2 _ vs _ k2 h5 =>
     cases h5
     exact ⟨a, w1, w2, rfl, h1, h2.rdc 1, k1, k2⟩
 have R0 : RS gl A β S noF [] [] [] μ gm := R.setVars .nil ⟨[], List.Perm.refl _⟩
 obtain ⟨b1, c1, rfl⟩ := hs1.val hr1
 obtain ⟨b2, c2, rfl⟩ := hs2.val hr2
 have hq1 := hs1.new
 have hq2 := hs2.new
 have hg0 : A.g.get A.next = none := R.ginv _ (Nat.le_refl _)
 have hSA : ∀ {r : Row} {cs : List Value} (B : Go.AM.St), OpB A B 41 cs r → ∀ b, S b → B.h.get b = A.h.get b := fun B o b hb => o.oth b fun e => absurd (R.S_lt b hb) (by omega)
 suffices h : ∃ v B, Runs E 27 [.slice (some a) 2 2] A v B ∧ ∃ S' gs', Ext μ.length A β S noF [] gm B β S' gs' gm ∧ RS gl B β S' noF [v] [.ow 41 1 (n1 + n2) (l1 ++ l2)] gs' μ gm by
  obtain ⟨v, B, h1, S', gs', h2, h3⟩ := h
  exact ⟨v, B, β, S', gs', gm, h1, h2, h3⟩
 refine fn_ok hE (vs := [.slice (some a) 2 2]) h27 (A := A) (Q := fun v B => ∃ S' gs', Ext μ.length A β S noF [] gm B β S' gs' gm ∧ RS gl B β S' noF [v] [.ow 41 1 (n1 + n2) (l1 ++ l2)] gs' μ gm) ?_
 unfold t27
 refine wp_op (v := goInt 2) (A' := A) (rfl) ?_
 try dsimp only [List.cons_append, List.nil_append]
 refine ⟨3, ?_⟩
 try dsimp only [denL, List.map, X.den, At.den, vv, vn, SX.look, List.cons_append, List.nil_append]
 rw [LoopN_succ]
 try dsimp only [List.cons_append, List.nil_append]
 refine wp_op (v := .bool true) (A' := A) (rfl) ?_
 try dsimp only [List.cons_append, List.nil_append]
 refine wp_true rfl ?_
 refine wp_op (v := .pointer (some (addA a 0))) (A' := A) (rfl) ?_
 try dsimp only [List.cons_append, List.nil_append]
 refine wp_op (v := .slice b1 n1 c1) (A' := A) (load_at (hRd.at rfl (i := 0) rfl)) ?_
 try dsimp only [List.cons_append, List.nil_append]
 refine wp_op (v := goInt (n1 : Nat)) (A' := A) (rfl) ?_
 try dsimp only [List.cons_append, List.nil_append]
 refine wp_op (v := goInt ((0 + n1 : Nat) : Int)) (A' := A) (add_nat (a := 0) (b := n1) (by omega)) ?_
 try dsimp only [List.cons_append, List.nil_append]
 refine wp_op (v := .bool false) (A' := A) (lt_zero) ?_
 try dsimp only [List.cons_append, List.nil_append]
 refine wp_false rfl ?_
 refine wp_op (v := goInt ((0+1 : Nat) : Int)) (A' := A) (add_nat (a := 0) (b := 1) (by omega)) ?_
 try dsimp only [List.cons_append, List.nil_append]
 refine wp_fin ?_
 try dsimp only [denL, List.map, X.den, At.den, vv, vn, SX.look, List.cons_append, List.nil_append]
 rw [LoopN_succ]
 try dsimp only [List.cons_append, List.nil_append]
 refine wp_op (v := .bool true) (A' := A) (rfl) ?_
 try dsimp only [List.cons_append, List.nil_append]
 refine wp_true rfl ?_
 refine wp_op (v := .pointer (some (addA a 1))) (A' := A) (rfl) ?_
 try dsimp only [List.cons_append, List.nil_append]
 refine wp_op (v := .slice b2 n2 c2) (A' := A) (load_at (hRd.at rfl (i := 1) rfl)) ?_
 try dsimp only [List.cons_append, List.nil_append]
 refine wp_op (v := goInt (n2 : Nat)) (A' := A) (rfl) ?_
 try dsimp only [List.cons_append, List.nil_append]
 refine wp_op (v := goInt ((0 + n1 + n2 : Nat) : Int)) (A' := A) (add_nat (a := 0 + n1) (b := n2) (by omega)) ?_
 try dsimp only [List.cons_append, List.nil_append]
 refine wp_op (v := .bool false) (A' := A) (lt_zero) ?_
 try dsimp only [List.cons_append, List.nil_append]
 refine wp_false rfl ?_
 refine wp_op (v := goInt ((1+1 : Nat) : Int)) (A' := A) (add_nat (a := 1) (b := 1) (by omega)) ?_
 try dsimp only [List.cons_append, List.nil_append]
 refine wp_fin ?_
 try dsimp only [denL, List.map, X.den, At.den, vv, vn, SX.look, List.cons_append, List.nil_append]
 rw [LoopN_succ]
 try dsimp only [List.cons_append, List.nil_append]
 refine wp_op (v := .bool false) (A' := A) (rfl) ?_
 try dsimp only [List.cons_append, List.nil_append]
 refine wp_false rfl ?_
 refine wp_fin ?_
 try dsimp only [denL, List.map, X.den, At.den, vv, vn, SX.look, List.cons_append, List.nil_append]
 refine ⟨fun _ => ?_, fun h => absurd rfl h⟩
 refine wp_op (v := .bool false) (A' := A) (lt_zero) ?_
 try dsimp only [List.cons_append, List.nil_append]
 refine wp_false rfl ?_
 refine wp_op (v := goInt ((0 : Nat) : Int)) (A' := A) (rfl) ?_
 try dsimp only [List.cons_append, List.nil_append]
 refine wp_op (v := goInt ((0 : Nat) : Int)) (A' := A) (rfl) ?_
 try dsimp only [List.cons_append, List.nil_append]
 refine wp_op (v := goInt ((0 + n1 + n2 : Nat) : Int)) (A' := A) (sub_zero (by omega)) ?_
 try dsimp only [List.cons_append, List.nil_append]
 refine wp_op (v := .bool (decide ((0 : Int) < ((0 + n1 + n2 : Nat) : Int)))) (A' := A) (rfl) ?_
 try dsimp only [List.cons_append, List.nil_append]
 by_cases hz : 0 < n1 + n2
 ·refine wp_true (congrArg Value.bool (decide_eq_true (by omega))) ?_
  refine wp_op (v := goInt ((0 : Nat) : Int)) (A' := A) (rfl) ?_
  try dsimp only [List.cons_append, List.nil_append]
  refine wp_op (v := .slice none 0 0) (A' := A) (rfl) ?_
  try dsimp only [List.cons_append, List.nil_append]
  refine wp_op (v := .slice (some ⟨A.next, 0, none⟩) (0 + n1 + n2) (0 + n1 + n2)) (A' := (appNew A 41 1 (0 + n1 + n2) (zeros [.nilIface] (0 + n1 + n2))).2) (appZ_new hi1 hi2 (by omega) (by omega)) ?_
  try dsimp only [List.cons_append, List.nil_append]
  obtain ⟨r0, o0⟩ := OpB.new A 41 (zeros [.nilIface] (0 + n1 + n2)) (0 + n1 + n2) (zeros_one _ rfl _).2
  generalize (appNew A 41 1 (0 + n1 + n2) (zeros [.nilIface] (0 + n1 + n2))).2 = B0 at o0 ⊢
  refine wp_op (v := .slice (some ⟨A.next, 0, none⟩) 0 (0 + n1 + n2)) (A' := B0) (sub_open o0) ?_
  try dsimp only [List.cons_append, List.nil_append]
  refine wp_op (v := goInt 2) (A' := B0) (rfl) ?_
  try dsimp only [List.cons_append, List.nil_append]
  refine ⟨3, ?_⟩
  try dsimp only [denL, List.map, X.den, At.den, vv, vn, SX.look, List.cons_append, List.nil_append]
  rw [LoopN_succ]
  try dsimp only [List.cons_append, List.nil_append]
  refine wp_op (v := .bool true) (A' := B0) (rfl) ?_
  try dsimp only [List.cons_append, List.nil_append]
  refine wp_true rfl ?_
  refine wp_op (v := .pointer (some (addA a 0))) (A' := B0) (rfl) ?_
  try dsimp only [List.cons_append, List.nil_append]
  refine wp_op (v := .slice b1 n1 c1) (A' := B0) (load_at (hRd.at (hSA B0 o0 a.block haS) (i := 0) rfl)) ?_
  try dsimp only [List.cons_append, List.nil_append]
  obtain ⟨m1, e1, k1, s1, a1⟩ := newC_ok (A := B0) rfl (hr1.mono (S' := S) (β' := β) (fun _ h => h) (hSA B0 o0) (fun _ _ h => h)) hq1
  obtain ⟨B1, r1, x1, o1⟩ := app_in (w := .slice b1 n1 c1) (z := .nilIface) hi1 hi2 o0 hg0 (n := 0 + n1 + n2) (by exact (zeros_one _ rfl _).1) (by omega) (off := 0) (m := n1) (by omega) e1 (by omega) a1 rfl
  refine wp_op (v := .slice (some ⟨A.next, 0, none⟩) (0 + n1) (0 + n1 + n2)) (A' := B1) (x1) ?_
  try dsimp only [List.cons_append, List.nil_append]
  refine wp_op (v := goInt ((0+1 : Nat) : Int)) (A' := B1) (add_nat (a := 0) (b := 1) (by omega)) ?_
  try dsimp only [List.cons_append, List.nil_append]
  refine wp_fin ?_
  try dsimp only [denL, List.map, X.den, At.den, vv, vn, SX.look, List.cons_append, List.nil_append]
  rw [LoopN_succ]
  try dsimp only [List.cons_append, List.nil_append]
  refine wp_op (v := .bool true) (A' := B1) (rfl) ?_
  try dsimp only [List.cons_append, List.nil_append]
  refine wp_true rfl ?_
  refine wp_op (v := .pointer (some (addA a 1))) (A' := B1) (rfl) ?_
  try dsimp only [List.cons_append, List.nil_append]
  refine wp_op (v := .slice b2 n2 c2) (A' := B1) (load_at (hRd.at (hSA B1 o1 a.block haS) (i := 1) rfl)) ?_
  try dsimp only [List.cons_append, List.nil_append]
  obtain ⟨m2, e2, k2, s2, a2⟩ := newC_ok (A := B1) rfl (hr2.mono (S' := S) (β' := β) (fun _ h => h) (hSA B1 o1) (fun _ _ h => h)) hq2
  obtain ⟨B2, r2, x2, o2⟩ := app_in (w := .slice b2 n2 c2) (z := .nilIface) hi1 hi2 o1 hg0 (n := 0 + n1 + n2) (by rw [setFrom_length]; exact (zeros_one _ rfl _).1) (by omega) (off := 0 + n1) (m := n2) (by omega) e2 (by omega) a2 rfl
  refine wp_op (v := .slice (some ⟨A.next, 0, none⟩) (0 + n1 + n2) (0 + n1 + n2)) (A' := B2) (x2) ?_
  try dsimp only [List.cons_append, List.nil_append]
  refine wp_op (v := goInt ((1+1 : Nat) : Int)) (A' := B2) (add_nat (a := 1) (b := 1) (by omega)) ?_
  try dsimp only [List.cons_append, List.nil_append]
  refine wp_fin ?_
  try dsimp only [denL, List.map, X.den, At.den, vv, vn, SX.look, List.cons_append, List.nil_append]
  rw [LoopN_succ]
  try dsimp only [List.cons_append, List.nil_append]
  refine wp_op (v := .bool false) (A' := B2) (rfl) ?_
  try dsimp only [List.cons_append, List.nil_append]
  refine wp_false rfl ?_
  refine wp_fin ?_
  try dsimp only [denL, List.map, X.den, At.den, vv, vn, SX.look, List.cons_append, List.nil_append]
  refine ⟨fun _ => ?_, fun h => absurd rfl h⟩
  refine wp_fin ?_
  intro v hv
  cases hv
  have hcs : setFrom (setFrom (zeros [.nilIface] (0 + n1 + n2)) 0 m1) (0 + n1) m2 = m1 ++ m2 := by
   have h1 : m1.length = n1 := by omega
   have h0 : (zeros [Value.nilIface] (0 + n1 + n2)).length = 0 + n1 + n2 := (zeros_one _ rfl _).1
   have := set_two (zs := zeros [.nilIface] (0 + n1 + n2)) (vs := m1) (ws := m2) (by omega)
   rw [h1] at this
   rw [Nat.zero_add]
   rw [Nat.zero_add] at this
   exact this
  rw [hcs] at o2
  have kk : RepL β (orB S A.next) B2.h (m1 ++ m2) (l1 ++ l2) := by
   exact RepL.append (k1.mono (S' := orB S A.next) (β' := β) (fun _ h => .inl h) (fun b hb => (hSA B2 o2 b hb).trans (hSA B0 o0 b hb).symm) (fun _ _ h => h)) (k2.mono (S' := orB S A.next) (β' := β) (fun _ h => .inl h) (fun b hb => (hSA B2 o2 b hb).trans (hSA B1 o1 b hb).symm) (fun _ _ h => h))
  have hfin := RS.newOwH (B := B2) (m := μ.length) (k := r2.grp) (v := .slice (some ⟨A.next, 0, none⟩) (n1 + n2) (n1 + n2)) (e := 41) (sz := 1) (n := n1 + n2) (l := l1 ++ l2) (d := []) R0 .nil (List.Perm.refl _) o2.oth o2.nx (fun j _ => by rw [o2.g]) (.inr o2.grp)
   (.ow _ r2 41 1 (n1 + n2) (m1 ++ m2) _ o2.elem o2.esz (.inr rfl) o2.at_ o2.own o2.opn o2.size (by rw [o2.frz]; exact Nat.zero_le _) o2.ones o2.cells (by rw [List.length_append]; omega) kk (by rw [o2.grp, o2.nx]; omega) (.inl (by rw [o2.grp, o2.g]; exact hg0)))
  refine ⟨_, _, hfin.2, ?_⟩
  show RS gl B2 β (orB S A.next) noF [.slice (some ⟨A.next, 0, none⟩) (0 + n1 + n2) (0 + n1 + n2)] [.ow 41 1 (n1 + n2) (l1 ++ l2)] ([] ++ [r2.grp]) μ gm
  rw [Nat.zero_add]
  exact hfin.1
 ·have hz1 : n1 = 0 := by omega
  have hz2 : n2 = 0 := by omega
  subst hz1
  subst hz2
  refine wp_false (congrArg Value.bool (decide_eq_false (by omega))) ?_
  refine wp_op (v := goInt 2) (A' := A) (rfl) ?_
  try dsimp only [List.cons_append, List.nil_append]
  refine ⟨3, ?_⟩
  try dsimp only [denL, List.map, X.den, At.den, vv, vn, SX.look, List.cons_append, List.nil_append]
  obtain ⟨m1, e1, k1, s1, a1⟩ := newC_ok (A := A) rfl hr1 hq1
  obtain ⟨m2, e2, k2, s2, a2⟩ := newC_ok (A := A) rfl hr2 hq2
  rw [LoopN_succ]
  try dsimp only [List.cons_append, List.nil_append]
  refine wp_op (v := .bool true) (A' := A) (rfl) ?_
  try dsimp only [List.cons_append, List.nil_append]
  refine wp_true rfl ?_
  refine wp_op (v := .pointer (some (addA a 0))) (A' := A) (rfl) ?_
  try dsimp only [List.cons_append, List.nil_append]
  refine wp_op (v := .slice b1 0 c1) (A' := A) (load_at (hRd.at rfl (i := 0) rfl)) ?_
  try dsimp only [List.cons_append, List.nil_append]
  refine wp_op (v := .slice none 0 0) (A' := A) (app_none hi1 hi2 e1 (by omega) a1) ?_
  try dsimp only [List.cons_append, List.nil_append]
  refine wp_op (v := goInt ((0+1 : Nat) : Int)) (A' := A) (add_nat (a := 0) (b := 1) (by omega)) ?_
  try dsimp only [List.cons_append, List.nil_append]
  refine wp_fin ?_
  try dsimp only [denL, List.map, X.den, At.den, vv, vn, SX.look, List.cons_append, List.nil_append]
  rw [LoopN_succ]
  try dsimp only [List.cons_append, List.nil_append]
  refine wp_op (v := .bool true) (A' := A) (rfl) ?_
  try dsimp only [List.cons_append, List.nil_append]
  refine wp_true rfl ?_
  refine wp_op (v := .pointer (some (addA a 1))) (A' := A) (rfl) ?_
  try dsimp only [List.cons_append, List.nil_append]
  refine wp_op (v := .slice b2 0 c2) (A' := A) (load_at (hRd.at rfl (i := 1) rfl)) ?_
  try dsimp only [List.cons_append, List.nil_append]
  refine wp_op (v := .slice none 0 0) (A' := A) (app_none hi1 hi2 e2 (by omega) a2) ?_
  try dsimp only [List.cons_append, List.nil_append]
  refine wp_op (v := goInt ((1+1 : Nat) : Int)) (A' := A) (add_nat (a := 1) (b := 1) (by omega)) ?_
  try dsimp only [List.cons_append, List.nil_append]
  refine wp_fin ?_
  try dsimp only [denL, List.map, X.den, At.den, vv, vn, SX.look, List.cons_append, List.nil_append]
  rw [LoopN_succ]
  try dsimp only [List.cons_append, List.nil_append]
  refine wp_op (v := .bool false) (A' := A) (rfl) ?_
  try dsimp only [List.cons_append, List.nil_append]
  refine wp_false rfl ?_
  refine wp_fin ?_
  try dsimp only [denL, List.map, X.den, At.den, vv, vn, SX.look, List.cons_append, List.nil_append]
  refine ⟨fun _ => ?_, fun h => absurd rfl h⟩
  refine wp_fin ?_
  intro v hv
  cases hv
  have hn1' : l1 = [] := List.length_eq_zero_iff.1 (by have := k1.length; omega)
  have hn2' : l2 = [] := List.length_eq_zero_iff.1 (by have := k2.length; omega)
  subst hn1'
  subst hn2'
  refine ⟨S, [], Ext.refl _ _ _ _ _ _ _ (fun _ h => h), R.setVars (RepO.one (.nil 41 1)) ⟨[], List.Perm.refl _⟩⟩
end
end Go.AM.PV
