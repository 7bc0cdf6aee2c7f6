/- Merging several ascending lists of records by a tree of losers; plain. -/
import Derived.Test.YtifjihpnhmemgaaTreeR
import Derived.Test.YtifjihpnhmemgaaRecV
namespace Go.Proofs.Ytifjihpnhmemgaa
open Go.RowKit
set_option linter.unusedVariables false
abbrev Recs := List (Int × Int)
def lnR (L : List Recs) (i : Nat) : Nat := (L[i]?.getD []).length
def rcR (L : List Recs) (i j : Nat) : Int × Int := (L[i]?.getD [])[j]?.getD (0, 0)
def nxA (nx : List Nat) (i : Nat) : Nat := nx[i]?.getD 0
def dB (L : List Recs) (nx : List Nat) (i : Nat) : Bool := decide (nxA nx i = lnR L i)
def kB (L : List Recs) (nx : List Nat) (i : Nat) : Int := if dB L nx i then 0 else (rcR L i (nxA nx i)).1
def DN (L : List Recs) (nx : List Nat) : List Bool := (List.range L.length).map (dB L nx)
def KY (L : List Recs) (nx : List Nat) : List Int := (List.range L.length).map (kB L nx)
def totR (L : List Recs) : Nat := (L.map List.length).sum
def winR (L : List Recs) (nx : List Nat) : Nat := winnerV (KY L nx) (DN L nx)
def stp (nx : List Nat) (w : Nat) : List Nat := nx.set w (nxA nx w + 1)
def kwF (L : List Recs) : Nat → List Nat → Recs → Nat → Recs × Nat
  | 0, _, out, cnt => (out, cnt)
  | f + 1, nx, out, cnt => if dB L nx (winR L nx) then (out, cnt) else kwF L f (stp nx (winR L nx)) (out ++ [rcR L (winR L nx) (nxA nx (winR L nx))]) (cnt + plen ((L.length + winR L nx) / 2))
@[simp] theorem DN_len (L : List Recs) (nx : List Nat) : (DN L nx).length = L.length := by simp [DN]
@[simp] theorem KY_len (L : List Recs) (nx : List Nat) : (KY L nx).length = L.length := by simp [KY]
theorem DN_get {L : List Recs} {nx : List Nat} {i : Nat} (h : i < L.length) : (DN L nx)[i]'(by simpa using h) = dB L nx i := by simp [DN]
theorem KY_get {L : List Recs} {nx : List Nat} {i : Nat} (h : i < L.length) : (KY L nx)[i]'(by simpa using h) = kB L nx i := by simp [KY]
theorem winR_lt {L : List Recs} {nx : List Nat} (h : 1 ≤ L.length) : winR L nx < L.length := by
  have := winnerV_lt (ks := KY L nx) (ds := DN L nx) (by simpa using h)
  simpa [winR] using this
theorem nxA_at {nx : List Nat} {i : Nat} (h : i < nx.length) : nxA nx i = nx[i] := by simp [nxA, h]
theorem nxA_stp {nx : List Nat} {w : Nat} (h : w < nx.length) : nxA (stp nx w) w = nxA nx w + 1 := by simp [nxA, stp, h]
theorem nxA_ne {nx : List Nat} {w i v : Nat} (h : i ≠ w) : nxA (nx.set w v) i = nxA nx i := by
  unfold nxA
  rw [List.getElem?_set_ne (fun e => h e.symm)]
theorem dB_ne {L : List Recs} {nx : List Nat} {w i v : Nat} (h : i ≠ w) : dB L (nx.set w v) i = dB L nx i := by unfold dB; rw [nxA_ne h]
theorem kB_ne {L : List Recs} {nx : List Nat} {w i v : Nat} (h : i ≠ w) : kB L (nx.set w v) i = kB L nx i := by unfold kB; rw [dB_ne h, nxA_ne h]
theorem DN_stp {L : List Recs} {nx : List Nat} {w : Nat} : DN L (stp nx w) = (DN L nx).set w (dB L (stp nx w) w) := by
  refine List.ext_getElem (by simp) fun i h1 h2 => ?_
  have hi : i < L.length := by simpa using h1
  rw [List.getElem_set, DN_get hi]
  split
  · rename_i e; rw [e]
  · rename_i e; rw [DN_get hi]; exact dB_ne (fun h => e h.symm)
theorem KY_stp {L : List Recs} {nx : List Nat} {w : Nat} : KY L (stp nx w) = (KY L nx).set w (kB L (stp nx w) w) := by
  refine List.ext_getElem (by simp) fun i h1 h2 => ?_
  have hi : i < L.length := by simpa using h1
  rw [List.getElem_set, KY_get hi]
  split
  · rename_i e; rw [e]
  · rename_i e; rw [KY_get hi]; exact kB_ne (fun h => e h.symm)
/-- the places are within the lists -/
structure NI (L : List Recs) (nx : List Nat) : Prop where
  len : nx.length = L.length
  le : ∀ i, i < L.length → nxA nx i ≤ lnR L i
theorem sum_le_sum : ∀ (a b : List Nat), a.length = b.length → (∀ i, i < a.length → a[i]?.getD 0 ≤ b[i]?.getD 0) → a.sum ≤ b.sum
  | [], [], _, _ => by simp
  | x :: a, y :: b, hl, h => by
    have h0 := h 0 (by simp)
    have h1 := sum_le_sum a b (by simpa using hl) (fun i hi => by have := h (i + 1) (by simpa using hi); simpa using this)
    simp at h0
    simp only [List.sum_cons]
    omega
  | [], y :: b, hl, _ => by simp at hl
  | x :: a, [], hl, _ => by simp at hl
theorem NI.sum {L : List Recs} {nx : List Nat} (h : NI L nx) : nx.sum ≤ totR L := by
  refine sum_le_sum _ _ (by simp [h.len]) fun i hi => ?_
  have h1 := h.le i (by rw [← h.len]; exact hi)
  have hi' : i < L.length := by rw [← h.len]; exact hi
  simpa [nxA, lnR, hi'] using h1
theorem sum_set : ∀ (a : List Nat) (w v : Nat), w < a.length → (a.set w v).sum + (a[w]?.getD 0) = a.sum + v
  | [], w, v, h => by simp at h
  | x :: a, 0, v, _ => by simp; omega
  | x :: a, w + 1, v, h => by
    have := sum_set a w v (by simpa using h)
    simp only [List.set_cons_succ, List.sum_cons, List.getElem?_cons_succ]
    omega
theorem stp_sum {nx : List Nat} {w : Nat} (h : w < nx.length) : (stp nx w).sum = nx.sum + 1 := by
  have := sum_set nx w (nxA nx w + 1) h
  unfold stp
  unfold nxA at this ⊢
  omega
theorem NI.stp {L : List Recs} {nx : List Nat} {w : Nat} (h : NI L nx) (hw : w < L.length) (hd : dB L nx w = false) : NI L (stp nx w) := by
  refine ⟨by simp [Proofs.Ytifjihpnhmemgaa.stp, h.len], fun i hi => ?_⟩
  by_cases e : i = w
  · subst e
    rw [nxA_stp (by rw [h.len]; exact hw)]
    have h1 := h.le i hi
    unfold dB at hd
    simp only [decide_eq_false_iff_not] at hd
    omega
  · unfold Proofs.Ytifjihpnhmemgaa.stp
    rw [nxA_ne e]
    exact h.le i hi
theorem NI.lt {L : List Recs} {nx : List Nat} {w : Nat} (h : NI L nx) (hw : w < L.length) (hd : dB L nx w = false) : nxA nx w < lnR L w := by
  have h1 := h.le w hw
  unfold dB at hd
  simp only [decide_eq_false_iff_not] at hd
  omega
theorem NI.zero (L : List Recs) : NI L (List.replicate L.length 0) := by
  refine ⟨by simp, fun i hi => ?_⟩
  simp [nxA, hi]
/-- the merge -/
def kwR (L : List Recs) : Recs × Nat := kwF L 65 (List.replicate L.length 0) [] (L.length - 1)
theorem kwF_done {L : List Recs} {nx : List Nat} {f : Nat} {out : Recs} {cnt : Nat} (h : dB L nx (winR L nx) = true) : kwF L (f + 1) nx out cnt = (out, cnt) := by rw [kwF, if_pos h]
theorem kwF_step {L : List Recs} {nx : List Nat} {f : Nat} {out : Recs} {cnt : Nat} (h : dB L nx (winR L nx) = false) :
    kwF L (f + 1) nx out cnt = kwF L f (stp nx (winR L nx)) (out ++ [rcR L (winR L nx) (nxA nx (winR L nx))]) (cnt + plen ((L.length + winR L nx) / 2)) := by rw [kwF, if_neg (by rw [h]; simp)]
/-- a state of the merge -/
structure KI (L : List Recs) (f : Nat) (nx : List Nat) (out : Recs) (cnt : Nat) : Prop where
  ni : NI L nx
  fu : f + nx.sum = 65
  ol : out.length = nx.sum
  cl : cnt ≤ 16 + 16 * nx.sum
  eq : kwF L f nx out cnt = kwR L
theorem KI.start {L : List Recs} (h : L.length ≤ 16) : KI L 65 (List.replicate L.length 0) [] (L.length - 1) :=
  ⟨NI.zero L, by simp, by simp, by omega, rfl⟩
theorem KI.pos {L : List Recs} {f : Nat} {nx : List Nat} {out : Recs} {cnt : Nat} (h : KI L f nx out cnt) (ht : totR L ≤ 64) : 1 ≤ f ∧ nx.sum ≤ 64 := by
  have := h.ni.sum
  have := h.fu
  omega
theorem KI.step {L : List Recs} {f : Nat} {nx : List Nat} {out : Recs} {cnt : Nat} (h : KI L (f + 1) nx out cnt) (h1 : 1 ≤ L.length) (h16 : L.length ≤ 16) (hd : dB L nx (winR L nx) = false) :
    KI L f (stp nx (winR L nx)) (out ++ [rcR L (winR L nx) (nxA nx (winR L nx))]) (cnt + plen ((L.length + winR L nx) / 2)) := by
  have hw := winR_lt (nx := nx) h1
  have hs := stp_sum (nx := nx) (w := winR L nx) (by rw [h.ni.len]; exact hw)
  have hp := plen_le _ ((L.length + winR L nx) / 2) (Nat.le_refl _)
  refine ⟨h.ni.stp hw hd, by have := h.fu; omega, by rw [List.length_append, h.ol, hs]; rfl, by have := h.cl; omega, ?_⟩
  rw [← kwF_step hd]
  exact h.eq
theorem KI.fin {L : List Recs} {f : Nat} {nx : List Nat} {out : Recs} {cnt : Nat} (h : KI L (f + 1) nx out cnt) (hd : dB L nx (winR L nx) = true) : kwR L = (out, cnt) := by
  rw [← h.eq, kwF_done hd]
/-- what may be merged -/
def ksOk (L : List Recs) : Bool := L.all (fun l => rsOk l && ascB l) && decide (totR L ≤ 64)
def kOk (L : List Recs) : Bool := inB (L.length : Int) 1 16 && ksOk L
def kmO (L : List Recs) : Recs := if kOk L then (kwR L).1 else []
def kmN (L : List Recs) : Nat := if kOk L then (kwR L).2 else 0
end Go.Proofs.Ytifjihpnhmemgaa
