/- Permutations out of their inversion tables: the plain part. -/
import Derived.Test.YtcecdodagmdnkaaInvM
import Derived.Test.YtcecdodagmdnkaaPush
namespace Go.Proofs.Ytcecdodagmdnkaa
open Go.RowKit
set_option linter.unusedVariables false
/-- taking the elements out of the rest, one by one -/
def fitGo : List Int → List Int → List Int → Option (List Int)
  | rest, out, [] => some out
  | rest, out, k :: t => if inB k 0 ((rest.length : Int) - 1) then fitGo (rest.eraseIdx k.toNat) (out ++ [rest[k.toNat]?.getD 0]) t else none
def upTo (n : Nat) : List Int := (List.range n).map fun i : Nat => (i : Int)
theorem upTo_len (n : Nat) : (upTo n).length = n := by simp [upTo]
theorem upTo_succ (n : Nat) : upTo (n + 1) = upTo n ++ [(n : Int)] := by simp [upTo, List.range_succ]
def fitR (t : List Int) : Option (List Int) := if t.length ≤ 64 then fitGo (upTo t.length) [] t else none
def fitV (t : List Int) : List Int := (fitR t).getD []
def fitOk (t : List Int) : Bool := (fitR t).isSome
theorem fit_step {rs zs t : List Int} {k : Nat} (hk : k < t.length) {x : Nat} (hx : t[k] = (x : Int)) (hxl : x < rs.length) : fitGo rs zs (t.drop k) = fitGo (rs.eraseIdx x) (zs ++ [rs[x]]) (t.drop (k + 1)) := by
  rw [List.drop_eq_getElem_cons hk, fitGo, hx, if_pos (inB_iff.2 ⟨by omega, by omega⟩)]
  simp [hxl]
theorem fit_stop {rs zs t : List Int} {k : Nat} (hk : k < t.length) (hx : inB t[k] 0 ((rs.length : Int) - 1) = false) : fitGo rs zs (t.drop k) = none := by
  rw [List.drop_eq_getElem_cons hk, fitGo, hx]; rfl
theorem fit_end {rs zs t : List Int} {k : Nat} (hk : t.length ≤ k) : fitGo rs zs (t.drop k) = some zs := by
  rw [List.drop_eq_nil_of_le hk, fitGo]
theorem fitGo_len : ∀ (t rs zs : List Int) (o : List Int), fitGo rs zs t = some o → o.length = zs.length + t.length := by
  intro t
  induction t with
  | nil => intro rs zs o h; rw [fitGo] at h; rw [← Option.some.inj h]; rfl
  | cons k t ih =>
    intro rs zs o h
    rw [fitGo] at h
    split at h
    · have := ih _ _ _ h; simp at this ⊢; omega
    · cases h
theorem fitV_len (t : List Int) : (fitV t).length ≤ 64 := by
  unfold fitV fitR
  split
  · cases h : fitGo (upTo t.length) [] t with
    | none => simp
    | some o => have := fitGo_len _ _ _ _ h; simp at this ⊢; omega
  · simp
/-- the place of an element among the ascending -/
theorem asc_place : ∀ (r : List Int) (x : Int), r.Pairwise (· < ·) → x ∈ r → r[r.countP fun y => decide (y < x)]? = some x := by
  intro r
  induction r with
  | nil => intro x _ h; cases h
  | cons a r ih =>
    intro x hp hx
    rw [List.pairwise_cons] at hp
    rcases List.mem_cons.1 hx with rfl | h
    · have : (x :: r).countP (fun y => decide (y < x)) = 0 := by
        rw [List.countP_eq_zero]
        intro y hy
        rcases List.mem_cons.1 hy with rfl | hy
        · simp
        · have := hp.1 y hy; simp; omega
      rw [this]; rfl
    · have ha := hp.1 x h
      have : (a :: r).countP (fun y => decide (y < x)) = r.countP (fun y => decide (y < x)) + 1 := by rw [List.countP_cons_of_pos]; simpa using ha
      rw [this, List.getElem?_cons_succ]
      exact ih x hp.2 h
/-- the table, front to back -/
def tabR : List Int → List Int
  | [] => []
  | x :: q => (q.countP (fun y => decide (y < x)) : Nat) :: tabR q
theorem lessAt_cons (x : Int) (q : List Int) (i : Nat) : lessAt (x :: q) (i + 1) = lessAt q i := by simp [lessAt]
theorem invTab_tab : ∀ p : List Int, invTab p = tabR p := by
  intro p
  induction p with
  | nil => rfl
  | cons x q ih =>
    rw [tabR, ← ih, invTab, List.length_cons, List.range_succ_eq_map, List.map_cons, List.map_map]
    congr 1
theorem erase_perm {l : List Int} {i : Nat} (h : i < l.length) : l.Perm (l[i] :: l.eraseIdx i) := by
  rw [List.eraseIdx_eq_take_drop_succ]
  have h3 := List.perm_middle (a := l[i]) (l₁ := l.take i) (l₂ := l.drop (i + 1))
  rwa [← List.drop_eq_getElem_cons h, List.take_append_drop] at h3
theorem fit_inv : ∀ (q rs zs : List Int), rs.Pairwise (· < ·) → rs.Perm q → fitGo rs zs (tabR q) = some (zs ++ q) := by
  intro q
  induction q with
  | nil => intro rs zs _ hp; rw [tabR, fitGo]; simp
  | cons x q ih =>
    intro rs zs hs hp
    have hx : x ∈ rs := hp.mem_iff.2 (by simp)
    have hc : rs.countP (fun y => decide (y < x)) = q.countP (fun y => decide (y < x)) := by
      rw [hp.countP_eq, List.countP_cons_of_neg]; simp
    have hpl := asc_place rs x hs hx
    rw [hc] at hpl
    have hlt := (List.getElem?_eq_some_iff.1 hpl).1
    have hgx := (List.getElem?_eq_some_iff.1 hpl).2
    rw [tabR, fitGo, if_pos (inB_iff.2 ⟨by omega, by omega⟩)]
    simp only [Int.toNat_natCast, hpl, Option.getD_some]
    have hperm : (rs.eraseIdx (q.countP fun y => decide (y < x))).Perm q := by
      have h2 := erase_perm (l := rs) hlt
      simp only [hgx] at h2
      exact (List.perm_cons x).1 (h2.symm.trans hp)
    rw [ih _ _ (hs.sublist (List.eraseIdx_sublist _ _)) hperm]
    simp
/-- the table of a permutation tells the permutation -/
theorem fit_back {p : List Int} {n : Nat} (hn : n ≤ 64) (h : p.Perm (upTo n)) : fitR (invTab p) = some p := by
  have hl : p.length = n := by rw [h.length_eq, upTo_len]
  rw [fitR, invTab_len, if_pos (by omega), invTab_tab, hl]
  refine (fit_inv p (upTo n) [] ?_ h.symm).trans (by simp)
  unfold upTo
  rw [List.pairwise_map]
  exact List.pairwise_lt_range.imp (fun h => by omega)
theorem reads_offF {w : World} {base g N c k : Nat} {zs : List Int} (h : w.ownsRow base 3 1 (.slice (some ⟨g, 0, none⟩) N c) N (ints zs)) (hk : k ≤ N) :
    Reads w w.heap.size 1 (some ⟨g, k, none⟩) (N - k) (ints (zs.drop k)) := by
  have hzl : zs.length = N := by have := h.1; simpa [ints] using this
  refine ⟨by simp [ints, hzl], fun _ => ⟨⟨g, k, none⟩, rfl, (own_lt h g rfl).2, fun i u hu => ?_⟩⟩
  have hi : k + i < N := by
    have := (List.getElem?_eq_some_iff.1 hu).1
    simp [ints] at this; omega
  rw [Addr.add_lit, h.cellAt (k + i) (by omega)]
  simp [ints] at hu ⊢
  exact hu
theorem reads_noneF {w : World} {base g N c : Nat} {zs : List Int} (h : w.ownsRow base 3 1 (.slice (some ⟨g, 0, none⟩) N c) N (ints zs)) (o : Nat) :
    Reads w w.heap.size 1 (some ⟨g, o, none⟩) (N - N) (ints (zs.drop N)) := by
  have hzl : zs.length = N := by have := h.1; simpa [ints] using this
  refine ⟨by simp [ints, hzl], fun h0 => ?_⟩
  omega
end Go.Proofs.Ytcecdodagmdnkaa
