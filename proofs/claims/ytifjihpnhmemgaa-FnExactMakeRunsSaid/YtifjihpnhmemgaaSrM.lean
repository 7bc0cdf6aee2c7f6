/- A stable sort of records, plain: their places in the order of key and place; the outcome is one. -/
import Derived.Test.YtifjihpnhmemgaaStbM
import Derived.Test.YtifjihpnhmemgaaRecV
namespace Go.Proofs.Ytifjihpnhmemgaa
set_option linter.unusedVariables false
/-- the record at a place -/
def rgI (R : List (Int × Int)) (x : Int) : Int × Int := R[x.toNat]?.getD (0, 0)
/-- key first, place second -/
def fr (R : List (Int × Int)) (x : Int) : Int := (rgI R x).1 * 64 + x
def idR (n : Nat) : List Int := (List.range n).map fun i : Nat => (i : Int)
@[simp] theorem idR_len (n : Nat) : (idR n).length = n := by simp [idR]
theorem idR_get {n k : Nat} (h : k < n) : gt (idR n) k = (k : Int) := by simp [gt, idR, h]
theorem cmpR_neg {x y : Int} : cmpR x y < 0 ↔ x < y := by
  unfold cmpR
  split
  · constructor
    · intro _; assumption
    · intro _; omega
  · split <;> omega
theorem fr_less {R : List (Int × Int)} {x y : Int} (h0 : 0 ≤ y) (h1 : y < x) (h2 : x < 64) : cmpR (rgI R x).1 (rgI R y).1 < 0 ↔ fr R x < fr R y := by
  rw [cmpR_neg]
  unfold fr
  omega
theorem fr_inj {R : List (Int × Int)} {x y : Int} (hx : 0 ≤ x ∧ x < 64) (hy : 0 ≤ y ∧ y < 64) (h1 : fr R x ≤ fr R y) (h2 : fr R y ≤ fr R x) : x = y := by
  unfold fr at h1 h2
  omega
theorem idR_mem {n : Nat} {x : Int} (h : x ∈ idR n) : 0 ≤ x ∧ x < (n : Int) := by
  simp only [idR, List.mem_map, List.mem_range] at h
  obtain ⟨i, hi, rfl⟩ := h
  omega
/-- the places, sorted -/
def stC (R : List (Int × Int)) : List Int := (idR R.length).mergeSort fun a b => decide (fr R a ≤ fr R b)
/-- the records, sorted stably -/
def stR (R : List (Int × Int)) : List (Int × Int) := (stC R).map (rgI R)
theorem srt_pw {f : Int → Int} {D : List Int} {n : Nat} (h : Srt f D 0 n) (hl : D.length = n) : D.Pairwise fun a b => f a ≤ f b := by
  rw [List.pairwise_iff_getElem]
  intro i j hi hj hij
  have := h i j (by omega) (by omega) (by omega)
  simpa [gt, hi, hj] using this
theorem st_of {R : List (Int × Int)} {C : List Int} (hn : R.length ≤ 64) (hp : C.Perm (idR R.length)) (hs : Srt (fr R) C 0 R.length) : C.map (rgI R) = stR R := by
  have hl : C.length = R.length := by rw [hp.length_eq, idR_len]
  have hq : (stC R).Perm (idR R.length) := List.mergeSort_perm _ _
  have hpw : (stC R).Pairwise fun a b => fr R a ≤ fr R b := by
    have := List.pairwise_mergeSort (le := fun a b => decide (fr R a ≤ fr R b)) (by intro a b c h1 h2; simp at h1 h2 ⊢; omega) (by intro a b; simp; omega) (idR R.length)
    refine List.Pairwise.imp ?_ this
    intro a b h; simpa using h
  have he : C = stC R := List.Perm.eq_of_pairwise (fun a b ha hb h1 h2 => by
    have a1 := idR_mem (hp.mem_iff.1 ha)
    have b1 := idR_mem (hq.mem_iff.1 hb)
    exact fr_inj (R := R) (by omega) (by omega) h1 h2) (srt_pw hs hl) hpw (hp.trans hq.symm)
  unfold stR
  rw [he]
@[simp] theorem stR_len (R : List (Int × Int)) : (stR R).length = R.length := by
  unfold stR
  rw [List.length_map, (show (stC R).Perm (idR R.length) from List.mergeSort_perm _ _).length_eq, idR_len]
/-- all left ones lie ahead of all right ones -/
def Cx (D : List Int) (a m b : Nat) : Prop := ∀ p q, a ≤ p → p < m → m ≤ q → q < b → gt D p < gt D q
theorem Cx.out {D E : List Int} {a m b c d : Nat} (h : Cx D a m b) (g : Seg D E c d) (hd : b ≤ c ∨ d ≤ a) : Cx E a m b := fun p q h1 h2 h3 h4 => by
  rw [g.out p (by omega), g.out q (by omega)]
  exact h p q h1 h2 h3 h4
theorem halvesX {D R : List Int} {a m b s e mid : Nat} (hs : a ≤ s ∧ s ≤ m ∧ m ≤ e ∧ e ≤ b) (he : s + e = mid + m) (hx : Cx D a m b) (hR : Rt D R s m e) : Cx R a s mid ∧ Cx R mid e b := by
  have hg := hR.get
  have g1 : ∀ k, k < s → gt R k = gt D k := fun k hk => by rw [hg k, if_neg (by omega), if_neg (by omega)]
  have g2 : ∀ k, s ≤ k → k < mid → gt R k = gt D (k + (m - s)) := fun k hk hk2 => by rw [hg k, if_pos (by omega)]
  have g3 : ∀ k, mid ≤ k → k < e → gt R k = gt D (k - (e - m)) := fun k hk hk2 => by rw [hg k, if_neg (by omega), if_pos (by omega)]
  have g4 : ∀ k, e ≤ k → gt R k = gt D k := fun k hk => by rw [hg k, if_neg (by omega), if_neg (by omega)]
  refine ⟨fun p q h1 h2 h3 h4 => ?_, fun p q h1 h2 h3 h4 => ?_⟩
  · rw [g1 p h2, g2 q h3 h4]
    exact hx _ _ h1 (by omega) (by omega) (by omega)
  · rw [g3 p h1 h2, g4 q h3]
    exact hx _ _ (by omega) (by omega) (by omega) h4
/-- what insertion leaves of the places -/
structure InX (E : List Int) (a i b : Nat) : Prop where
  hi : ∀ q, i ≤ q → q < b → gt E q = (q : Int)
  lo : i ≤ b → ∀ p, a ≤ p → p < i → gt E p < (i : Int)
theorem InX.start {D : List Int} {a b i : Nat} (h : ∀ p, a ≤ p → p < b → gt D p = (p : Int)) (hi : i = a + 1) : InX D a i b := by
  subst hi
  refine ⟨fun q h1 h2 => h q (by omega) h2, fun hb p h1 h2 => ?_⟩
  obtain rfl : p = a := by omega
  rw [h p h1 (by omega)]; omega
theorem InX.next {C : List Int} {a i b : Nat} (h : InX C a i b) (hi : i < b) : InX C a (i + 1) b ∧ ∀ p, a ≤ p → p < i → gt C p < gt C i := by
  have hii := h.hi i (Nat.le_refl _) hi
  refine ⟨⟨fun q h1 h2 => h.hi q (by omega) h2, fun _ p h1 h2 => ?_⟩, fun p h1 h2 => ?_⟩
  · by_cases e : p = i
    · rw [e, hii]; omega
    · have := h.lo (by omega) p h1 (by omega); omega
  · rw [hii]; exact h.lo (by omega) p h1 h2
theorem InX.swap {E : List Int} {a i b q : Nat} (h : InX E a (i + 1) b) (hq : a ≤ q) (hqi : q + 1 ≤ i) (hib : i + 1 ≤ b) (hl : i < E.length) : InX (swp E (q + 1) q) a (i + 1) b := by
  have hg := swp_get (D := E) (i := q + 1) (j := q) (by omega) (by omega)
  refine ⟨fun k h1 h2 => ?_, fun hb k h1 h2 => ?_⟩
  · rw [hg k, if_neg (by omega), if_neg (by omega)]; exact h.hi k h1 h2
  · rw [hg k]
    split
    · exact h.lo hb _ (by omega) (by omega)
    · split
      · exact h.lo hb _ (by omega) (by omega)
      · exact h.lo hb k h1 h2
theorem mov_swap {E : List Int} {a i q : Nat} (h : ∀ p, a ≤ p → p < q + 1 → gt E p < gt E (q + 1)) (hqi : q + 1 ≤ i) (hl : i < E.length) : ∀ p, a ≤ p → p < q → gt (swp E (q + 1) q) p < gt (swp E (q + 1) q) q := by
  have hg := swp_get (D := E) (i := q + 1) (j := q) (by omega) (by omega)
  intro p h1 h2
  rw [hg p, hg q, if_neg (by omega), if_neg (by omega), if_pos rfl]
  exact h p h1 (by omega)
/-- blocks of B places from lo on hold their own -/
def BKa (C : List Int) (B n lo : Nat) : Prop := ∀ u p, lo ≤ p → B * u ≤ p → p < B * u + B → p < n → ((B * u : Nat) : Int) ≤ gt C p ∧ gt C p < ((B * u + B : Nat) : Int)
theorem BKa.id {C : List Int} {B n : Nat} (h : ∀ p, p < n → gt C p = (p : Int)) : BKa C B n 0 := fun u p _ h1 h2 h3 => by rw [h p h3]; omega
/-- the runs of a list -/
def chF (R : List (Int × Int)) (m : Nat) : Nat → Nat → List (List (Int × Int))
  | 0, _ => []
  | f + 1, i => if i < R.length then stR ((R.drop i).take m) :: chF R m f (i + m) else []
def mkR (R : List (Int × Int)) (m : Nat) : List (List (Int × Int)) := chF R m 65 0
theorem chF_on {R : List (Int × Int)} {m f i : Nat} (h : i < R.length) : chF R m (f + 1) i = stR ((R.drop i).take m) :: chF R m f (i + m) := by rw [chF, if_pos h]
theorem chF_off {R : List (Int × Int)} {m f i : Nat} (h : ¬ i < R.length) : chF R m f i = [] := by
  cases f with
  | zero => rfl
  | succ f => rw [chF, if_neg h]
theorem chF_lens {R : List (Int × Int)} {m : Nat} (hm : 1 ≤ m) : ∀ (f i : Nat), (chF R m f i).length ≤ f ∧ ((chF R m f i).map List.length).sum ≤ R.length - i := by
  intro f
  induction f with
  | zero => intro i; simp [chF]
  | succ f ih =>
    intro i
    rw [chF]
    split
    · rename_i h
      have := ih (i + m)
      simp only [List.length_cons, List.map_cons, List.sum_cons, stR_len, List.length_take, List.length_drop]
      omega
    · simp
def mrOk (R : List (Int × Int)) (m : Int) : Bool := rsOk R && inB m 1 64
def mrvO (R : List (Int × Int)) (m : Int) : List (List (Int × Int)) := if mrOk R m then mkR R m.toNat else []
theorem mrv_lens (R : List (Int × Int)) (m : Int) : (mrvO R m).length ≤ 65 ∧ ((mrvO R m).map List.length).sum ≤ 64 := by
  unfold mrvO
  split
  · rename_i h
    unfold mrOk rsOk at h
    simp only [Bool.and_eq_true, decide_eq_true_eq] at h
    have h1 := inB_iff.1 h.2
    have := chF_lens (R := R) (m := m.toNat) (by omega) 65 0
    unfold mkR
    omega
  · simp
end Go.Proofs.Ytifjihpnhmemgaa
