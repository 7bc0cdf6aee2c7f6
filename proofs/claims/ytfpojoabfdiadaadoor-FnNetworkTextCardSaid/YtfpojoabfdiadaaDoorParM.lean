/- Texts of networks read back; plain. -/
import Derived.Test.YtfpojoabfdiadaaDoorTxtM
import Derived.Lib.SplitLaws
import Derived.Lib.CutLaws
import Derived.Lib.Atoi
namespace Go.Proofs.YtfpojoabfdiadaaDoor
open Go.RowKit
set_option linter.unusedVariables false
/-! ### One byte as a separator -/
theorem index_hit {a r : List UInt8} {c : UInt8} (h : c ∉ a) : Lib.index (a ++ c :: r) [c] = a.length := by
  refine Lib.index_first (by simp) ?_ ?_
  · unfold Lib.occAt
    rw [List.drop_left]
    simp [List.isPrefixOf]
  · intro j hj
    cases hb : Lib.occAt (a ++ c :: r) [c] j with
    | false => rfl
    | true =>
      have := Lib.occAt_head rfl hb
      rw [List.getElem?_append_left hj] at this
      exact absurd (List.mem_of_getElem? this) h
theorem index_miss {a : List UInt8} {c : UInt8} (h : c ∉ a) : Lib.index a [c] = -1 := by
  refine Lib.index_none ?_
  intro j hj
  cases hb : Lib.occAt a [c] j with
  | false => rfl
  | true =>
    have := Lib.occAt_head rfl hb
    exact absurd (List.mem_of_getElem? this) h
theorem cut_hit {a r : List UInt8} {c : UInt8} (h : c ∉ a) : Lib.cut (a ++ c :: r) [c] = (a, r, true) := by
  unfold Lib.cut
  rw [index_hit h, if_pos (by omega)]
  simp [List.drop_append]
/-- the parts of a text between bytes -/
def spl (c : UInt8) : List UInt8 → List (List UInt8)
  | [] => [[]]
  | b :: l => if b = c then [] :: spl c l else (b :: (spl c l).headD []) :: (spl c l).tail
theorem spl_cons {b c : UInt8} (h : ¬ b = c) (l : List UInt8) : spl c (b :: l) = (b :: (spl c l).headD []) :: (spl c l).tail := by rw [spl, if_neg h]
theorem spl_cons_eq (c : UInt8) (l : List UInt8) : spl c (c :: l) = [] :: spl c l := by rw [spl, if_pos rfl]
theorem spl_ne (c : UInt8) (l : List UInt8) : spl c l ≠ [] := by
  cases l with
  | nil => simp [spl]
  | cons b l => unfold spl; split <;> simp
theorem spl_miss {c : UInt8} {a : List UInt8} (h : c ∉ a) : spl c a = [a] := by
  induction a with
  | nil => rfl
  | cons b a ih =>
    simp only [List.mem_cons, not_or] at h
    rw [spl_cons (fun e => h.1 e.symm), ih h.2]
    rfl
theorem spl_hit {c : UInt8} {a r : List UInt8} (h : c ∉ a) : spl c (a ++ c :: r) = a :: spl c r := by
  induction a with
  | nil => simp [spl]
  | cons b a ih =>
    simp only [List.mem_cons, not_or] at h
    rw [List.cons_append, spl_cons (fun e => h.1 e.symm), ih h.2]
    rfl
theorem splitK_miss {c : UInt8} {a : List UInt8} (h : c ∉ a) (k : Nat) : Lib.splitK [c] 0 k a = [a] := by
  cases k with
  | zero => rfl
  | succ k => unfold Lib.splitK; rw [index_miss h]; rfl
theorem splitK_hit {c : UInt8} {a r : List UInt8} (h : c ∉ a) (k : Nat) : Lib.splitK [c] 0 (k + 1) (a ++ c :: r) = a :: Lib.splitK [c] 0 k r := by
  rw [Lib.splitK, index_hit h, if_neg (by simp)]
  simp [List.drop_append, List.drop_eq_nil_of_le (show a.length ≤ a.length + 1 by omega)]
/-! ### Numbers -/
theorem num_dig {n : Int} (h0 : 0 ≤ n) (h1 : n < 100) : ∀ b ∈ num n, 48 ≤ b.toNat ∧ b.toNat ≤ 57 := by
  obtain ⟨k, rfl⟩ := Int.eq_ofNat_of_zero_le h0
  rw [num_nat]
  have e : ∀ k : Fin 10, 48 ≤ (UInt8.ofNat (48 + k.val)).toNat ∧ (UInt8.ofNat (48 + k.val)).toNat ≤ 57 := by decide +kernel
  by_cases h : k < 10
  · rw [Lib.decDigits_one h]
    intro b hb
    obtain rfl := List.mem_singleton.1 hb
    exact e ⟨k, h⟩
  · rw [Lib.decDigits_two h (by omega)]
    intro b hb
    simp only [List.mem_cons, List.not_mem_nil, or_false] at hb
    rcases hb with rfl | rfl
    · exact e ⟨k / 10, by omega⟩
    · exact e ⟨k % 10, by omega⟩
theorem num_no {n : Int} (h0 : 0 ≤ n) (h1 : n < 100) : (32 : UInt8) ∉ num n ∧ (45 : UInt8) ∉ num n := by
  refine ⟨fun h => ?_, fun h => ?_⟩
  · have := num_dig h0 h1 _ h; revert this; decide
  · have := num_dig h0 h1 _ h; revert this; decide
/-- what the program reads as a number -/
def iRead (l : List UInt8) : Int × Bool := match (if l.length ≤ 7 then Lib.atoi l else none) with
  | some n => if (-999999 ≤ n ∧ n ≤ 999999) ∧ num n = l then (n, true) else (0, false)
  | none => (0, false)
theorem num_two {k : Nat} (h : ¬ k < 10) (h1 : k < 100) : num (k : Int) = [UInt8.ofNat (48 + k / 10), UInt8.ofNat (48 + k % 10)] := by rw [num_nat, Lib.decDigits_two h h1]
theorem num_one {k : Nat} (h : k < 10) : num (k : Int) = [UInt8.ofNat (48 + k)] := by rw [num_nat, Lib.decDigits_one h]
theorem atoi_num {n : Int} (h0 : 0 ≤ n) (h1 : n < 100) : Lib.atoi (num n) = some n := by
  obtain ⟨k, rfl⟩ := Int.eq_ofNat_of_zero_le h0
  by_cases h : k < 10
  · rw [num_one h]
    exact (show ∀ k : Fin 10, Lib.atoi [UInt8.ofNat (48 + k.val)] = some (k.val : Int) from by decide +kernel) ⟨k, h⟩
  · rw [num_two h (by omega)]
    exact (show ∀ k : Fin 100, Lib.atoi [UInt8.ofNat (48 + k.val / 10), UInt8.ofNat (48 + k.val % 10)] = some (k.val : Int) from by decide +kernel) ⟨k, by omega⟩
theorem iRead_num {n : Int} (h0 : 0 ≤ n) (h1 : n < 100) : iRead (num n) = (n, true) := by
  unfold iRead
  have := num_len h0 h1
  rw [if_pos (by omega), atoi_num h0 h1]
  simp only
  rw [if_pos ⟨by omega, trivial⟩]
theorem iRead_ok {l : List UInt8} (h : (iRead l).2 = true) : num (iRead l).1 = l ∧ -999999 ≤ (iRead l).1 ∧ (iRead l).1 ≤ 999999 := by
  unfold iRead at h ⊢
  split at h
  · rename_i n hn
    split at h
    · rename_i h2
      rw [if_pos h2]
      exact ⟨h2.2, h2.1⟩
    · cases h
  · cases h
theorem iRead_bd (l : List UInt8) : -999999 ≤ (iRead l).1 ∧ (iRead l).1 ≤ 999999 := by
  unfold iRead
  split
  · split
    · rename_i h; exact h.1
    · simp
  · simp
/-- what the reference reads as a number -/
def digs (l : List UInt8) : Bool := l.all fun b => decide (48 ≤ b.toNat) && decide (b.toNat ≤ 57)
def dval (l : List UInt8) : Int := l.foldl (fun a b => 10 * a + ((b.toNat : Int) - 48)) 0
def sT (l : List UInt8) : List UInt8 := if 1 < l.length ∧ l.head? = some 45 then l.drop 1 else l
def sN (l : List UInt8) : Int := if (sT l).length < l.length then - dval (sT l) else dval (sT l)
def sOk (l : List UInt8) : Bool := decide (1 ≤ (sT l).length ∧ (sT l).length ≤ 6) && digs (sT l) && decide (num (sN l) = l)
def sRead (l : List UInt8) : Int × Bool := if sOk l then (sN l, true) else (0, false)
theorem sRead_num {n : Int} (h0 : 0 ≤ n) (h1 : n < 100) : sRead (num n) = (n, true) := by
  obtain ⟨k, rfl⟩ := Int.eq_ofNat_of_zero_le h0
  have key : (num (k : Int)).head? ≠ some 45 ∧ 1 ≤ (num (k : Int)).length ∧ (num (k : Int)).length ≤ 6 ∧ digs (num (k : Int)) = true ∧ dval (num (k : Int)) = k := by
    by_cases h : k < 10
    · rw [num_one h]
      exact (show ∀ k : Fin 10, [UInt8.ofNat (48 + k.val)].head? ≠ some 45 ∧ 1 ≤ [UInt8.ofNat (48 + k.val)].length ∧ [UInt8.ofNat (48 + k.val)].length ≤ 6 ∧ digs [UInt8.ofNat (48 + k.val)] = true ∧ dval [UInt8.ofNat (48 + k.val)] = (k.val : Int) from by decide +kernel) ⟨k, h⟩
    · rw [num_two h (by omega)]
      exact (show ∀ k : Fin 100, [UInt8.ofNat (48 + k.val / 10), UInt8.ofNat (48 + k.val % 10)].head? ≠ some 45 ∧ 1 ≤ [UInt8.ofNat (48 + k.val / 10), UInt8.ofNat (48 + k.val % 10)].length ∧ [UInt8.ofNat (48 + k.val / 10), UInt8.ofNat (48 + k.val % 10)].length ≤ 6 ∧ digs [UInt8.ofNat (48 + k.val / 10), UInt8.ofNat (48 + k.val % 10)] = true ∧ dval [UInt8.ofNat (48 + k.val / 10), UInt8.ofNat (48 + k.val % 10)] = (k.val : Int) from by decide +kernel) ⟨k, by omega⟩
  have e1 : sT (num (k : Int)) = num (k : Int) := by unfold sT; rw [if_neg (fun h => key.1 h.2)]
  have e2 : sN (num (k : Int)) = k := by unfold sN; rw [e1, if_neg (by omega)]; exact key.2.2.2.2
  unfold sRead
  rw [if_pos, e2]
  unfold sOk
  rw [e1, e2]
  simp [key]
theorem sRead_ok {l : List UInt8} (h : (sRead l).2 = true) : num (sRead l).1 = l := by
  unfold sRead at h ⊢
  split at h
  · rename_i h2
    rw [if_pos h2]
    simp only [sOk, Bool.and_eq_true, decide_eq_true_eq] at h2
    exact h2.2
  · cases h
/-! ### Networks -/
def pcB (c : Int × Int) : List UInt8 := num c.1 ++ 45 :: num c.2
theorem pcT_eq (c : Int × Int) : pcT c = 32 :: pcB c := rfl
theorem pcB_no {c : Int × Int} (h : (0 ≤ c.1 ∧ c.1 < 100) ∧ (0 ≤ c.2 ∧ c.2 < 100)) : (32 : UInt8) ∉ pcB c := by
  unfold pcB
  simp only [List.mem_append, List.mem_cons, not_or]
  exact ⟨(num_no h.1.1 h.1.2).1, by decide, (num_no h.2.1 h.2.2).1⟩
/-- a network's parts -/
theorem tail_parts {z : List (Int × Int)} (hz : ∀ c ∈ z, (0 ≤ c.1 ∧ c.1 < 100) ∧ (0 ≤ c.2 ∧ c.2 < 100)) : ∀ (a : List UInt8), (32 : UInt8) ∉ a →
    Lib.splitK [32] 0 ((a ++ z.flatMap pcT).count 32) (a ++ z.flatMap pcT) = a :: z.map pcB ∧ spl 32 (a ++ z.flatMap pcT) = a :: z.map pcB := by
  induction z with
  | nil =>
    intro a ha
    simp only [List.flatMap_nil, List.append_nil, List.map_nil]
    exact ⟨splitK_miss ha _, spl_miss ha⟩
  | cons c z ih =>
    intro a ha
    have hc := pcB_no (hz c (by simp))
    obtain ⟨i1, i2⟩ := ih (fun x hx => hz x (by simp [hx])) (pcB c) hc
    have e : a ++ (c :: z).flatMap pcT = a ++ 32 :: (pcB c ++ z.flatMap pcT) := by simp [pcT_eq]
    rw [e]
    refine ⟨?_, ?_⟩
    · have e2 : (a ++ 32 :: (pcB c ++ z.flatMap pcT)).count 32 = (pcB c ++ z.flatMap pcT).count 32 + 1 := by
        rw [List.count_append, List.count_cons_self, List.count_eq_zero.2 ha]; omega
      rw [e2, splitK_hit ha, i1]; rfl
    · rw [spl_hit ha, i2]; rfl
theorem txt_parts {W : Int} {z : List (Int × Int)} (h : netOk W z = true) : Lib.split (txt W z) [32] = num W :: z.map pcB ∧ spl 32 (txt W z) = num W :: z.map pcB := by
  obtain ⟨⟨w1, w2⟩, hlen, hcs⟩ := netOk_facts h
  have := tail_parts (z := z) (fun c hc => by have := hcs c hc; omega) (num W) (num_no (by omega) (by omega)).1
  unfold Lib.split
  rw [Lib.count_one]
  exact this
theorem cut_pc {c : Int × Int} (h : (0 ≤ c.1 ∧ c.1 < 100) ∧ (0 ≤ c.2 ∧ c.2 < 100)) : Lib.cut (pcB c) [45] = (num c.1, num c.2, true) := cut_hit (num_no h.1.1 h.1.2).2
theorem spl_pc {c : Int × Int} (h : (0 ≤ c.1 ∧ c.1 < 100) ∧ (0 ≤ c.2 ∧ c.2 < 100)) : spl 45 (pcB c) = [num c.1, num c.2] := by
  unfold pcB
  rw [spl_hit (num_no h.1.1 h.1.2).2, spl_miss (num_no h.2.1 h.2.2).2]
/-- what the program makes of a text -/
def iPair (w : List UInt8) : Int × Int := ((iRead (Lib.cut w [45]).1).1, (iRead (Lib.cut w [45]).2.1).1)
def iPok (w : List UInt8) : Bool := (iRead (Lib.cut w [45]).1).2 && (iRead (Lib.cut w [45]).2.1).2
def iW (s : List UInt8) : Int := (iRead ((Lib.split s [32]).headD [])).1
def iZ (s : List UInt8) : List (Int × Int) := (Lib.split s [32]).tail.map iPair
def iOk (s : List UInt8) : Bool := (iRead ((Lib.split s [32]).headD [])).2 && (Lib.split s [32]).tail.all iPok
def iGood (s : List UInt8) : Bool := iOk s && (netOk (iW s) (iZ s) && decide (txt (iW s) (iZ s) = s))
theorem iNet_txt {W : Int} {z : List (Int × Int)} (h : netOk W z = true) : iW (txt W z) = W ∧ iZ (txt W z) = z ∧ iOk (txt W z) = true ∧ iGood (txt W z) = true := by
  obtain ⟨⟨w1, w2⟩, hlen, hcs⟩ := netOk_facts h
  have hr := iRead_num (n := W) (by omega) (by omega)
  have e1 : iW (txt W z) = W := by unfold iW; rw [(txt_parts h).1]; simp [hr]
  have e2 : iZ (txt W z) = z := by
    unfold iZ
    rw [(txt_parts h).1, List.tail_cons, List.map_map]
    conv => rhs; rw [← List.map_id z]
    refine List.map_congr_left fun c hc => ?_
    have hb := hcs c hc
    have hcut := cut_pc (c := c) (by omega)
    simp only [Function.comp, iPair, hcut, iRead_num (n := c.1) (by omega) (by omega), iRead_num (n := c.2) (by omega) (by omega)]
    rfl
  have e3 : iOk (txt W z) = true := by
    unfold iOk
    rw [(txt_parts h).1, List.tail_cons, List.headD_cons, hr]
    simp only [Bool.true_and, List.all_eq_true, List.mem_map]
    rintro w ⟨c, hc, rfl⟩
    have hb := hcs c hc
    have hcut := cut_pc (c := c) (by omega)
    simp only [iPok, hcut, iRead_num (n := c.1) (by omega) (by omega), iRead_num (n := c.2) (by omega) (by omega)]
    rfl
  refine ⟨e1, e2, e3, ?_⟩
  unfold iGood
  rw [e1, e2, e3, h]
  simp
/-- what a text is read as -/
def parW (s : List UInt8) : Int := if iGood s then iW s else 0
def parZ (s : List UInt8) : List (Int × Int) := if iGood s then iZ s else []
theorem parZ_len (s : List UInt8) : (parZ s).length ≤ 200 := by
  unfold parZ
  split
  · rename_i h
    simp only [iGood, Bool.and_eq_true] at h
    exact (netOk_facts h.2.1).2.1
  · simp
theorem iGood_iff (s : List UInt8) : iGood s = true ↔ ∃ W z, netOk W z = true ∧ txt W z = s := by
  constructor
  · intro h
    simp only [iGood, Bool.and_eq_true, decide_eq_true_eq] at h
    exact ⟨_, _, h.2.1, h.2.2⟩
  · rintro ⟨W, z, h1, rfl⟩
    exact (iNet_txt h1).2.2.2
theorem par_txt {W : Int} {z : List (Int × Int)} (h : netOk W z = true) : iGood (txt W z) = true ∧ parW (txt W z) = W ∧ parZ (txt W z) = z := by
  obtain ⟨h1, h2, h3, h4⟩ := iNet_txt h
  unfold parW parZ
  rw [if_pos h4, if_pos h4, h1, h2]
  exact ⟨h4, rfl, rfl⟩
theorem par_ok {s : List UInt8} (h : iGood s = true) : netOk (parW s) (parZ s) = true ∧ txt (parW s) (parZ s) = s := by
  have h2 := h
  simp only [iGood, Bool.and_eq_true, decide_eq_true_eq] at h2
  unfold parW parZ
  rw [if_pos h, if_pos h]
  exact h2.2
/-- what the reference makes of a text -/
def sPair (w : List UInt8) : Int × Int := ((sRead ((spl 45 w).headD [])).1, (sRead ((spl 45 w)[1]?.getD [])).1)
def sPok (w : List UInt8) : Bool := decide ((spl 45 w).length = 2) && ((sRead ((spl 45 w).headD [])).2 && (sRead ((spl 45 w)[1]?.getD [])).2)
def sW (s : List UInt8) : Int := (sRead ((spl 32 s).headD [])).1
def sZ (s : List UInt8) : List (Int × Int) := (spl 32 s).tail.map sPair
def sOk1 (s : List UInt8) : Bool := (sRead ((spl 32 s).headD [])).2 && (spl 32 s).tail.all sPok
theorem sNet_txt {W : Int} {z : List (Int × Int)} (h : netOk W z = true) : sW (txt W z) = W ∧ sZ (txt W z) = z ∧ sOk1 (txt W z) = true := by
  obtain ⟨⟨w1, w2⟩, hlen, hcs⟩ := netOk_facts h
  have hr := sRead_num (n := W) (by omega) (by omega)
  have e1 : sW (txt W z) = W := by unfold sW; rw [(txt_parts h).2]; simp [hr]
  have e2 : sZ (txt W z) = z := by
    unfold sZ
    rw [(txt_parts h).2, List.tail_cons, List.map_map]
    conv => rhs; rw [← List.map_id z]
    refine List.map_congr_left fun c hc => ?_
    have hb := hcs c hc
    have hs := spl_pc (c := c) (by omega)
    simp only [Function.comp, sPair, hs]
    simp [sRead_num (n := c.1) (by omega) (by omega), sRead_num (n := c.2) (by omega) (by omega)]
  have e3 : sOk1 (txt W z) = true := by
    unfold sOk1
    rw [(txt_parts h).2, List.tail_cons, List.headD_cons, hr]
    simp only [Bool.true_and, List.all_eq_true, List.mem_map]
    rintro w ⟨c, hc, rfl⟩
    have hb := hcs c hc
    have hs := spl_pc (c := c) (by omega)
    simp only [sPok, hs]
    simp [sRead_num (n := c.1) (by omega) (by omega), sRead_num (n := c.2) (by omega) (by omega)]
  exact ⟨e1, e2, e3⟩
/-- the reference's answer is the program's -/
theorem par_hit {s : List UInt8} {W : Int} {z : List (Int × Int)} (h1 : netOk W z = true) (h2 : txt W z = s) : iGood s = true ∧ parW s = W ∧ parZ s = z := by subst h2; exact par_txt h1
theorem par_no {s : List UInt8} (h : iGood s = false) : parW s = 0 ∧ parZ s = [] := by unfold parW parZ; rw [h]; simp
theorem iGood_no {s : List UInt8} (h : ∀ W z, netOk W z = true → txt W z = s → False) : iGood s = false := by
  cases hg : iGood s with
  | false => rfl
  | true => obtain ⟨W, z, h1, h2⟩ := (iGood_iff s).1 hg; exact (h W z h1 h2).elim
theorem txt_short {W : Int} {z : List (Int × Int)} (h : netOk W z = true) : (txt W z).length ≤ 1202 := by
  obtain ⟨⟨w1, w2⟩, hlen, hcs⟩ := netOk_facts h
  have := txt_len (W := W) (z := z) ⟨by omega, by omega⟩ (fun y hy => by have := hcs y hy; omega)
  omega
theorem spl_len (c : UInt8) (l : List UInt8) : (spl c l).length ≤ l.length + 1 := by
  induction l with
  | nil => simp [spl]
  | cons b l ih =>
    unfold spl
    have := spl_ne c l
    split
    · simp; omega
    · simp only [List.length_cons, List.length_tail]; omega
end Go.Proofs.YtfpojoabfdiadaaDoor
