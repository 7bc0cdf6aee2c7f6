/- Texts of numbers and of networks; plain. -/
import Derived.Test.YtfpojoabfdiadaaDoorNetTo
import Derived.Lib.ItoaNum
import Derived.Laws.Concat
import Derived.Lib.ItoaLen
namespace Go.Proofs.YtfpojoabfdiadaaDoor
open Go.RowKit
set_option linter.unusedVariables false
/-- a text's value -/
def bs (l : List UInt8) : ByteArray := ⟨l.toArray⟩
theorem bs_app (a b : List UInt8) : bs a ++ bs b = bs (a ++ b) := ByteArray.mk_append_mk a b
theorem bs_size (a : List UInt8) : (bs a).size = a.length := by simp [bs, ByteArray.size]
theorem bs_data (a : List UInt8) : (bs a).data.toList = a := by simp [bs]
theorem bs_toList (a : List UInt8) : (bs a).toList = a := by rw [ByteArray.toList_eq, bs_data]
theorem bs_inj {a b : List UInt8} (h : bs a = bs b) : a = b := by have := congrArg (fun s => s.data.toList) h; simpa [bs] using this
theorem of_bs (s : ByteArray) : bs s.data.toList = s := by apply ByteArray.ext; simp [bs]
/-- a number's text -/
def num (n : Int) : List UInt8 := Lib.itoa n
theorem num_nat (n : Nat) : num (n : Int) = Lib.decDigits n := by
  unfold num Lib.itoa
  rw [if_neg (by omega)]; simp
theorem num_len {n : Int} (h0 : 0 ≤ n) (h1 : n < 100) : (num n).length ≤ 2 := by
  obtain ⟨k, rfl⟩ := Int.eq_ofNat_of_zero_le h0
  rw [num_nat]
  by_cases h : k < 10
  · rw [Lib.decDigits_one h]; simp
  · rw [Lib.decDigits_two h (by omega)]; simp
/-- a comparator's text, behind a blank -/
def pcT (c : Int × Int) : List UInt8 := 32 :: (num c.1 ++ 45 :: num c.2)
/-- a network's text -/
def txt (W : Int) (z : List (Int × Int)) : List UInt8 := num W ++ z.flatMap pcT
def fmtV (W : Int) (z : List (Int × Int)) : List UInt8 := if netOk W z then txt W z else []
theorem txt_take {W : Int} {z : List (Int × Int)} {k : Nat} (h : k < z.length) : txt W (z.take (k + 1)) = txt W (z.take k) ++ pcT z[k] := by
  unfold txt
  rw [List.take_succ_eq_append_getElem h, List.flatMap_append]
  simp
theorem txt_len {W : Int} {z : List (Int × Int)} (hW : 0 ≤ W ∧ W < 100) (hz : ∀ c ∈ z, (0 ≤ c.1 ∧ c.1 < 100) ∧ (0 ≤ c.2 ∧ c.2 < 100)) : (txt W z).length ≤ 2 + 6 * z.length := by
  induction z with
  | nil => simpa [txt] using num_len hW.1 hW.2
  | cons c z ih =>
    have h1 := ih (fun x hx => hz x (by simp [hx]))
    have h2 := hz c (by simp)
    have h3 := num_len h2.1.1 h2.1.2
    have h4 := num_len h2.2.1 h2.2.2
    have e : (txt W (c :: z)).length = (txt W z).length + (pcT c).length := by simp [txt]; omega
    have e2 : (pcT c).length = 2 + (num c.1).length + (num c.2).length := by simp [pcT]; omega
    simp only [List.length_cons]
    omega
theorem netOk_facts {W : Int} {z : List (Int × Int)} (h : netOk W z = true) : (1 ≤ W ∧ W ≤ 16) ∧ z.length ≤ 200 ∧ ∀ c ∈ z, (0 ≤ c.1 ∧ c.1 < W) ∧ (0 ≤ c.2 ∧ c.2 < W) := by
  simp only [netOk, Bool.and_eq_true, decide_eq_true_eq, List.all_eq_true] at h
  refine ⟨inB_iff.1 h.1, h.2.1, fun c hc => ?_⟩
  have := h.2.2 c hc
  simp only [cmpOk, Bool.and_eq_true] at this
  have h1 := inB_iff.1 this.2.1
  have h2 := inB_iff.1 this.2.2
  omega
theorem bs_pc {p : List UInt8} {c : Int × Int} : bs p ++ (((⟨#[32]⟩ ++ bs (num c.1)) ++ ⟨#[45]⟩) ++ bs (num c.2)) = bs (p ++ pcT c) := by
  rw [show (⟨#[32]⟩ : ByteArray) = bs [32] from rfl, show (⟨#[45]⟩ : ByteArray) = bs [45] from rfl, bs_app, bs_app, bs_app, bs_app]
  simp [pcT]
theorem bs_pcS {p : List UInt8} {c : Int × Int} : ((((bs p ++ ⟨#[32]⟩) ++ bs (num c.1)) ++ ⟨#[45]⟩) ++ bs (num c.2)) = bs (p ++ pcT c) := by
  rw [show (⟨#[32]⟩ : ByteArray) = bs [32] from rfl, show (⟨#[45]⟩ : ByteArray) = bs [45] from rfl, bs_app, bs_app, bs_app, bs_app]
  simp [pcT]
end Go.Proofs.YtfpojoabfdiadaaDoor
