/- Two equal networks compared by the laws. -/
import Derived.Test.YtfpojoabfdiadaaDoorNet
import Derived.Test.YtfpojoabfdiadaaDoorPush
import Derived.Test.YtfpojoabfdiadaaDoorVL
import Derived.BigQuiet
import Derived.Deep.QuietTactic
namespace Go.Proofs.YtfpojoabfdiadaaDoor
open Go.RowKit
set_option linter.unusedVariables false
theorem own_dn {w : World} {base : Nat} {e : TypeId} {size n : Nat} {v : Value} {xs : List Value} (h : w.ownsRow base e size v n xs) (k : Nat) : (w.drewN k).ownsRow base e size v n xs := h
set_option maxRecDepth 100000 in
set_option maxHeartbeats 1600000 in
theorem vNetwork_same (W : Int) (A B : Option Addr) (cs : List (Int × Int)) (c d : Nat) (w : World) (hx : Reads w w.heap.size 2 A cs.length (cmps cs)) (hy : Reads w w.heap.size 2 B cs.length (cmps cs)) (hl : cs.length ≤ 1048576) :
    Calls Tryd.prog 18 #[.agg #[.int .i64 W, .slice A cs.length c], .agg #[.int .i64 W, .slice B cs.length d]] w fun e w' => e = .returned (.bool true) ∧ Below w.heap.size w w' := by
  have x1 : ∀ x : Int, (x != x) = false := by simp
  have x2 : ∀ x : Int, (x == x) = true := by simp
  have hk0 := (Blk.new w 30 #[.int .i64 W, .slice A cs.length c]).alloc (.cells #[.int .i64 W, .slice B cs.length d] 30)
  have hk1 := blk_new_at (w := w.alloc (.cells #[.int .i64 W, .slice A cs.length c] 30)) (g := w.heap.size + 1) (t := 30) (cs := #[.int .i64 W, .slice B cs.length d]) (by simp)
  have hb0 := alloc_ (alloc_ (Below.refl w.heap.size w) (.cells #[.int .i64 W, .slice A cs.length c] 30)) (.cells #[.int .i64 W, .slice B cs.length d] 30)
  have hx' := hx.below hb0
  have hy' := hy.below hb0
  clear hx hy
  obtain ⟨a0, a1⟩ := hk0.two
  obtain ⟨b0, b1⟩ := hk1.two
  have al := hk0.lt
  have bl := hk1.lt
  go_enter Tryd.func18, Tryd.ntmps18
  go_wp2_with fail
  generalize (w.alloc (.cells #[.int .i64 W, .slice A cs.length c] 30)).alloc (.cells #[.int .i64 W, .slice B cs.length d] 30) = w0 at *
  go_loopw [5] (fun i wr => ∃ k n : Nat, k ≤ cs.length ∧ i = .int .i64 (k : Nat) ∧ wr = w0.drewN n) (fun i _ => cs.length - (intOf i).toNat)
  case atStart => exact ⟨0, 0, by omega, rfl, rfl⟩
  case round =>
    obtain ⟨k, n, hk, rfl, rfl⟩ := hrel
    by_cases hlt : k < cs.length
    · have hkI : (k : Int) < cs.length := by omega
      obtain ⟨ad, rfl, had, c0, c1⟩ := hx'.cmp hlt
      obtain ⟨bd, rfl, hbd, d0, d1⟩ := hy'.cmp hlt
      generalize cs[k] = q at *
      obtain ⟨q1, q2⟩ := q
      simp only at c0 c1 d0 d1
      go_wp2_with fail
      go_quiet (fail)
      go_wp2_with fail
      go_roundw
      case rel => exact ⟨k + 1, n + nq, by omega, by go_num, rfl⟩
      case measure => simp [intOf]; omega
    · have hkI : ¬ (k : Int) < cs.length := by omega
      go_wp2_with fail
      go_ret
      exact ⟨rfl, below_drewN hb0 n⟩
end Go.Proofs.YtfpojoabfdiadaaDoor
