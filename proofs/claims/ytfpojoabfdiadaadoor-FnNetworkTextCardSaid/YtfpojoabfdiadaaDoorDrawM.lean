/- The draws of one network. -/
import Derived.Test.YtfpojoabfdiadaaDoorDrawN
import Derived.Test.YtfpojoabfdiadaaDoorVL
namespace Go.Proofs.YtfpojoabfdiadaaDoor
open Go.RowKit
set_option linter.unusedVariables false
/-- a call has returned a network of its own -/
def GotM (w : World) (e : Ending) (w' : World) : Prop := ∃ (W : Int) (D : Option Addr) (cs : List (Int × Int)) (d : Nat), e = .returned (.agg #[.int .i64 W, .slice D cs.length d]) ∧ w'.ownsRow w.heap.size 48 2 (.slice D cs.length d) cs.length (cmps cs) ∧
  (0 ≤ W ∧ W ≤ 17) ∧ cs.length ≤ 201 ∧ smallC cs ∧ Below w.heap.size w w'
theorem GotM.mk {w : World} {e : Ending} {w' : World} (h : ∃ (W : Int) (D : Option Addr) (cs : List (Int × Int)) (d : Nat), e = .returned (.agg #[.int .i64 W, .slice D cs.length d]) ∧ w'.ownsRow w.heap.size 48 2 (.slice D cs.length d) cs.length (cmps cs) ∧
  (0 ≤ W ∧ W ≤ 17) ∧ cs.length ≤ 201 ∧ smallC cs ∧ Below w.heap.size w w') : GotM w e w' := h
set_option maxRecDepth 100000 in
set_option maxHeartbeats 1600000 in
theorem DrawIsValidNetwork_any (A : Option Addr) (bs : List Nat) (c : Nat) (w : World) (hr : Reads w w.heap.size 1 A bs.length (byts bs)) (hb : ∀ b ∈ bs, b ≤ 255) (hl : bs.length ≤ 65536) :
    Calls Tryd.prog 33 #[.slice A bs.length c] w (GotM w) := by
  have hB0 := alloc_ (Below.refl w.heap.size w) (.cells #[.int .i64 0, .slice none 0 0] 30)
  have HC0 := Lib.hid (cur_box (w := w.alloc (.cells #[.int .i64 0, .slice none 0 0] 30)) (c := c) ((hr.below hB0).more hB0.size) hb hl)
  have hB1 := alloc_ hB0 (.cells #[.slice A bs.length c, .int .i64 0, .int .u64 0] 61)
  have hR0 := (Blk.new w 30 #[.int .i64 0, .slice none 0 0]).alloc (.cells #[.slice A bs.length c, .int .i64 0, .int .u64 0] 61)
  have hsz0 : (w.alloc (.cells #[.int .i64 0, .slice none 0 0] 30)).heap.size = w.heap.size + 1 := by simp
  rw [hsz0] at HC0
  clear hr hb hB0 hsz0
  go_enter Tryd.func33, Tryd.ntmps33
  go_wp2_with fail
  refine (anyNetwork_any (w.heap.size + 1) A bs c 0 _ HC0.out (by omega)).mono ?_
  rintro e w1 ⟨W, D, cs, d, rfl, hO1, hW, hl1, hsm, hc1, hg1⟩
  have hR := Cur.blk_ HC0.out hR0 hg1 (by decide)
  have hB2 := hB1.trans (below_near hg1 (by omega) hB1.size)
  have hO := own_base hO1 hB1.size
  have HS := Lib.hid hsm
  clear hc1 hO1 hg1 hsm hR0 hB1 HC0
  have hf3 : Blk ((w1.setCell ⟨w.heap.size, 0, none⟩ (.int .i64 W)).setCell ⟨w.heap.size, 1, none⟩ (.slice D cs.length d)) w.heap.size 30 #[.int .i64 W, .slice D cs.length d] := by
    simpa using (hR.set_ 0 (.int .i64 W)).set_ 1 (.slice D cs.length d)
  obtain ⟨r0, r1⟩ := hf3.two
  have R0 := Lib.hid r0; have R1 := Lib.hid r1
  obtain ⟨z0, z1⟩ := hR.two
  have f0 := hR.frozen 0
  have f1 := hR.frozen 1
  have hrl := hR.lt
  have hgs := near_set (near_set (near_refl w1 (some w.heap.size)) 0 (.int .i64 W)) 1 (.slice D cs.length d)
  have HOF := Lib.hid (hO.kept hgs (.inr (own_blk_ne hO hR (by decide))))
  have HBF := Lib.hid (hB2.trans (below_near hgs (Nat.le_refl _) hB2.size))
  clear hf3 r0 r1 hgs
  go_wp2_with fail
  exact bodyPost_ret (v := .agg #[.int .i64 W, .slice D cs.length d]) (by simp [results, Tryd.results33, go_sem, R0.out, R1.out]) rfl (GotM.mk ⟨W, D, cs, d, rfl, HOF.out, hW, hl1, HS.out, HBF.out⟩)
end Go.Proofs.YtfpojoabfdiadaaDoor
