/- Numbers read: the program's ParseInt. -/
import Derived.Test.YtfpojoabfdiadaaDoorParM
import Derived.Test.YtfpojoabfdiadaaDoorTxtF
import Derived.Lib.SmallJoins
import Derived.Lib.AppendIntMem
import Derived.Lib.AtoiErrMem
import Derived.Lib.AtoiBound
namespace Go.Proofs.YtfpojoabfdiadaaDoor
open Go.RowKit
set_option linter.unusedVariables false
/-- what the row's listed variables give the walks -/
structure DoorW (w : World) : Prop where
  mx : ∃ m, w.cell? ⟨0, 0, none⟩ = some (.int .i64 m)
  es : ∃ t p, w.cell? ⟨2, 0, none⟩ = some (.iface t p)
  tab : Lib.TabIs Tryd.prog w "internal/strconv.uint64pow10" .u64 Lib.pow10Tab
theorem cell_stays {w w' : World} {B : Nat} {a : Addr} {v : Value} (h : w.cell? a = some v) (hb : Below B w w') (hB : w.heap.size ≤ B) : w'.cell? a = some v :=
  (hb.cell (Nat.lt_of_lt_of_le (World.block_lt_of_cell? _ _ h) hB)).trans h
theorem DoorW.below {w w' : World} {B : Nat} (h : DoorW w) (hb : Below B w w') (hB : w.heap.size ≤ B) : DoorW w' := by
  obtain ⟨⟨m, h1⟩, ⟨t, p, h2⟩, h3⟩ := h
  exact ⟨⟨m, cell_stays h1 hb hB⟩, ⟨t, p, cell_stays h2 hb hB⟩, Joins.tab_stays (show Tryd.prog.globalNamed "internal/strconv.uint64pow10" = some 1 by kernel_rfl) h3 hb hB⟩
theorem FormatInt_any (n : Int) (h0 : -9223372036854775808 ≤ n) (h1 : n ≤ 9223372036854775807) (w : World) (hd : DoorW w) :
    Calls Tryd.prog 47 #[.int .i64 n] w fun e w' => e = .returned (.tuple #[.string (bs (if inB n (-999999) 999999 then num n else [])), .bool (inB n (-999999) 999999)]) ∧ Below w.heap.size w w' := by
  have ht := Lib.hid hd.tab
  cases h : inB n (-999999) 999999
  · go_enter Tryd.func47, Tryd.ntmps47
    go_wp2_with (go_at_call 40; refine (in_any _ _ _ _).mono ?_; rintro e w' ⟨rfl, rfl⟩)
    go_ret2
    exact ⟨rfl, Below.refl _ _⟩
  · go_enter Tryd.func47, Tryd.ntmps47
    go_wp2_with (first | (go_at_call 40; refine (in_any _ _ _ _).mono ?_; rintro e w' ⟨rfl, rfl⟩) | (go_at_call 24; refine (Tryd.strconv_Itoa n h0 h1 _ ht.out).mono ?_; rintro e w' ⟨rfl, k, os, rfl⟩))
    go_ret2
    exact ⟨rfl, Lib.below_grow _ _ (Nat.le_refl _) _ _⟩
set_option maxRecDepth 100000 in
set_option maxHeartbeats 800000 in
theorem ParseInt_any (l : List UInt8) (w : World) (hd : DoorW w) (hl : l.length ≤ 4294967280) :
    Calls Tryd.prog 29 #[.string (bs l)] w fun e w' => e = .returned (.tuple #[.int .i64 (iRead l).1, .bool (iRead l).2]) ∧ Below w.heap.size w w' := by
  have hsz : (bs l).size = l.length := bs_size l
  by_cases h7 : 7 < l.length
  · have e0 : iRead l = (0, false) := by unfold iRead; rw [if_neg (by omega)]
    have h7' : (7 : Int) < l.length := by omega
    rw [e0]
    go_enter Tryd.func29, Tryd.ntmps29
    go_wp2_with fail
    go_ret2
    exact ⟨rfl, Below.refl _ _⟩
  have h7' : ¬ (7 : Int) < l.length := by omega
  have HS := Lib.hid hsz
  cases ha : Lib.atoi l with
  | none =>
    have e0 : iRead l = (0, false) := by unfold iRead; rw [if_pos (by omega), ha]
    rw [e0]
    have HD := Lib.hid hd
    obtain ⟨t, p, hes⟩ := hd.es
    have HA := Lib.hid (Tryd.strconv_Atoi_err (bs l) (by rw [hsz]; omega) (by rw [bs_data]; exact ha) (.iface t p) w hes (Or.inr ⟨t, p, rfl⟩))
    clear ha hes
    go_enter Tryd.func29, Tryd.ntmps29
    go_wp2_with fail
    refine HA.out.mono ?_
    rintro e w1 ⟨N, rfl, _, _, hb1⟩
    have HD1 := Lib.hid (HD.out.below hb1 (Nat.le_refl _))
    go_wp2_with fail
    refine (FormatInt_any 0 (by omega) (by omega) w1 HD1.out).mono ?_
    rintro e w2 ⟨rfl, hb2⟩
    have hb3 := bthen hb1 hb2
    go_wp2_with fail
    go_ret2
    exact ⟨rfl, hb3⟩
  | some n =>
    have hbd := Lib.atoi_bound ha (by omega)
    have e0 : iRead l = if (-999999 ≤ n ∧ n ≤ 999999) ∧ num n = l then (n, true) else (0, false) := by unfold iRead; rw [if_pos (by omega), ha]
    have HD := Lib.hid hd
    have HA := Lib.hid (Tryd.strconv_Atoi (bs l) n (by rw [hsz]; omega) (by rw [bs_data]; exact ha) w)
    have E0 := Lib.hid e0
    obtain ⟨n0, n1⟩ := hbd
    clear ha e0 hsz
    go_enter Tryd.func29, Tryd.ntmps29
    go_wp2_with fail
    refine HA.out.mono ?_
    rintro e w1 ⟨rfl, t, hw1⟩
    have hb1 : Below w.heap.size w w1 := by rw [hw1]; exact Lib.bytesWorld_below _ _ _
    clear hw1
    have HD1 := Lib.hid (HD.out.below hb1 (Nat.le_refl _))
    go_wp2_with fail
    refine (FormatInt_any n (by omega) (by omega) w1 HD1.out).mono ?_
    rintro e w2 ⟨rfl, hb2⟩
    have hb3 := bthen hb1 hb2
    cases hin : inB n (-999999) 999999
    · have e1 : iRead l = (0, false) := by rw [E0.out, if_neg (fun h => by rw [inB_iff.2 h.1] at hin; cases hin)]
      go_wp2_with fail
      go_ret2
      exact ⟨by rw [e1]; rfl, hb3⟩
    · have hin' := inB_iff.1 hin
      by_cases hnl : num n = l
      · have e1 : iRead l = (n, true) := by rw [E0.out, if_pos ⟨hin', hnl⟩]
        subst hnl
        go_wp2_with fail
        go_ret2
        exact ⟨by rw [e1]; rfl, hb3⟩
      · have e1 : iRead l = (0, false) := by rw [E0.out, if_neg (fun h => hnl h.2)]
        have hne : ((bs (num n)).toList == (bs l).toList) = false := by rw [bs_toList, bs_toList]; simpa using hnl
        go_wp2_with fail
        go_ret2
        exact ⟨by rw [e1]; rfl, hb3⟩
end Go.Proofs.YtfpojoabfdiadaaDoor
