/- The walk of the law on texts of networks. -/
import Derived.Test.YtfpojoabfdiadaaDoorParQ
import Derived.Test.YtfpojoabfdiadaaDoorTxtG
import Derived.Test.YtfpojoabfdiadaaDoorVN
namespace Go.Proofs.YtfpojoabfdiadaaDoor
open Go.RowKit
set_option linter.unusedVariables false
theorem fmt_len (W : Int) (z : List (Int × Int)) : (fmtV W z).length ≤ 1202 := by
  unfold fmtV
  split
  · rename_i h; exact txt_short h
  · simp
theorem fmt_par {W : Int} {z : List (Int × Int)} (h : netOk W z = true) : iGood (fmtV W z) = true ∧ parW (fmtV W z) = W ∧ parZ (fmtV W z) = z := by
  unfold fmtV
  rw [if_pos h]
  exact par_txt h
theorem par_fmt {l : List UInt8} (h : iGood l = true) : netOk (parW l) (parZ l) = true ∧ fmtV (parW l) (parZ l) = l := by
  obtain ⟨h1, h2⟩ := par_ok h
  unfold fmtV
  rw [if_pos h1]
  exact ⟨h1, h2⟩
set_option maxRecDepth 100000 in
set_option maxHeartbeats 6400000 in
theorem FnNetworkText_any (A : Option Addr) (ks : List Nat) (c : Nat) (w : World) (hr : Reads w w.heap.size 1 A ks.length (byts ks)) (hm : ks.length ≤ maxLen) (hbb : ∀ b ∈ ks, b ≤ 255) (hd : DoorW w) :
    Calls Tryd.prog 5 #[.slice A ks.length c] w fun e w' => e = .returned (.bool true) ∧ Below w.heap.size w w' := by
  have HVB := Lib.hid (fun w => vBig_any A ks.length c w hm)
  by_cases hbig : 65536 < ks.length
  case pos =>
    have HB := Lib.hid (show decide (65536 < ks.length) = true by simpa using hbig)
    clear hbig
    go_enter Tryd.func5, Tryd.ntmps5
    go_wp2_with (go_at_call 15; refine (HVB.out _).mono ?_; rintro e w' ⟨rfl, rfl⟩; rw [HB.out])
    go_ret
    exact ⟨rfl, Below.refl _ _⟩
  have hsm : ks.length ≤ 65536 := by omega
  have HB := Lib.hid (show decide (65536 < ks.length) = false by simpa using hbig)
  clear hbig
  have HD := Lib.hid (DrawFormatNetwork_any A ks c w hr hbb hsm)
  have HDD := Lib.hid (fun w' (h : Below w.heap.size w w') => DrawParseNetwork_any A ks c w' ((hr.below h).more h.size) hbb hsm)
  have HDW := Lib.hid hd
  clear hr hbb hsm hd
  have x1 : ∀ x : Int, (x != x) = false := by simp
  have x2 : ∀ x : Bool, (x != x) = false := by simp
  go_enter Tryd.func5, Tryd.ntmps5
  go_wp2_with (go_at_call 15; refine (HVB.out _).mono ?_; rintro e w' ⟨rfl, rfl⟩; rw [HB.out])
  refine HD.out.mono ?_
  rintro e w1 ⟨W, D, cs, d, rfl, oC, hW, hl1, hsmc, hb1⟩
  clear hsmc
  have hN0 := Blk.new w1 30 #[.int .i64 W, .slice D cs.length d]
  have oC0 := oC.alloc (.cells #[.int .i64 W, .slice D cs.length d] 30)
  have hB0 := alloc_ hb1 (.cells #[.int .i64 W, .slice D cs.length d] 30)
  clear oC hb1
  obtain ⟨q0, q1⟩ := hN0.two
  have ql := hN0.lt
  go_wp2_with fail
  generalize w1.alloc (.cells #[.int .i64 W, .slice D cs.length d] 30) = w2 at *
  generalize w1.heap.size = gN at *
  have HSF := Lib.hid (fun w' h => sFormatNetwork_any W D cs d w' h (by omega))
  refine (FormatNetwork_any W D cs d _ (Reads.of_own oC0) (by omega)).mono ?_
  rintro e w3 ⟨rfl, b3⟩
  clear q0 q1 ql
  have hN1 := hN0.below b3 hN0.lt
  have oC1 := own_below oC0 b3 (Nat.le_refl _)
  have hB1 := hB0.trans (b3.mono hB0.size)
  clear hN0 oC0 hB0
  obtain ⟨q0, q1⟩ := hN1.two
  have ql := hN1.lt
  have HF : Hid (netOk W cs = true → iGood (fmtV W cs) = true ∧ parW (fmtV W cs) = W ∧ parZ (fmtV W cs) = cs) := Lib.hid (fun h => fmt_par h)
  have hsl := fmt_len W cs
  generalize fmtV W cs = sl at *
  generalize netOk W cs = ok at *
  go_wp2_with fail
  refine (HSF.out _ (Reads.of_own oC1)).mono ?_
  rintro e w4 ⟨rfl, b4⟩
  clear q0 q1 ql
  have hN2 := hN1.below b4 hN1.lt
  have oC2 := own_below oC1 b4 (Nat.le_refl _)
  have hB2 := hB1.trans (b4.mono hB1.size)
  clear hN1 oC1 hB1
  go_wp2_with fail
  refine (HDD.out _ hB2).mono ?_
  rintro e w5 ⟨s, rfl, hss, b5⟩
  obtain ⟨tl, rfl⟩ : ∃ tl, s = bs tl := ⟨s.data.toList, (of_bs s).symm⟩
  rw [bs_size] at hss
  have hN3 := hN2.below b5 hN2.lt
  have oC3 := own_below oC2 b5 (Nat.le_refl _)
  have hB3 := hB2.trans (b5.mono hB2.size)
  clear hN2 oC2 hB2
  have HSP := Lib.hid (fun w' => sParseNetwork_any tl w' (by omega))
  have hzl := parZ_len tl
  have HT : Hid (iGood tl = true → netOk (parW tl) (parZ tl) = true ∧ fmtV (parW tl) (parZ tl) = tl) := Lib.hid (fun h => par_fmt h)
  have HPI := Lib.hid (ParseNetwork_any tl w5 (HDW.out.below hB3 (Nat.le_refl _)) (by omega))
  generalize parW tl = Y at *
  generalize parZ tl = vs at *
  generalize iGood tl = fine at *
  go_wp2_with fail
  refine HPI.out.mono ?_
  rintro e w6 ⟨G, g, rfl, oG, b6⟩
  clear HPI
  have hN4 := hN3.below b6 hN3.lt
  have oC4 := own_below oC3 b6 (Nat.le_refl _)
  have hB4 := hB3.trans (b6.mono hB3.size)
  clear hN3 oC3 hB3
  have hN5 := hN4.alloc (.cells #[.int .i64 Y, .slice G vs.length g] 30)
  have oC5 := oC4.alloc (.cells #[.int .i64 Y, .slice G vs.length g] 30)
  have hB5 := alloc_ hB4 (.cells #[.int .i64 Y, .slice G vs.length g] 30)
  clear hN4 oC4 hB4
  have oG5 := oG.alloc (.cells #[.int .i64 Y, .slice G vs.length g] 30)
  have hG5 := Blk.new w6 30 #[.int .i64 Y, .slice G vs.length g]
  clear oG
  go_wp2_with fail
  generalize w6.alloc (.cells #[.int .i64 Y, .slice G vs.length g] 30) = w7 at *
  generalize w6.heap.size = gG at *
  refine (HSP.out _).mono ?_
  rintro e w8 ⟨H, h, rfl, oH, b8⟩
  have hN6 := hN5.below b8 hN5.lt
  have oC6 := own_below oC5 b8 (Nat.le_refl _)
  have hB6 := hB5.trans (b8.mono hB5.size)
  have oG6 := own_below oG5 b8 (Nat.le_refl _)
  have hG6 := hG5.below b8 hG5.lt
  clear hN5 oC5 hB5 oG5 hG5
  have hN7 := hN6.alloc (.cells #[.int .i64 Y, .slice H vs.length h] 30)
  have oC7 := oC6.alloc (.cells #[.int .i64 Y, .slice H vs.length h] 30)
  have hB7 := alloc_ hB6 (.cells #[.int .i64 Y, .slice H vs.length h] 30)
  have oG7 := oG6.alloc (.cells #[.int .i64 Y, .slice H vs.length h] 30)
  have hG7 := hG6.alloc (.cells #[.int .i64 Y, .slice H vs.length h] 30)
  clear hN6 oC6 hB6 oG6 hG6
  have oH7 := oH.alloc (.cells #[.int .i64 Y, .slice H vs.length h] 30)
  have hH7 := Blk.new w8 30 #[.int .i64 Y, .slice H vs.length h]
  clear oH
  obtain ⟨q0, q1⟩ := hG7.two
  have ql := hG7.lt
  obtain ⟨r0, r1⟩ := hH7.two
  have rl := hH7.lt
  go_wp2_with fail
  generalize w8.alloc (.cells #[.int .i64 Y, .slice H vs.length h] 30) = w9 at *
  generalize w8.heap.size = gH at *
  refine (vNetwork_same Y G H vs g h _ (Reads.of_own oG7) (Reads.of_own oH7) (by omega)).mono ?_
  rintro e w10 ⟨rfl, b10⟩
  clear q0 q1 ql r0 r1 rl
  have hN8 := hN7.below b10 hN7.lt
  have oC8 := own_below oC7 b10 (Nat.le_refl _)
  have hB8 := hB7.trans (b10.mono hB7.size)
  have oG8 := own_below oG7 b10 (Nat.le_refl _)
  have hG8 := hG7.below b10 hG7.lt
  have oH8 := own_below oH7 b10 (Nat.le_refl _)
  have hH8 := hH7.below b10 hH7.lt
  clear hN7 oC7 hB7 oG7 hG7 oH7 hH7
  clear oH8 hH8
  have HPK := Lib.hid (ParseNetwork_any sl w10 (HDW.out.below hB8 (Nat.le_refl _)) (by omega))
  have hkl := parZ_len sl
  generalize parW sl = W2 at *
  generalize parZ sl = cs2 at *
  generalize iGood sl = ok2 at *
  go_wp2_with fail
  refine HPK.out.mono ?_
  rintro e w11 ⟨K, k, rfl, oK, b11⟩
  clear HPK
  have hN9 := hN8.below b11 hN8.lt
  have oC9 := own_below oC8 b11 (Nat.le_refl _)
  have hB9 := hB8.trans (b11.mono hB8.size)
  have oG9 := own_below oG8 b11 (Nat.le_refl _)
  have hG9 := hG8.below b11 hG8.lt
  clear hN8 oC8 hB8 oG8 hG8
  have hN10 := hN9.alloc (.cells #[.int .i64 W2, .slice K cs2.length k] 30)
  have oC10 := oC9.alloc (.cells #[.int .i64 W2, .slice K cs2.length k] 30)
  have hB10 := alloc_ hB9 (.cells #[.int .i64 W2, .slice K cs2.length k] 30)
  have oG10 := oG9.alloc (.cells #[.int .i64 W2, .slice K cs2.length k] 30)
  have hG10 := hG9.alloc (.cells #[.int .i64 W2, .slice K cs2.length k] 30)
  clear hN9 oC9 hB9 oG9 hG9
  have oK10 := oK.alloc (.cells #[.int .i64 W2, .slice K cs2.length k] 30)
  have hK10 := Blk.new w11 30 #[.int .i64 W2, .slice K cs2.length k]
  clear oK
  obtain ⟨q0, q1⟩ := hG10.two
  have ql := hG10.lt
  go_wp2_with fail
  generalize w11.alloc (.cells #[.int .i64 W2, .slice K cs2.length k] 30) = w12 at *
  generalize w11.heap.size = gK at *
  refine (FormatNetwork_any Y G vs g _ (Reads.of_own oG10) (by omega)).mono ?_
  rintro e w13 ⟨rfl, b13⟩
  clear q0 q1 ql
  have hN11 := hN10.below b13 hN10.lt
  have oC11 := own_below oC10 b13 (Nat.le_refl _)
  have hB11 := hB10.trans (b13.mono hB10.size)
  have oG11 := own_below oG10 b13 (Nat.le_refl _)
  have hG11 := hG10.below b13 hG10.lt
  have oK11 := own_below oK10 b13 (Nat.le_refl _)
  have hK11 := hK10.below b13 hK10.lt
  clear hN10 oC10 hB10 oG10 hG10 oK10 hK10
  generalize netOk Y vs = ok3 at *
  generalize fmtV Y vs = al at *
  have hee : ∀ l : List UInt8, ((bs l).toList == (bs l).toList) = true := by simp
  obtain ⟨q0, q1⟩ := hN11.two
  have ql := hN11.lt
  obtain ⟨r0, r1⟩ := hK11.two
  have rl := hK11.lt
  cases ok
  · cases fine
    · clear HF HT
      go_wp2_with fail
      go_ret
      exact ⟨rfl, hB11⟩
    · obtain ⟨rfl, rfl⟩ := HT.out rfl
      clear HF HT
      go_wp2_with fail
      go_ret
      exact ⟨rfl, hB11⟩
  · cases fine
    · obtain ⟨rfl, rfl, rfl⟩ := HF.out rfl
      clear HF HT
      go_wp2_with fail
      refine (vNetwork_same W2 K D cs2 k d _ (Reads.of_own oK11) (Reads.of_own oC11) (by omega)).mono ?_
      rintro e w14 ⟨rfl, b14⟩
      go_wp2_with fail
      go_ret
      exact ⟨rfl, hB11.trans (b14.mono hB11.size)⟩
    · obtain ⟨rfl, rfl, rfl⟩ := HF.out rfl
      obtain ⟨rfl, rfl⟩ := HT.out rfl
      clear HF HT
      go_wp2_with fail
      refine (vNetwork_same W2 K D cs2 k d _ (Reads.of_own oK11) (Reads.of_own oC11) (by omega)).mono ?_
      rintro e w14 ⟨rfl, b14⟩
      go_wp2_with fail
      go_ret
      exact ⟨rfl, hB11.trans (b14.mono hB11.size)⟩
end Go.Proofs.YtfpojoabfdiadaaDoor
