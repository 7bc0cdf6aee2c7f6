/- The walk of the law on merge networks. -/
import Derived.Test.YteigceeghnphmaaMgM
import Derived.Test.YteigceeghnphmaaVN
import Derived.Test.YteigceeghnphmaaMergesS
import Derived.Test.YteigceeghnphmaaDrawS
import Derived.Test.YteigceeghnphmaaFirst
namespace Go.Proofs.Yteigceeghnphmaa
open Go.RowKit
set_option linter.unusedVariables false
set_option maxRecDepth 100000 in
set_option maxHeartbeats 6400000 in
theorem FnMergeNetwork_any (A : Option Addr) (bs : List Nat) (c : Nat) (w : World) (hr : Reads w w.heap.size 1 A bs.length (byts bs)) (hm : bs.length ≤ maxLen) (hbb : ∀ b ∈ bs, b ≤ 255) :
    Calls Try.prog 4 #[.slice A bs.length c] w fun e w' => e = .returned (.bool true) ∧ Below w.heap.size w w' := by
  have HVB := Lib.hid (fun w => vBig_any A bs.length c w hm)
  by_cases hbig : 65536 < bs.length
  case pos =>
    have HB := Lib.hid (show decide (65536 < bs.length) = true by simpa using hbig)
    clear hbig
    go_enter Try.func4, Try.ntmps4
    go_wp2_with (go_at_call 9; refine (HVB.out _).mono ?_; rintro e w' ⟨rfl, rfl⟩; rw [HB.out])
    go_ret
    exact ⟨rfl, Below.refl _ _⟩
  have hsm : bs.length ≤ 65536 := by omega
  have HB := Lib.hid (show decide (65536 < bs.length) = false by simpa using hbig)
  clear hbig
  have HD := Lib.hid (DrawMergeNetwork_any A bs c w hr hbb hsm)
  have HDS := Lib.hid (fun w' (h : Below w.heap.size w w') => DrawMergesSorted_any A bs c w' ((hr.below h).more h.size) hbb hsm)
  clear hr hbb hsm
  have x1 : ∀ x : Int, (x != x) = false := by simp
  have x2 : ∀ x : Bool, (x != x) = false := by simp
  have x3 : ∀ x : Int, (x == x) = true := by simp
  go_enter Try.func4, Try.ntmps4
  go_wp2_with (go_at_call 9; refine (HVB.out _).mono ?_; rintro e w' ⟨rfl, rfl⟩; rw [HB.out])
  refine HD.out.mono ?_
  rintro e w1 ⟨a, b, ha, hb, rfl, hb1⟩
  go_wp2_with fail
  refine (MergeNetwork_any (a : Int) (b : Int) _).mono ?_
  rintro e w2 ⟨P, p, rfl, oPa, b2⟩
  have hB0 := hb1.trans (b2.mono hb1.size)
  have hB1 := alloc_ hB0 (.cells #[.int .i64 (mergeW a b), .slice P (mergeV a b).length p] 26)
  clear hB0
  have oP1 := oPa.alloc (.cells #[.int .i64 (mergeW a b), .slice P (mergeV a b).length p] 26)
  have hP1 := Blk.new w2 26 #[.int .i64 (mergeW a b), .slice P (mergeV a b).length p]
  clear oPa
  have hml := mergeV_len (a : Int) (b : Int)
  have HMG := Lib.hid (fun h => merge_good (a := a) (b := b) h)
  have HMW : Hid (mergeOk (a : Int) (b : Int) = false → mergeW (a : Int) (b : Int) = 0) := Lib.hid (fun h => by simp [mergeW, h])
  generalize hps : mergeV (a : Int) (b : Int) = ps at *
  generalize hvv : mergeW (a : Int) (b : Int) = V at *
  obtain ⟨ok, hok⟩ : ∃ ok, mergeOk (a : Int) (b : Int) = ok := ⟨_, rfl⟩
  have HPS := Lib.hid hps; have HVV := Lib.hid hvv; have HOK := Lib.hid hok
  rw [hok] at HMG HMW ⊢
  clear hps hvv hok
  go_wp2_with fail
  generalize w2.alloc (.cells #[.int .i64 V, .slice P ps.length p] 26) = w3 at *
  generalize hgP : w2.heap.size = gP at *
  clear hgP
  refine (sMergeNetwork_any (a : Int) (b : Int) _).mono ?_
  rintro e w4 ⟨Q, qq, rfl, oQa, b4⟩
  rw [HPS.out] at oQa
  rw [HPS.out, HVV.out, HOK.out]
  have hB2 := hB1.trans (b4.mono hB1.size)
  have oP2 := own_below oP1 b4 (Nat.le_refl _)
  have hP2 := hP1.below b4 hP1.lt
  clear hB1 oP1 hP1
  have hB3 := alloc_ hB2 (.cells #[.int .i64 V, .slice Q ps.length qq] 26)
  have oP3 := oP2.alloc (.cells #[.int .i64 V, .slice Q ps.length qq] 26)
  have hP3 := hP2.alloc (.cells #[.int .i64 V, .slice Q ps.length qq] 26)
  clear hB2 oP2 hP2
  have oQ3 := oQa.alloc (.cells #[.int .i64 V, .slice Q ps.length qq] 26)
  have hQ3 := Blk.new w4 26 #[.int .i64 V, .slice Q ps.length qq]
  clear oQa
  obtain ⟨q0, q1⟩ := hP3.two
  have ql := hP3.lt
  obtain ⟨r0, r1⟩ := hQ3.two
  have rl := hQ3.lt
  go_wp2_with fail
  generalize w4.alloc (.cells #[.int .i64 V, .slice Q ps.length qq] 26) = w5 at *
  generalize hgQ : w4.heap.size = gQ at *
  clear hgQ
  refine (vNetwork_same V P Q ps p qq _ (Reads.of_own oP3) (Reads.of_own oQ3) (by omega)).mono ?_
  rintro e w6 ⟨rfl, b6⟩
  clear q0 q1 ql
  clear r0 r1 rl
  have hB4 := hB3.trans (b6.mono hB3.size)
  have oP4 := own_below oP3 b6 (Nat.le_refl _)
  have hP4 := hP3.below b6 hP3.lt
  have oQ4 := own_below oQ3 b6 (Nat.le_refl _)
  have hQ4 := hQ3.below b6 hQ3.lt
  clear hB3 oP3 hP3 oQ3 hQ3
  clear oQ4 hQ4
  go_wp2_with fail
  refine (HDS.out w6 hB4).mono ?_
  rintro e w7 ⟨U, D, cs, d, k, rfl, oC, hcl, b7⟩
  have hB5 := hB4.trans (b7.mono hB4.size)
  have oP5 := own_below oP4 b7 (Nat.le_refl _)
  have hP5 := hP4.below b7 hP4.lt
  clear hB4 oP4 hP4
  have hB6 := alloc_ hB5 (.cells #[.int .i64 U, .slice D cs.length d] 26)
  have oP6 := oP5.alloc (.cells #[.int .i64 U, .slice D cs.length d] 26)
  have hP6 := hP5.alloc (.cells #[.int .i64 U, .slice D cs.length d] 26)
  clear hB5 oP5 hP5
  have oC6 := oC.alloc (.cells #[.int .i64 U, .slice D cs.length d] 26)
  have hM6 := Blk.new w7 26 #[.int .i64 U, .slice D cs.length d]
  clear oC
  obtain ⟨q0, q1⟩ := hM6.two
  have ql := hM6.lt
  go_wp2_with fail
  generalize w7.alloc (.cells #[.int .i64 U, .slice D cs.length d] 26) = w8 at *
  generalize hgM : w7.heap.size = gM at *
  clear hgM
  refine (MergesSorted_any U D cs d k _ (Reads.of_own oC6) (by omega)).mono ?_
  rintro e w9 ⟨rfl, b9⟩
  clear q0 q1 ql
  have hB7 := hB6.trans (b9.mono hB6.size)
  have oP7 := own_below oP6 b9 (Nat.le_refl _)
  have hP7 := hP6.below b9 hP6.lt
  have oC7 := own_below oC6 b9 (Nat.le_refl _)
  have hM7 := hM6.below b9 hM6.lt
  clear hB6 oP6 hP6 oC6 hM6
  obtain ⟨q0, q1⟩ := hM7.two
  have ql := hM7.lt
  have HMS := Lib.hid (sMergesSorted_any U D cs d k _ (Reads.of_own oC7) (by omega))
  have HSM := Lib.hid (fun h1 h2 h3 => sorts_merges (W := U) (cs := cs) (a := k) h1 h2 h3)
  obtain ⟨yes, hyes⟩ : ∃ yes, msV U cs k = yes := ⟨_, rfl⟩
  obtain ⟨told, htold⟩ : ∃ told, msOk U cs k = told := ⟨_, rfl⟩
  rw [hyes, htold] at HMS HSM ⊢
  clear hyes htold
  go_wp2_with fail
  refine HMS.out.mono ?_
  rintro e w10 ⟨rfl, b10⟩
  clear HMS
  clear q0 q1 ql
  have hB8 := hB7.trans (b10.mono hB7.size)
  have oP8 := own_below oP7 b10 (Nat.le_refl _)
  have hP8 := hP7.below b10 hP7.lt
  have oC8 := own_below oC7 b10 (Nat.le_refl _)
  have hM8 := hM7.below b10 hM7.lt
  clear hB7 oP7 hP7 oC7 hM7
  obtain ⟨q0, q1⟩ := hM8.two
  have ql := hM8.lt
  go_wp2_with fail
  refine (FirstUnsorted_any U D cs d _ (Reads.of_own oC8) (by omega)).mono ?_
  rintro e w11 ⟨rfl, b11⟩
  obtain ⟨X, hX⟩ : ∃ X, fuV U cs = X := ⟨_, rfl⟩
  obtain ⟨ck, hck⟩ : ∃ ck, chkOk U cs = ck := ⟨_, rfl⟩
  rw [hX, hck] at HSM ⊢
  clear hX hck
  clear q0 q1 ql
  have hB9 := hB8.trans (b11.mono hB8.size)
  have oP9 := own_below oP8 b11 (Nat.le_refl _)
  have hP9 := hP8.below b11 hP8.lt
  have oC9 := own_below oC8 b11 (Nat.le_refl _)
  have hM9 := hM8.below b11 hM8.lt
  clear hB8 oP8 hP8 oC8 hM8
  clear oC9 hM9
  go_upto_region 14 with fail
  go_cut [88] (fun v wc => v = .bool false ∧ w11 = wc)
  case first =>
    cases told
    case false =>
      go_wp2_with fail
      go_meet
      exact ⟨rfl, rfl⟩
    case true =>
      cases ck
      case false =>
        go_wp2_with fail
        go_meet
        exact ⟨rfl, rfl⟩
      case true =>
        by_cases hX : X = -1
        · have hy := HSM.out rfl rfl hX
          subst hX
          subst hy
          go_wp2_with fail
          go_meet
          exact ⟨rfl, rfl⟩
        · have hX2 : (X == -1) = false := by simpa using hX
          go_wp2_with fail
          go_meet
          exact ⟨rfl, rfl⟩
  case rest =>
    obtain ⟨rfl, rfl⟩ := hcut
    obtain ⟨q0, q1⟩ := hP9.two
    have ql := hP9.lt
    cases ok
    case false =>
      have h0 := HMW.out rfl
      subst h0
      go_wp2_with fail
      go_ret
      exact ⟨rfl, hB9⟩
    case true =>
      obtain ⟨g1, g2⟩ := HMG.out rfl
      have HMUL : Hid (((a : Int) * (b : Int)) = (ps.length : Int)) := Lib.hid (by rw [g1]; simp)
      have G2 := Lib.hid g2
      clear g1 g2
      go_wp2_with fail
      refine (MergesSorted_any V P ps p (a : Int) _ (Reads.of_own oP9) (by omega)).mono ?_
      rintro e w12 ⟨rfl, b12⟩
      clear q0 q1 ql
      have hB10 := hB9.trans (b12.mono hB9.size)
      have oP10 := own_below oP9 b12 (Nat.le_refl _)
      have hP10 := hP9.below b12 hP9.lt
      clear hB9 oP9 hP9
      obtain ⟨q0, q1⟩ := hP10.two
      have ql := hP10.lt
      obtain ⟨ys, hys⟩ : ∃ ys, msV V ps (a : Int) = ys := ⟨_, rfl⟩
      obtain ⟨kn, hkn⟩ : ∃ kn, msOk V ps (a : Int) = kn := ⟨_, rfl⟩
      have g2 := G2.out
      rw [hys, hkn] at g2 ⊢
      clear hys hkn
      have hmul := HMUL.out
      cases kn
      case false =>
        go_wp2_with fail
        go_ret
        exact ⟨rfl, hB10⟩
      case true =>
        have h3 := g2 rfl
        subst h3
        go_wp2_with fail
        go_ret
        exact ⟨rfl, hB10⟩
end Go.Proofs.Yteigceeghnphmaa
