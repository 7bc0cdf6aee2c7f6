/- The walk of the law on trees. -/
import Derived.Test.YteigceeghnphmaaDrawR
import Derived.Test.YteigceeghnphmaaVT
import Derived.Test.YteigceeghnphmaaTreeM
import Derived.Test.YteigceeghnphmaaTreeVS
import Derived.Test.YteigceeghnphmaaTreeRS
import Derived.Test.YteigceeghnphmaaTreeBS
import Derived.Test.YteigceeghnphmaaVC
import Derived.Deep.DeepCutAuto
namespace Go.Proofs.Yteigceeghnphmaa
open Go.RowKit
set_option linter.unusedVariables false
section
variable {w w' : World} {AK AD AL : Option Addr} {nK nD nL : Nat} {ks ls : List Int} {ds : List Bool}
theorem rt_bel (h : ReadsT w w.heap.size AK nK AD nD AL nL ks ds ls) (b : Below w.heap.size w w') : ReadsT w' w'.heap.size AK nK AD nD AL nL ks ds ls := ⟨(h.1.below b).more b.size, (h.2.1.below b).more b.size, (h.2.2.below b).more b.size⟩
theorem rt_alloc (h : ReadsT w w.heap.size AK nK AD nD AL nL ks ds ls) (o : Obj) : ReadsT (w.alloc o) (w.alloc o).heap.size AK nK AD nD AL nL ks ds ls := rt_bel h (alloc_ (Below.refl _ _) o)
theorem rt_drew (h : ReadsT w w.heap.size AK nK AD nD AL nL ks ds ls) : ReadsT w.drew w.drew.heap.size AK nK AD nD AL nL ks ds ls := h
theorem rt_dn (h : ReadsT w w.heap.size AK nK AD nD AL nL ks ds ls) (n : Nat) : ReadsT (w.drewN n) (w.drewN n).heap.size AK nK AD nD AL nL ks ds ls := h
theorem rt_own {base C cK cD cL : Nat} (h : TreeRC w base C 3 4 AK nK cK AD nD cD AL nL cL ks ds ls) : ReadsT w w.heap.size AK nK AD nD AL nL ks ds ls := ⟨Reads.of_own h.k, Reads.of_own h.d, Reads.of_own h.l⟩
end
theorem tw3 {w : World} {g h k : Nat} {T : TypeId} {a0 a1 a2 a3 b0 b1 b2 b3 c0 c1 c2 c3 : Value} (x : Blk w g T #[a0, a1, a2, a3]) (y : Blk w h T #[b0, b1, b2, b3]) (z : Blk w k T #[c0, c1, c2, c3]) :
    (w.cell? ⟨g, 0, none⟩ = some a0 ∧ w.cell? ⟨g, 1, none⟩ = some a1 ∧ w.cell? ⟨g, 2, none⟩ = some a2 ∧ w.cell? ⟨g, 3, none⟩ = some a3) ∧ (w.cell? ⟨h, 0, none⟩ = some b0 ∧ w.cell? ⟨h, 1, none⟩ = some b1 ∧ w.cell? ⟨h, 2, none⟩ = some b2 ∧ w.cell? ⟨h, 3, none⟩ = some b3) ∧ (w.cell? ⟨k, 0, none⟩ = some c0 ∧ w.cell? ⟨k, 1, none⟩ = some c1 ∧ w.cell? ⟨k, 2, none⟩ = some c2 ∧ w.cell? ⟨k, 3, none⟩ = some c3) := ⟨x.four, y.four, z.four⟩
theorem vt_same (AK BK AD BD AL BL : Option Addr) (ks ls : List Int) (ds : List Bool) (cK dK cD dD cL dL : Nat) (W : Int) (w : World) (hs : ks.length ≤ 64 ∧ ds.length ≤ 64 ∧ ls.length ≤ 64)
    (hx : ReadsT w w.heap.size AK ks.length AD ds.length AL ls.length ks ds ls) (hy : ReadsT w w.heap.size BK ks.length BD ds.length BL ls.length ks ds ls) :
    Calls Try.prog 46 #[.agg #[.slice AK ks.length cK, .slice AD ds.length cD, .slice AL ls.length cL, .int .i64 W], .agg #[.slice BK ks.length dK, .slice BD ds.length dD, .slice BL ls.length dL, .int .i64 W]] w fun e w' => e = .returned (.bool true) ∧ Below w.heap.size w w' :=
  vTree_same AK BK AD BD AL BL ks ls ds _ _ _ cK dK cD dD cL dL W w rfl rfl rfl hs hx.1 hy.1 hx.2.1 hy.2.1 hx.2.2 hy.2.2
theorem DrawIsValidList_any (A : Option Addr) (bs : List Nat) (c : Nat) (w : World) (hr : Reads w w.heap.size 1 A bs.length (byts bs)) (hb : ∀ b ∈ bs, b ≤ 255) (hl : bs.length ≤ 65536) :
    Calls Try.prog 97 #[.slice A bs.length c] w (GotL 3 w fun zs => zs.length ≤ 65) := by
  have HC0 := Lib.hid (cur_box (c := c) hr hb hl)
  have hB0 := alloc_ (Below.refl w.heap.size w) (.cells #[.slice A bs.length c, .int .i64 0, .int .u64 0] 73)
  clear hr hb
  go_enter Try.func97, Try.ntmps97
  go_wp2_with fail
  refine (anyInts_any w.heap.size A bs c 0 _ HC0.out (by omega)).mono ?_
  rintro e w1 ⟨v, zs, rfl, hO1, hl1, hs1, hc1, hg1⟩
  have hB1 := hB0.trans (below_near hg1 (Nat.le_refl _) hB0.size)
  have hO1' := own_base hO1 hB0.size
  clear hc1 hO1 hs1 hg1
  go_wp2_with fail
  go_ret
  exact GotL.mk ⟨_, zs, rfl, hO1', hl1, hB1⟩
theorem DrawBuildTree_any (A : Option Addr) (bs : List Nat) (c : Nat) (w : World) (hr : Reads w w.heap.size 1 A bs.length (byts bs)) (hb : ∀ b ∈ bs, b ≤ 255) (hl : bs.length ≤ 65536) :
    Calls Try.prog 49 #[.slice A bs.length c] w (GotL 3 w fun zs => zs.length ≤ 65) := by
  go_enter Try.func49, Try.ntmps49
  go_wp2_with fail
  refine (DrawIsValidList_any A bs c w hr hb hl).mono ?_
  rintro e w1 ⟨v, zs, rfl, hO1, hl1, hb1⟩
  go_wp2_with fail
  go_ret
  exact GotL.mk ⟨_, zs, rfl, hO1, hl1, hb1⟩
set_option maxRecDepth 100000 in
set_option maxHeartbeats 6400000 in
theorem FnTree_any (A : Option Addr) (bs : List Nat) (c : Nat) (w : World) (hr : Reads w w.heap.size 1 A bs.length (byts bs)) (hm : bs.length ≤ maxLen) (hbb : ∀ b ∈ bs, b ≤ 255) :
    Calls Try.prog 8 #[.slice A bs.length c] w fun e w' => e = .returned (.bool true) ∧ Below w.heap.size w w' := by
  have HVB := Lib.hid (fun w => vBig_any A bs.length c w hm)
  by_cases hbig : 65536 < bs.length
  case pos =>
    have HB := Lib.hid (show decide (65536 < bs.length) = true by simpa using hbig)
    clear hbig
    go_enter Try.func8, Try.ntmps8
    go_wp2_with (go_at_call 9; refine (HVB.out _).mono ?_; rintro e w' ⟨rfl, rfl⟩; rw [HB.out])
    go_ret
    exact ⟨rfl, Below.refl _ _⟩
  have hsm : bs.length ≤ 65536 := by omega
  have HB := Lib.hid (show decide (65536 < bs.length) = false by simpa using hbig)
  clear hbig
  have HD := Lib.hid (DrawReplaceWinner_any A bs c w hr hbb hsm)
  have HDB := Lib.hid (fun w' (h : Below w.heap.size w w') => DrawBuildTree_any A bs c w' ((hr.below h).more h.size) hbb hsm)
  clear hr hbb hsm
  have x1 : ∀ x : Int, (x != x) = false := by simp
  have x2 : ∀ x : Bool, (x != x) = false := by simp
  have x3 : ∀ x : Int, (x == x) = true := by simp
  have x4 : ∀ x : Bool, (x == x) = true := by simp
  go_enter Try.func8, Try.ntmps8
  go_wp2_with (go_at_call 9; refine (HVB.out _).mono ?_; rintro e w' ⟨rfl, rfl⟩; rw [HB.out])
  refine HD.out.mono ?_
  rintro e w1 ⟨AK, ks, cK, AD, ds, cD, AL, ls, cL, W, key, done, rfl, hRT, l1, l2, l3, hb1⟩
  have RT0 := rt_alloc hRT (.cells #[.slice AK ks.length cK, .slice AD ds.length cD, .slice AL ls.length cL, .int .i64 W] 57)
  have hT0 := Blk.new w1 57 #[.slice AK ks.length cK, .slice AD ds.length cD, .slice AL ls.length cL, .int .i64 W]
  have hB0 := alloc_ hb1 (.cells #[.slice AK ks.length cK, .slice AD ds.length cD, .slice AL ls.length cL, .int .i64 W] 57)
  clear hRT hb1
  obtain ⟨q0, q1, q2, q3⟩ := hT0.four
  have ql := hT0.lt
  go_wp2_with fail
  generalize w1.alloc (.cells #[.slice AK ks.length cK, .slice AD ds.length cD, .slice AL ls.length cL, .int .i64 W] 57) = w2 at *
  generalize w1.heap.size = gT at *
  refine (ReplaceWinner_any AK ks cK AD ds cD AL ls cL W key done _ RT0 (by omega)).mono ?_
  rintro e w3 ⟨BK, dK, BD, dD, BL, dL, rfl, oU, b3⟩
  have hRU := rt_own oU
  clear oU
  clear q0 q1 q2 q3 ql
  have RT1 := rt_bel RT0 b3
  have hT1 := hT0.below b3 hT0.lt
  have hB1 := hB0.trans (b3.mono hB0.size)
  clear RT0 hT0 hB0
  have RT2 := rt_alloc RT1 (.cells #[.slice BK (rwK ks ds ls W key done).length dK, .slice BD (rwD ks ds ls W key done).length dD, .slice BL (rwL ks ds ls W key done).length dL, .int .i64 (rwW ks ds ls W key done)] 57)
  have hT2 := hT1.alloc (.cells #[.slice BK (rwK ks ds ls W key done).length dK, .slice BD (rwD ks ds ls W key done).length dD, .slice BL (rwL ks ds ls W key done).length dL, .int .i64 (rwW ks ds ls W key done)] 57)
  have hB2 := alloc_ hB1 (.cells #[.slice BK (rwK ks ds ls W key done).length dK, .slice BD (rwD ks ds ls W key done).length dD, .slice BL (rwL ks ds ls W key done).length dL, .int .i64 (rwW ks ds ls W key done)] 57)
  clear RT1 hT1 hB1
  have RU2 := rt_alloc hRU (.cells #[.slice BK (rwK ks ds ls W key done).length dK, .slice BD (rwD ks ds ls W key done).length dD, .slice BL (rwL ks ds ls W key done).length dL, .int .i64 (rwW ks ds ls W key done)] 57)
  have hU2 := Blk.new w3 57 #[.slice BK (rwK ks ds ls W key done).length dK, .slice BD (rwD ks ds ls W key done).length dD, .slice BL (rwL ks ds ls W key done).length dL, .int .i64 (rwW ks ds ls W key done)]
  clear hRU
  obtain ⟨q0, q1, q2, q3⟩ := hT2.four
  have ql := hT2.lt
  go_wp2_with fail
  generalize w3.alloc (.cells #[.slice BK (rwK ks ds ls W key done).length dK, .slice BD (rwD ks ds ls W key done).length dD, .slice BL (rwL ks ds ls W key done).length dL, .int .i64 (rwW ks ds ls W key done)] 57) = w4 at *
  generalize w3.heap.size = gU at *
  refine (sReplaceWinner_any AK ks cK AD ds cD AL ls cL W key done _ RT2 (by omega)).mono ?_
  rintro e w5 ⟨CK, eK, CD, eD, CL, eL, rfl, oV, b5⟩
  have hRV := rt_own oV
  clear oV
  clear q0 q1 q2 q3 ql
  have RT3 := rt_bel RT2 b5
  have hT3 := hT2.below b5 hT2.lt
  have hB3 := hB2.trans (b5.mono hB2.size)
  have RU3 := rt_bel RU2 b5
  have hU3 := hU2.below b5 hU2.lt
  clear RT2 hT2 hB2 RU2 hU2
  have RT4 := rt_alloc RT3 (.cells #[.slice CK (rwK ks ds ls W key done).length eK, .slice CD (rwD ks ds ls W key done).length eD, .slice CL (rwL ks ds ls W key done).length eL, .int .i64 (rwW ks ds ls W key done)] 57)
  have hT4 := hT3.alloc (.cells #[.slice CK (rwK ks ds ls W key done).length eK, .slice CD (rwD ks ds ls W key done).length eD, .slice CL (rwL ks ds ls W key done).length eL, .int .i64 (rwW ks ds ls W key done)] 57)
  have hB4 := alloc_ hB3 (.cells #[.slice CK (rwK ks ds ls W key done).length eK, .slice CD (rwD ks ds ls W key done).length eD, .slice CL (rwL ks ds ls W key done).length eL, .int .i64 (rwW ks ds ls W key done)] 57)
  have RU4 := rt_alloc RU3 (.cells #[.slice CK (rwK ks ds ls W key done).length eK, .slice CD (rwD ks ds ls W key done).length eD, .slice CL (rwL ks ds ls W key done).length eL, .int .i64 (rwW ks ds ls W key done)] 57)
  have hU4 := hU3.alloc (.cells #[.slice CK (rwK ks ds ls W key done).length eK, .slice CD (rwD ks ds ls W key done).length eD, .slice CL (rwL ks ds ls W key done).length eL, .int .i64 (rwW ks ds ls W key done)] 57)
  clear RT3 hT3 hB3 RU3 hU3
  have RV4 := rt_alloc hRV (.cells #[.slice CK (rwK ks ds ls W key done).length eK, .slice CD (rwD ks ds ls W key done).length eD, .slice CL (rwL ks ds ls W key done).length eL, .int .i64 (rwW ks ds ls W key done)] 57)
  have hV4 := Blk.new w5 57 #[.slice CK (rwK ks ds ls W key done).length eK, .slice CD (rwD ks ds ls W key done).length eD, .slice CL (rwL ks ds ls W key done).length eL, .int .i64 (rwW ks ds ls W key done)]
  clear hRV
  obtain ⟨n1, n2, n3⟩ := rw_lens ks ds ls W key done
  have HF := Lib.hid (fun (h : rwOk ks ds ls W key done = true) => rw_facts h)
  have HN : Hid (rwOk ks ds ls W key done = false → rwN ks ds ls W key done = 0) := Lib.hid (fun h => by rw [rwN, h]; rfl)
  generalize rwK ks ds ls W key done = uk at *
  generalize rwD ks ds ls W key done = ud at *
  generalize rwL ks ds ls W key done = ul at *
  generalize rwW ks ds ls W key done = uw at *
  generalize rwN ks ds ls W key done = un at *
  generalize rwOk ks ds ls W key done = ok at *
  obtain ⟨q0, q1, q2, q3⟩ := hT4.four
  have ql := hT4.lt
  obtain ⟨r0, r1, r2, r3⟩ := hU4.four
  have rl := hU4.lt
  obtain ⟨s0, s1, s2, s3⟩ := hV4.four
  have sl := hV4.lt
  go_upto_region 6 with fail
  generalize w5.alloc (.cells #[.slice CK uk.length eK, .slice CD ud.length eD, .slice CL ul.length eL, .int .i64 uw] 57) = w6 at *
  generalize w5.heap.size = gV at *
  go_cut [63] (fun v wc => v = .bool false ∧ Below w6.heap.size w6 wc)
  case first =>
    go_region_held3 (fun w' => (w'.cell? ⟨gT, 0, none⟩ = some (.slice AK ks.length cK) ∧ w'.cell? ⟨gT, 1, none⟩ = some (.slice AD ds.length cD) ∧ w'.cell? ⟨gT, 2, none⟩ = some (.slice AL ls.length cL) ∧ w'.cell? ⟨gT, 3, none⟩ = some (.int .i64 W)) ∧ (w'.cell? ⟨gU, 0, none⟩ = some (.slice BK uk.length dK) ∧ w'.cell? ⟨gU, 1, none⟩ = some (.slice BD ud.length dD) ∧ w'.cell? ⟨gU, 2, none⟩ = some (.slice BL ul.length dL) ∧ w'.cell? ⟨gU, 3, none⟩ = some (.int .i64 uw)) ∧ (w'.cell? ⟨gV, 0, none⟩ = some (.slice CK uk.length eK) ∧ w'.cell? ⟨gV, 1, none⟩ = some (.slice CD ud.length eD) ∧ w'.cell? ⟨gV, 2, none⟩ = some (.slice CL ul.length eL) ∧ w'.cell? ⟨gV, 3, none⟩ = some (.int .i64 uw))) (exact tw3 (show Blk _ gT 57 #[.slice AK ks.length cK, .slice AD ds.length cD, .slice AL ls.length cL, .int .i64 W] from by (repeat' (first | with_reducible assumption | with_reducible refine Blk.drew ?_ | with_reducible refine Blk.below_ ?_ bI | with_reducible refine Blk.below_ ?_ bS | with_reducible refine Blk.below_ ?_ bV))) (show Blk _ gU 57 #[.slice BK uk.length dK, .slice BD ud.length dD, .slice BL ul.length dL, .int .i64 uw] from by (repeat' (first | with_reducible assumption | with_reducible refine Blk.drew ?_ | with_reducible refine Blk.below_ ?_ bI | with_reducible refine Blk.below_ ?_ bS | with_reducible refine Blk.below_ ?_ bV))) (show Blk _ gV 57 #[.slice CK uk.length eK, .slice CD ud.length eD, .slice CL ul.length eL, .int .i64 uw] from by (repeat' (first | with_reducible assumption | with_reducible refine Blk.drew ?_ | with_reducible refine Blk.below_ ?_ bI | with_reducible refine Blk.below_ ?_ bS | with_reducible refine Blk.below_ ?_ bV))))
      (first | (go_at_call 46; (refine (vt_same BK CK BD CD BL CL uk ul ud dK eK dD eD dL eL uw _ (by omega) (show ReadsT _ _ BK uk.length BD ud.length BL ul.length uk ud ul from by (repeat' (first | with_reducible assumption | with_reducible refine rt_drew ?_ | with_reducible refine rt_bel ?_ bI | with_reducible refine rt_bel ?_ bS | with_reducible refine rt_bel ?_ bV))) (show ReadsT _ _ CK uk.length CD ud.length CL ul.length uk ud ul from by (repeat' (first | with_reducible assumption | with_reducible refine rt_drew ?_ | with_reducible refine rt_bel ?_ bI | with_reducible refine rt_bel ?_ bS | with_reducible refine rt_bel ?_ bV)))).mono ?_; rintro e wV ⟨rfl, bV⟩)) | (go_at_call 47; refine (IsValidTree_any AK ks cK AD ds cD AL ls cL W _ (show ReadsT _ _ AK ks.length AD ds.length AL ls.length ks ds ls from by (repeat' (first | with_reducible assumption | with_reducible refine rt_drew ?_ | with_reducible refine rt_bel ?_ bI | with_reducible refine rt_bel ?_ bS | with_reducible refine rt_bel ?_ bV))) (by omega)).mono ?_; rintro e wI ⟨rfl, bI⟩) | (go_at_call 48; refine (sIsValidTree_any AK ks cK AD ds cD AL ls cL W _ (show ReadsT _ _ AK ks.length AD ds.length AL ls.length ks ds ls from by (repeat' (first | with_reducible assumption | with_reducible refine rt_drew ?_ | with_reducible refine rt_bel ?_ bI | with_reducible refine rt_bel ?_ bS | with_reducible refine rt_bel ?_ bV))) (by omega)).mono ?_; rintro e wS ⟨rfl, bS⟩))
    all_goals
      go_wp2_with fail
      go_meet
      exact ⟨rfl, by (repeat' (first | with_reducible exact Below.refl _ _ | with_reducible refine bdrew ?_ | with_reducible refine bthen ?_ bS | with_reducible refine bthen ?_ bI | with_reducible refine bthen ?_ bV))⟩
  case rest =>
    obtain ⟨rfl, b7⟩ := hcut
    clear q0 q1 q2 q3 ql r0 r1 r2 r3 rl s0 s1 s2 s3 sl
    clear RV4 hV4
    have RT5 := rt_bel RT4 b7
    have hT5 := hT4.below b7 hT4.lt
    have hB5 := hB4.trans (b7.mono hB4.size)
    have RU5 := rt_bel RU4 b7
    have hU5 := hU4.below b7 hU4.lt
    clear RT4 hT4 hB4 RU4 hU4
    go_wp2_with fail
    refine (HDB.out _ hB5).mono ?_
    rintro e w8 ⟨v, zs, rfl, oZ, hzl, b8⟩
    obtain ⟨ZA, zc, rfl⟩ := own_slice oZ
    have RT6 := rt_bel RT5 b8
    have hT6 := hT5.below b8 hT5.lt
    have hB6 := hB5.trans (b8.mono hB5.size)
    have RU6 := rt_bel RU5 b8
    have hU6 := hU5.below b8 hU5.lt
    clear RT5 hT5 hB5 RU5 hU5
    have oZ6 := oZ
    clear oZ
    go_wp2_with fail
    refine (BuildTree_any ZA zs zc _ (Reads.of_own oZ6) (by omega)).mono ?_
    rintro e w9 ⟨EK, fK, ED, fD, EL, fL, rfl, oU, b9⟩
    have hRX := rt_own oU
    clear oU
    have RT7 := rt_bel RT6 b9
    have hT7 := hT6.below b9 hT6.lt
    have hB7 := hB6.trans (b9.mono hB6.size)
    have RU7 := rt_bel RU6 b9
    have hU7 := hU6.below b9 hU6.lt
    have oZ7 := own_below oZ6 b9 (Nat.le_refl _)
    clear RT6 hT6 hB6 RU6 hU6 oZ6
    have RT8 := rt_alloc RT7 (.cells #[.slice EK (btK zs).length fK, .slice ED (btD zs).length fD, .slice EL (btL zs).length fL, .int .i64 (btW zs)] 57)
    have hT8 := hT7.alloc (.cells #[.slice EK (btK zs).length fK, .slice ED (btD zs).length fD, .slice EL (btL zs).length fL, .int .i64 (btW zs)] 57)
    have hB8 := alloc_ hB7 (.cells #[.slice EK (btK zs).length fK, .slice ED (btD zs).length fD, .slice EL (btL zs).length fL, .int .i64 (btW zs)] 57)
    have RU8 := rt_alloc RU7 (.cells #[.slice EK (btK zs).length fK, .slice ED (btD zs).length fD, .slice EL (btL zs).length fL, .int .i64 (btW zs)] 57)
    have hU8 := hU7.alloc (.cells #[.slice EK (btK zs).length fK, .slice ED (btD zs).length fD, .slice EL (btL zs).length fL, .int .i64 (btW zs)] 57)
    have oZ8 := oZ7.alloc (.cells #[.slice EK (btK zs).length fK, .slice ED (btD zs).length fD, .slice EL (btL zs).length fL, .int .i64 (btW zs)] 57)
    clear RT7 hT7 hB7 RU7 hU7 oZ7
    have RX8 := rt_alloc hRX (.cells #[.slice EK (btK zs).length fK, .slice ED (btD zs).length fD, .slice EL (btL zs).length fL, .int .i64 (btW zs)] 57)
    have hX8 := Blk.new w9 57 #[.slice EK (btK zs).length fK, .slice ED (btD zs).length fD, .slice EL (btL zs).length fL, .int .i64 (btW zs)]
    clear hRX
    go_wp2_with fail
    generalize w9.alloc (.cells #[.slice EK (btK zs).length fK, .slice ED (btD zs).length fD, .slice EL (btL zs).length fL, .int .i64 (btW zs)] 57) = w10 at *
    generalize w9.heap.size = gX at *
    refine (sBuildTree_any ZA zs zc _ (Reads.of_own oZ8) (by omega)).mono ?_
    rintro e w11 ⟨FK, hK, FD, hD, FL, hL, rfl, oU, b11⟩
    have hRY := rt_own oU
    clear oU
    have RT9 := rt_bel RT8 b11
    have hT9 := hT8.below b11 hT8.lt
    have hB9 := hB8.trans (b11.mono hB8.size)
    have RU9 := rt_bel RU8 b11
    have hU9 := hU8.below b11 hU8.lt
    have oZ9 := own_below oZ8 b11 (Nat.le_refl _)
    have RX9 := rt_bel RX8 b11
    have hX9 := hX8.below b11 hX8.lt
    clear RT8 hT8 hB8 RU8 hU8 oZ8 RX8 hX8
    clear oZ9
    have RT10 := rt_alloc RT9 (.cells #[.slice FK (btK zs).length hK, .slice FD (btD zs).length hD, .slice FL (btL zs).length hL, .int .i64 (btW zs)] 57)
    have hT10 := hT9.alloc (.cells #[.slice FK (btK zs).length hK, .slice FD (btD zs).length hD, .slice FL (btL zs).length hL, .int .i64 (btW zs)] 57)
    have hB10 := alloc_ hB9 (.cells #[.slice FK (btK zs).length hK, .slice FD (btD zs).length hD, .slice FL (btL zs).length hL, .int .i64 (btW zs)] 57)
    have RU10 := rt_alloc RU9 (.cells #[.slice FK (btK zs).length hK, .slice FD (btD zs).length hD, .slice FL (btL zs).length hL, .int .i64 (btW zs)] 57)
    have hU10 := hU9.alloc (.cells #[.slice FK (btK zs).length hK, .slice FD (btD zs).length hD, .slice FL (btL zs).length hL, .int .i64 (btW zs)] 57)
    have RX10 := rt_alloc RX9 (.cells #[.slice FK (btK zs).length hK, .slice FD (btD zs).length hD, .slice FL (btL zs).length hL, .int .i64 (btW zs)] 57)
    have hX10 := hX9.alloc (.cells #[.slice FK (btK zs).length hK, .slice FD (btD zs).length hD, .slice FL (btL zs).length hL, .int .i64 (btW zs)] 57)
    clear RT9 hT9 hB9 RU9 hU9 RX9 hX9
    have RY10 := rt_alloc hRY (.cells #[.slice FK (btK zs).length hK, .slice FD (btD zs).length hD, .slice FL (btL zs).length hL, .int .i64 (btW zs)] 57)
    have hY10 := Blk.new w11 57 #[.slice FK (btK zs).length hK, .slice FD (btD zs).length hD, .slice FL (btL zs).length hL, .int .i64 (btW zs)]
    clear hRY
    obtain ⟨m1, m2, m3⟩ := bt_lens zs
    have HBF : Hid (∀ i, i < (btK zs).length → ∃ v : Nat, btW zs = v ∧ v < (btK zs).length ∧ ((btK zs)[v]?.getD 0 < (btK zs)[i]?.getD 0 ∨ ((btK zs)[v]?.getD 0 = (btK zs)[i]?.getD 0 ∧ v ≤ i))) := Lib.hid (fun i hi => by
      by_cases h : btOk zs = true
      · obtain ⟨v, h1, h2, h3, h4⟩ := bt_facts h
        rw [h3] at hi ⊢
        exact ⟨v, h1, h2, h4 i hi⟩
      · rw [btK, if_neg h] at hi
        cases hi)
    generalize btK zs = xk at *
    generalize btD zs = xd at *
    generalize btL zs = xl at *
    generalize btW zs = xw at *
    generalize btOk zs = made at *
    obtain ⟨q0, q1, q2, q3⟩ := hX10.four
    have ql := hX10.lt
    obtain ⟨r0, r1, r2, r3⟩ := hY10.four
    have rl := hY10.lt
    go_upto_region 11 with fail
    generalize w11.alloc (.cells #[.slice FK xk.length hK, .slice FD xd.length hD, .slice FL xl.length hL, .int .i64 xw] 57) = w12 at *
    generalize w11.heap.size = gY at *
    go_wp2_with fail
    refine (vt_same EK FK ED FD EL FL xk xl xd fK hK fD hD fL hL xw _ (by omega) RX10 RY10).mono ?_
    rintro e w13 ⟨rfl, b13⟩
    clear q0 q1 q2 q3 ql r0 r1 r2 r3 rl
    clear RY10 hY10
    have RT11 := rt_bel RT10 b13
    have hT11 := hT10.below b13 hT10.lt
    have hB11 := hB10.trans (b13.mono hB10.size)
    have RU11 := rt_bel RU10 b13
    have hU11 := hU10.below b13 hU10.lt
    have RX11 := rt_bel RX10 b13
    have hX11 := hX10.below b13 hX10.lt
    clear RT10 hT10 hB10 RU10 hU10 RX10 hX10
    obtain ⟨q0, q1, q2, q3⟩ := hX11.four
    have ql := hX11.lt
    obtain ⟨r0, r1, r2, r3⟩ := hT11.four
    have rl := hT11.lt
    obtain ⟨s0, s1, s2, s3⟩ := hU11.four
    have sl := hU11.lt
    have HK := Lib.hid RX11.1
    have HRT := Lib.hid RT11
    have HRU := Lib.hid RU11
    have HB0 := Lib.hid hB11
    have HHT := Lib.hid hT11
    have HHU := Lib.hid hU11
    have HHX := Lib.hid hX11
    clear RT11 hT11 hB11 RU11 hU11 RX11 hX11
    generalize hgX : xk.length = nx at *
    have HGX := Lib.hid hgX
    clear hgX
    go_wp2_with fail
    go_loopw [17] (fun vi wr => ∃ k n : Nat, k ≤ nx ∧ vi = .int .i64 (k : Nat) ∧ wr = w13.drewN n) (fun vi _ => nx - (intOf vi).toNat)
    case atStart => exact ⟨0, 0, by omega, rfl, rfl⟩
    case round =>
      obtain ⟨k, n, hk, rfl, rfl⟩ := hrel
      by_cases hlt : k < nx
      · have kI : (k : Int) < (nx : Int) := by omega
        obtain ⟨v, rfl, hv, hcmp⟩ := HBF.out k hlt
        have vI : (v : Int) < (nx : Int) := by omega
        have HK2 := HK.out
        rw [← HGX.out] at HK2 hlt hv
        obtain ⟨ad, rfl, -, c1⟩ := HK2.int hlt
        obtain ⟨bd, hbd, -, c2⟩ := HK2.int hv
        cases hbd
        clear HK2
        rw [List.getElem?_eq_getElem hlt, List.getElem?_eq_getElem hv] at hcmp
        simp only [Option.getD_some] at hcmp
        generalize xk[k] = x at *
        generalize xk[v] = y at *
        have z1 : ¬ x < y := by omega
        by_cases hxy : x = y
        · have z2 : (x == y) = true := by simpa using hxy
          have z3 : ¬ (k : Int) < (v : Int) := by omega
          have HXY := Lib.hid hxy
          clear hcmp hxy hlt hv
          go_wp2_with fail
          go_quiet (fail)
          go_wp2_with fail
          go_roundw
          case rel => exact ⟨k + 1, n + nq, by omega, by go_num, rfl⟩
          case measure => simp [intOf]; omega
        · have z2 : (x == y) = false := by simpa using hxy
          clear hcmp hxy hlt hv
          go_wp2_with fail
          go_quiet (fail)
          go_wp2_with fail
          go_roundw
          case rel => exact ⟨k + 1, n + nq, by omega, by go_num, rfl⟩
          case measure => simp [intOf]; omega
      · have kI : ¬ (k : Int) < (nx : Int) := by omega
        have hBn := below_drewN HB0.out n
        have HHT2 := Lib.hid (HHT.out.drewN n)
        have HHU2 := Lib.hid (HHU.out.drewN n)
        have hX2 := HHX.out.drewN n
        have HRT2 := Lib.hid (rt_dn HRT.out n)
        have HRU2 := Lib.hid (rt_dn HRU.out n)
        clear HB0 HHT HHU HHX HRT HRU HK HBF hlt hk q0 q1 q2 q3 ql r0 r1 r2 r3 rl s0 s1 s2 s3 sl
        generalize w13.drewN n = w14 at *
        obtain ⟨q0, q1, q2, q3⟩ := hX2.four
        have ql := hX2.lt
        obtain ⟨r0, r1, r2, r3⟩ := HHT2.out.four
        have rl := HHT2.out.lt
        obtain ⟨s0, s1, s2, s3⟩ := HHU2.out.four
        have sl := HHU2.out.lt
        cases ok
        case false =>
          have hz := HN.out rfl
          subst hz
          go_wp2_with fail
          go_ret
          exact ⟨rfl, hBn⟩
        case true =>
          obtain ⟨hit, ⟨q, rfl, hq5, hqq⟩, ⟨m, v, rfl, rfl, hm1, hv1, hmd, hall⟩⟩ := HF.out rfl
          have hlen := (it_parts hit).2.2.1
          have HIT := Lib.hid hit
          have HALL := Lib.hid hall
          have HMD := Lib.hid hmd
          have HBN := Lib.hid hBn
          clear hit hall hmd HN HF hBn
          generalize hgU : uk.length = nu at *
          have HGU := Lib.hid hgU
          have HLEN := Lib.hid hlen
          clear hgU hlen
          have HQ := Lib.hid hqq
          clear hqq
          go_wp2_with fail
          go_loopw [18] (fun vi wr => ∃ k n : Nat, k ≤ nu ∧ vi = .int .i64 (k : Nat) ∧ wr = w14.drewN n) (fun vi _ => nu - (intOf vi).toNat)
          case atStart => exact ⟨0, 0, by omega, rfl, rfl⟩
          case round =>
            obtain ⟨k, n, hk, rfl, rfl⟩ := hrel
            by_cases hlt : k < nu
            · have kI : (k : Int) < (nu : Int) := by omega
              have vI : (v : Int) < (nu : Int) := by omega
              have kJ : (k : Int) < (ud.length : Int) := by rw [HLEN.out]; exact kI
              have vJ : (v : Int) < (ud.length : Int) := by rw [HLEN.out]; exact vI
              have hA := HALL.out k hlt
              have HK2 := HRU2.out.1
              have HD2 := HRU2.out.2.1
              have hltd : k < ud.length := by omega
              have hvd : v < ud.length := by omega
              rw [← HGU.out] at HK2 hlt hv1
              obtain ⟨ad, rfl, -, c1⟩ := HK2.int hlt
              obtain ⟨bd, hbd, -, c2⟩ := HK2.int hv1
              cases hbd
              obtain ⟨dd, x9, rfl, -, hx9, d1⟩ := HD2.at_ hltd
              obtain ⟨d9, y9, hdd, -, hy9, d2⟩ := HD2.at_ hvd
              cases hdd
              rw [bools_get hltd] at hx9
              rw [bools_get hvd] at hy9
              cases hx9
              cases hy9
              clear HK2 HD2
              rw [List.getElem?_eq_getElem hlt, List.getElem?_eq_getElem hv1, List.getElem?_eq_getElem hltd, List.getElem?_eq_getElem hvd] at hA
              simp only [Option.getD_some] at hA
              generalize uk[k] = x at *
              generalize uk[v] = y at *
              generalize ud[k] = a1 at *
              generalize ud[v] = a2 at *
              clear hlt hv1 hltd hvd
              cases a1
              case true =>
                clear hA
                go_wp2_with fail
                go_quiet (fail)
                go_wp2_with fail
                go_roundw
                case rel => exact ⟨k + 1, n + nq, by omega, by go_num, rfl⟩
                case measure => simp [intOf]; omega
              case false =>
                obtain ⟨rfl, hxy⟩ := hA rfl
                have z1 : ¬ x < y := by omega
                clear hA hxy
                go_wp2_with fail
                go_quiet (fail)
                go_wp2_with fail
                go_roundw
                case rel => exact ⟨k + 1, n + nq, by omega, by go_num, rfl⟩
                case measure => simp [intOf]; omega
            · have kI : ¬ (k : Int) < (nu : Int) := by omega
              have hB3 := below_drewN HBN.out n
              have hT3 := HHT2.out.drewN n
              have hU3 := HHU2.out.drewN n
              have RU3 := rt_dn HRU2.out n
              clear HHT2 HHU2 HRT2 HRU2 HBN HALL hlt hk q0 q1 q2 q3 ql r0 r1 r2 r3 rl s0 s1 s2 s3 sl hX2
              generalize w14.drewN n = w15 at *
              obtain ⟨s0, s1, s2, s3⟩ := hU3.four
              have sl := hU3.lt
              go_wp2_with fail
              rw [← HGU.out] at RU3
              have hcall := IsValidTree_any BK uk dK BD ud dD BL ul dL (v : Int) w15 RU3 (by have := HGU.out; omega)
              rw [HGU.out] at hcall RU3
              refine hcall.mono ?_
              rintro e w16 ⟨rfl, b16⟩
              rw [HIT.out]
              clear s0 s1 s2 s3 sl hcall
              have hT4 := hT3.below b16 hT3.lt
              have hU4 := hU3.below b16 hU3.lt
              have RU4 := rt_bel RU3 b16
              have hB4 := hB3.trans (b16.mono hB3.size)
              obtain ⟨r0, r1, r2, r3⟩ := hT4.four
              obtain ⟨s0, s1, s2, s3⟩ := hU4.four
              have hmd2 : m < ud.length := by rw [HLEN.out]; exact hm1
              obtain ⟨dd, x9, rfl, -, hx9, d1⟩ := RU4.2.1.at_ hmd2
              rw [bools_get hmd2] at hx9
              cases hx9
              have hmv := HMD.out
              rw [List.getElem?_eq_getElem hmd2] at hmv
              have hmv2 := Option.some.inj hmv
              rw [hmv2] at d1
              have mI : (m : Int) < (ud.length : Int) := by omega
              have hqq := HQ.out
              have HB4 := Lib.hid hB4
              clear hT3 hU3 RU3 hT4 hU4 RU4 hB3 hB4 hmv hmv2 b16 HMD HIT HQ
              have hn4 : IntKind.i64.wrap ((4 : Int) * (nu : Int)) = 4 * (nu : Int) := IntWalk.i64_in _ ⟨by omega, by omega⟩
              have hn16 : nu ≤ 16 := by omega
              obtain rfl | rfl | rfl | rfl | rfl | rfl : q = 0 ∨ q = 1 ∨ q = 2 ∨ q = 3 ∨ q = 4 ∨ q = 5 := by omega
              · have hL : (1 : Int) < 4 * (nu : Int) := by omega
                clear hq5 hqq
                go_wp2_with fail
                go_ret
                exact ⟨rfl, HB4.out⟩
              · have hL : (2 : Int) < 4 * (nu : Int) := by omega
                clear hq5 hqq
                go_wp2_with fail
                go_ret
                exact ⟨rfl, HB4.out⟩
              · have hL : (4 : Int) < 4 * (nu : Int) := by omega
                clear hq5 hqq
                go_wp2_with fail
                go_ret
                exact ⟨rfl, HB4.out⟩
              · have hL : (8 : Int) < 4 * (nu : Int) := by omega
                clear hq5 hqq
                go_wp2_with fail
                go_ret
                exact ⟨rfl, HB4.out⟩
              · have hL : (16 : Int) < 4 * (nu : Int) := by omega
                clear hq5 hqq
                go_wp2_with fail
                go_ret
                exact ⟨rfl, HB4.out⟩
              · have hL : (32 : Int) < 4 * (nu : Int) := by omega
                clear hq5 hqq
                go_wp2_with fail
                go_ret
                exact ⟨rfl, HB4.out⟩
end Go.Proofs.Yteigceeghnphmaa
