/- StandardForm: the reference's function. -/
import Derived.Test.YteigceeghnphmaaStd
import Derived.Deep.RegionLaw
import Derived.BigQuiet
import Derived.Deep.QuietTactic
namespace Go.Proofs.Yteigceeghnphmaa
open Go.RowKit
set_option linter.unusedVariables false
def mpc (ns : List Int) (c : Int × Int) : Int × Int := (atI ns c.1, atI ns c.2)
/-- the list behind k rounds -/
def sfM (W : Nat) (cs : List (Int × Int)) (k : Nat) : List (Int × Int) := (List.range cs.length).map fun t => if t < k then sfO W cs t else mpc (sfN W cs k) (cK cs t)
/-- the list in round k, up to u -/
def sfI (W : Nat) (cs : List (Int × Int)) (k u : Nat) : List (Int × Int) := (List.range cs.length).map fun t => if t < k + 1 then sfO W cs t else if t < u then mpc (sfN W cs (k + 1)) (cK cs t) else mpc (sfN W cs k) (cK cs t)
theorem sfM_len (W : Nat) (cs : List (Int × Int)) (k : Nat) : (sfM W cs k).length = cs.length := by simp [sfM]
theorem sfI_len (W : Nat) (cs : List (Int × Int)) (k u : Nat) : (sfI W cs k u).length = cs.length := by simp [sfI]
theorem sfM_at {W : Nat} {cs : List (Int × Int)} {k t : Nat} (h : t < (sfM W cs k).length) : (sfM W cs k)[t] = if t < k then sfO W cs t else mpc (sfN W cs k) (cK cs t) := by simp [sfM]
theorem sfI_at {W : Nat} {cs : List (Int × Int)} {k u t : Nat} (h : t < (sfI W cs k u).length) : (sfI W cs k u)[t] = if t < k + 1 then sfO W cs t else if t < u then mpc (sfN W cs (k + 1)) (cK cs t) else mpc (sfN W cs k) (cK cs t) := by simp [sfI]
theorem map_id_range (cs : List (Int × Int)) (W : Nat) (h : ∀ c ∈ cs, cmpOk W c = true) : sfM W cs 0 = cs := by
  apply List.ext_getElem
  · simp [sfM_len]
  · intro t h1 h2
    rw [sfM_at, if_neg (by omega), cK_get h2]
    obtain ⟨-, a0, a1, b0, b1⟩ := cmpOk_iff' (h cs[t] (List.getElem_mem h2))
    have e : ∀ x : Int, 0 ≤ x → x < W → atI (sfN W cs 0) x = x := by
      intro x x0 x1
      unfold atI
      rw [sfN, List.getElem?_map, List.getElem?_range (by omega)]
      simp; omega
    unfold mpc
    rw [e _ a0 a1, e _ b0 b1]
theorem sfM_skip {W : Nat} {cs : List (Int × Int)} {k : Nat} (hk : k < cs.length) (h : ¬ atI (sfN W cs k) (cK cs k).2 < atI (sfN W cs k) (cK cs k).1) : sfM W cs k = sfM W cs (k + 1) := by
  have hn : sfN W cs (k + 1) = sfN W cs k := by rw [sfN, if_neg h]
  unfold sfM
  apply List.map_congr_left
  intro t _
  rw [hn]
  by_cases e : t = k
  · subst e
    rw [if_neg (by omega), if_pos (by omega)]
    unfold sfO mpc
    rw [if_neg h]
  · by_cases hlt : t < k
    · rw [if_pos hlt, if_pos (by omega)]
    · rw [if_neg hlt, if_neg (by omega)]
theorem sfI_start (W : Nat) (cs : List (Int × Int)) (k : Nat) (hk : k < cs.length) : (sfM W cs k).set k (sfO W cs k) = sfI W cs k (k + 1) := by
  apply List.ext_getElem
  · simp [sfM_len, sfI_len]
  · intro t h1 h2
    rw [List.getElem_set, sfI_at]
    by_cases e : k = t
    · subst e; rw [if_pos rfl, if_pos (by omega)]
    · rw [if_neg e, sfM_at]
      by_cases hlt : t < k
      · rw [if_pos hlt, if_pos (by omega)]
      · rw [if_neg hlt, if_neg (by omega), if_neg (by omega)]
theorem sfI_next (W : Nat) (cs : List (Int × Int)) (k u : Nat) (hu : k < u) (hl : u < cs.length) : (sfI W cs k u).set u (mpc (sfN W cs (k + 1)) (cK cs u)) = sfI W cs k (u + 1) := by
  apply List.ext_getElem
  · simp [sfI_len]
  · intro t h1 h2
    rw [List.getElem_set, sfI_at, sfI_at]
    by_cases e : u = t
    · subst e; rw [if_pos rfl, if_neg (by omega), if_pos (by omega)]
    · rw [if_neg e]
      by_cases h3 : t < k + 1
      · rw [if_pos h3, if_pos h3]
      · rw [if_neg h3, if_neg h3]
        by_cases h4 : t < u
        · rw [if_pos h4, if_pos (by omega)]
        · rw [if_neg h4, if_neg (by omega)]
theorem sfI_end (W : Nat) (cs : List (Int × Int)) (k u : Nat) (hu : cs.length ≤ u) : sfI W cs k u = sfM W cs (k + 1) := by
  unfold sfI sfM
  apply List.map_congr_left
  intro t ht
  have := List.mem_range.1 ht
  by_cases h3 : t < k + 1
  · rw [if_pos h3, if_pos h3]
  · rw [if_neg h3, if_neg h3, if_pos (by omega)]
theorem sfM_end (W : Nat) (cs : List (Int × Int)) : sfM W cs cs.length = sfL W cs cs.length := by
  unfold sfM sfL
  apply List.map_congr_left
  intro t ht
  rw [if_pos (List.mem_range.1 ht)]
theorem atI_map {f : Int → Int} {ns : List Int} {x : Int} (h : x.toNat < ns.length) : atI (ns.map f) x = f (atI ns x) := by
  unfold atI
  rw [List.getElem?_map, List.getElem?_eq_getElem h]; rfl
theorem at_ne {W : Nat} {cs : List (Int × Int)} {k : Nat} {x y : Int} (hx : 0 ≤ x ∧ x < W) (hy : 0 ≤ y ∧ y < W) (hne : x ≠ y) : atI (sfN W cs k) x ≠ atI (sfN W cs k) y := by
  have hl := sfN_len W cs k
  have hp := List.pairwise_iff_getElem.1 (sfN_inj W cs k)
  unfold atI
  rw [List.getElem?_eq_getElem (by omega : x.toNat < (sfN W cs k).length), List.getElem?_eq_getElem (by omega : y.toNat < (sfN W cs k).length), Option.getD_some, Option.getD_some]
  rcases Nat.lt_or_gt_of_ne (show x.toNat ≠ y.toNat by omega) with h | h
  · exact hp _ _ (by omega) (by omega) h
  · exact (hp _ _ (by omega) (by omega) h).symm
theorem l12Other_any (x p q : Int) (w : World) : Calls Try.prog 54 #[.int .i64 x, .int .i64 p, .int .i64 q] w fun e w' => e = .returned (.int .i64 (sw p q x)) ∧ w = w' := by
  have hsw : sw p q x = if x = p then q else if x = q then p else x := rfl
  by_cases h1 : x = p
  · rw [if_pos h1] at hsw
    have HS := Lib.hid hsw; clear hsw
    have hb1 : (x == p) = true := by simpa using h1
    clear h1
    go_enter Try.func54, Try.ntmps54
    go_wp2_with fail
    go_ret
    exact ⟨reti HS.out.symm, rfl⟩
  · rw [if_neg h1] at hsw
    have hb1 : (x == p) = false := by simpa using h1
    clear h1
    by_cases h2 : x = q
    · rw [if_pos h2] at hsw
      have HS := Lib.hid hsw; clear hsw
      have hb2 : (x == q) = true := by simpa using h2
      clear h2
      go_enter Try.func54, Try.ntmps54
      go_wp2_with fail
      go_ret
      exact ⟨reti HS.out.symm, rfl⟩
    · rw [if_neg h2] at hsw
      have HS := Lib.hid hsw; clear hsw
      have hb2 : (x == q) = false := by simpa using h2
      clear h2
      go_enter Try.func54, Try.ntmps54
      go_wp2_with fail
      go_ret
      exact ⟨reti HS.out.symm, rfl⟩
set_option maxRecDepth 100000 in
set_option maxHeartbeats 3200000 in
theorem sStandardForm_any (W : Int) (A : Option Addr) (cs : List (Int × Int)) (c : Nat) (w : World) (hx : Reads w w.heap.size 2 A cs.length (cmps cs)) (hl : cs.length ≤ 1099511627776) :
    Calls Try.prog 12 #[.agg #[.int .i64 W, .slice A cs.length c]] w fun e w' => ∃ A c, e = .returned (.tuple #[.agg #[.int .i64 (sfW W cs), .slice A (sfV W cs).length c], .bool (netOk W cs)]) ∧
      w'.ownsRow w.heap.size 32 2 (.slice A (sfV W cs).length c) (sfV W cs).length (cmps (sfV W cs)) ∧ Below w.heap.size w w' := by
  have hb0 : Below w.heap.size w ((w.alloc (.cells #[.int .i64 W, .slice A cs.length c] 26)).alloc (.cells #[.int .i64 0, .slice none 0 0] 26)) := by go_grown
  cases hok : netOk W cs
  · rw [show sfV W cs = [] from by simp [sfV, hok], show sfW W cs = 0 from by simp [sfW, hok]]
    have HO := Lib.hid hok; clear hok
    go_enter Try.func12, Try.ntmps12
    go_wp2_with fail
    refine (l12Good_any W A cs c _ ((hx.below hb0).more hb0.size) hl).mono ?_
    rintro e w1 ⟨rfl, hb1⟩
    obtain ⟨B1, k1, k2⟩ := step_box2 hb1
    have c0 := k2.two.1
    have c1 := k2.two.2
    have f0 := k2.frozen 0
    have f1 := k2.frozen 1
    have xl := k2.lt
    obtain ⟨r0, r1⟩ := ((k2.set_ 0 (.int .i64 0)).set_ 1 (.slice none 0 0)).two
    have R0 := Lib.hid r0; clear r0
    have R1 := Lib.hid r1; clear r1
    rw [HO.out]
    go_wp2_with fail
    refine bodyPost_ret (v := .tuple #[.agg #[.int .i64 0, .slice none 0 0], .bool false]) (by simp [results, Try.results12, go_sem, R0.out, R1.out]) rfl ⟨none, 0, rfl, World.ownsRow_nil _ _ _ _, ?_⟩
    exact (B1.setCell (by simp) _).setCell (by simp) _
  · rw [show sfV W cs = sfL W.toNat cs cs.length from by simp [sfV, hok], show sfW W cs = W from by simp [sfW, hok]]
    have hwr := inB_iff.1 (show inB W 1 16 = true from by have := hok; simp [netOk] at this; exact this.1)
    obtain ⟨hwr1, hwr2⟩ := hwr
    have hcl := netOk_len' hok
    obtain ⟨n, rfl⟩ := Int.eq_ofNat_of_zero_le (show 0 ≤ W by omega)
    rw [Int.toNat_natCast]
    have hcs : ∀ c ∈ cs, cmpOk n c = true := by
      simp only [netOk, Bool.and_eq_true, List.all_eq_true] at hok; exact hok.2.2
    have HC := Lib.hid hcs; clear hcs
    have HO := Lib.hid hok; clear hok
    obtain ⟨i0, hi, hz0, hz1, hz2⟩ := info_parts info_cmp
    go_enter Try.func12, Try.ntmps12
    go_wp2_with fail
    refine (l12Good_any n A cs c _ ((hx.below hb0).more hb0.size) hl).mono ?_
    rintro e w1 ⟨rfl, hb1⟩
    obtain ⟨B1, k1, k2⟩ := step_box2 hb1
    obtain ⟨x0, x1⟩ := k1.two
    have xl := k2.lt
    have xl0 := k1.lt
    rw [HO.out]
    go_upto_region 3 with fail
    go_cut [4] (fun pv wc => ∃ (pz : Nat) (G : Option Addr) (g : Nat), pv = .pointer (some ⟨pz, 0, none⟩) ∧ w.heap.size + 1 < pz ∧ Below w.heap.size w wc ∧ Blk wc (w.heap.size + 1) 26 #[.int .i64 0, .slice none 0 0] ∧
      Blk wc pz 26 #[.int .i64 n, .slice G cs.length g] ∧ wc.ownsRow w.heap.size 32 2 (.slice G cs.length g) cs.length (cmps cs))
    case first =>
      have hsB := B1.size
      go_region_held3 (fun w' => w'.cell? ⟨w.heap.size, 0, none⟩ = some (.int .i64 n) ∧ w'.cell? ⟨w.heap.size, 1, none⟩ = some (.slice A cs.length c)) (exact (show Blk _ w.heap.size 26 #[.int .i64 n, .slice A cs.length c] from by (repeat' (first | with_reducible exact k1 | with_reducible exact k2 | ((with_reducible refine blk_new_at ?_); (simp; done)) | with_reducible refine Blk.drew ?_ | with_reducible refine Blk.alloc ?_ _ | with_reducible refine Blk.far ?_ (by simp <;> omega) _ | with_reducible refine Blk.grown ?_ hgA (by simp [Value.ownBlock] <;> omega)))).two)
        ((refine step_append_any _ (by rfl) _ _ 24 (by rfl) w.heap.size 32 i0 _ 2 16 Try.underlying24 hi hz0 hz1 hz2 (by rfl) (by decide) (.slice (some ⟨_, 0, none⟩) 0 0) 0 [] (by rfl) (by (repeat' (first | ((with_reducible refine made_at (by (try simp) <;> omega) ?_); (simp; done)) | with_reducible refine World.ownsRow.alloc ?_ _ | with_reducible refine own_drew_ ?_))) w.heap.size A cs.length c (cmps cs) (by rfl) (by exact Reads.below hx (by (repeat' (first | with_reducible exact B1 | with_reducible refine bdrew ?_ | with_reducible refine alloc_ ?_ _ | with_reducible refine Below.setCell ?_ (by simp <;> omega) _)))) (cmps_one cs) (by unfold maxLen; omega) (by omega) (by exact Below.size (show Below w.heap.size w _ from by (repeat' (first | with_reducible exact B1 | with_reducible refine bdrew ?_ | with_reducible refine alloc_ ?_ _ | with_reducible refine Below.setCell ?_ (by simp <;> omega) _)))) ?_; intro v' wA hownA hgA hatA; simp only [Nat.zero_add, List.nil_append] at hownA; obtain ⟨G, g, rfl⟩ := own_slice hownA; have lA := hgA.size; simp only [World.size_drew, World.size_alloc] at lA; (try (refine (fun (u0 : Blk wA (w1.heap.size) 26 #[.int .i64 0, .slice none 0 0]) => ?_) ?_; rotate_left; (repeat' (first | with_reducible exact k1 | with_reducible exact k2 | ((with_reducible refine blk_new_at ?_); (simp; done)) | with_reducible refine Blk.drew ?_ | with_reducible refine Blk.alloc ?_ _ | with_reducible refine Blk.far ?_ (by simp <;> omega) _ | with_reducible refine Blk.grown ?_ hgA (by simp [Value.ownBlock] <;> omega))); have v0 := u0.two.1; have v1 := u0.two.2; have f0 := u0.frozen 0; have f1 := u0.frozen 1)); (try (refine (fun (u1 : Blk wA (w1.heap.size + 1) 26 #[.int .i64 0, .slice none 0 0]) => ?_) ?_; rotate_left; (repeat' (first | with_reducible exact k1 | with_reducible exact k2 | ((with_reducible refine blk_new_at ?_); (simp; done)) | with_reducible refine Blk.drew ?_ | with_reducible refine Blk.alloc ?_ _ | with_reducible refine Blk.far ?_ (by simp <;> omega) _ | with_reducible refine Blk.grown ?_ hgA (by simp [Value.ownBlock] <;> omega))); have v0 := u1.two.1; have v1 := u1.two.2; have f0 := u1.frozen 0; have f1 := u1.frozen 1))))
      all_goals
        go_wp2_with fail
        go_meet
        refine ⟨_, G, g, rfl, ?_, ?_, ?_, ?_, ?_⟩
        · omega
        · (repeat' (first | with_reducible exact B1 | with_reducible refine bdrew ?_ | with_reducible refine alloc_ ?_ _ | with_reducible refine Below.setCell ?_ (by simp <;> omega) _ | with_reducible refine Below.grown ?_ hgA (by simp <;> omega) (by intro k hk; simp [Value.ownBlock] at hk; omega)))
        · (repeat' (first | with_reducible exact k1 | with_reducible exact k2 | ((with_reducible refine blk_new_at ?_); (simp; done)) | with_reducible refine Blk.drew ?_ | with_reducible refine Blk.alloc ?_ _ | with_reducible refine Blk.far ?_ (by simp <;> omega) _ | with_reducible refine Blk.grown ?_ hgA (by simp [Value.ownBlock] <;> omega)))
        · first | exact (u0.set_ 0 _).set_ 1 _ | exact (u1.set_ 0 _).set_ 1 _ | exact ((Blk.alloc u0 _).set_ 0 _).set_ 1 _ | (repeat' (first | with_reducible exact k1 | with_reducible exact k2 | ((with_reducible refine blk_new_at ?_); (simp; done)) | with_reducible refine Blk.drew ?_ | with_reducible refine Blk.alloc ?_ _ | with_reducible refine Blk.far ?_ (by simp <;> omega) _ | with_reducible refine Blk.grown ?_ hgA (by simp [Value.ownBlock] <;> omega)))
        · (repeat' (first | with_reducible exact hownA | with_reducible refine World.ownsRow.alloc ?_ _ | with_reducible refine own_drew_ ?_ | with_reducible refine own_setCell ?_ (by first | exact own_blk_ne hownA u0 (by decide) | exact own_blk_ne hownA u1 (by decide)) _))
    case rest =>
      clear x0 x1 xl xl0 k1 k2 B1 hb1 hb0
      obtain ⟨pz, G, g, rfl, hpz, hb, hbz, hblk, hown⟩ := hcut
      have hown0 : wc.ownsRow w.heap.size 32 2 (.slice G cs.length g) cs.length (cmps (sfM n cs 0)) := by rw [map_id_range cs n HC.out]; exact hown
      clear hown
      go_wp2_with fail
      go_loopw [5] (fun i wr => ∃ k : Nat, k ≤ cs.length ∧ i = .int .i64 k ∧ Below w.heap.size w wr ∧ Blk wr (w.heap.size + 1) 26 #[.int .i64 0, .slice none 0 0] ∧ Blk wr pz 26 #[.int .i64 n, .slice G cs.length g] ∧
          wr.ownsRow w.heap.size 32 2 (.slice G cs.length g) cs.length (cmps (sfM n cs k))) (fun i _ => cs.length - (intOf i).toNat)
      case atStart => exact ⟨0, by omega, rfl, hb, hbz, hblk, hown0⟩
      case round =>
        clear hb hbz hblk hown0
        obtain ⟨k, hk, rfl, hb, hbz, hblk, hown⟩ := hrel
        obtain ⟨z0, z1⟩ := hblk.two
        have zl := hblk.lt
        by_cases hlt : k < cs.length
        · obtain ⟨gv, rfl, hgv, hgvl⟩ := own_at hown (by omega)
          have hgvp : gv ≠ pz := fun e => own_blk_ne hown hblk (by decide) (by simp [Value.ownBlock, e])
          have hgvz : gv ≠ w.heap.size + 1 := fun e => own_blk_ne hown hbz (by decide) (by simp [Value.ownBlock, e])
          obtain ⟨hcn, hlo0, hlo1, hhi0, hhi1⟩ := cmpOk_iff' (HC.out cs[k] (List.getElem_mem hlt))
          have hkl : k < (sfM n cs k).length := by rw [sfM_len]; exact hlt
          have hck := cK_get hlt
          have hPQ : (sfM n cs k)[k] = (atI (sfN n cs k) (cK cs k).1, atI (sfN n cs k) (cK cs k).2) := by rw [sfM_at, if_neg (by omega)]; rfl
          have hneq : atI (sfN n cs k) (cK cs k).1 ≠ atI (sfN n cs k) (cK cs k).2 := at_ne (by rw [hck]; omega) (by rw [hck]; omega) (by rw [hck]; exact hcn)
          have hsk := sfM_skip (W := n) hlt
          have hso : sfO n cs k = if atI (sfN n cs k) (cK cs k).2 < atI (sfN n cs k) (cK cs k).1 then (atI (sfN n cs k) (cK cs k).2, atI (sfN n cs k) (cK cs k).1) else (atI (sfN n cs k) (cK cs k).1, atI (sfN n cs k) (cK cs k).2) := rfl
          have hsn : sfN n cs (k + 1) = if atI (sfN n cs k) (cK cs k).2 < atI (sfN n cs k) (cK cs k).1 then (sfN n cs k).map (sw (atI (sfN n cs k) (cK cs k).1) (atI (sfN n cs k) (cK cs k).2)) else sfN n cs k := by rw [sfN]
          have c1 := hown.cellAt (k * 2) (by omega)
          rw [(cmps_get hkl).1, hPQ] at c1
          have c2 := hown.cellAt (k * 2 + 1) (by omega)
          rw [(cmps_get hkl).2, hPQ] at c2
          have f1 := hown.frozenAt (k * 2)
          have f2 := hown.frozenAt (k * 2 + 1)
          clear hck hcn hlo0 hlo1 hhi0 hhi1 hPQ
          generalize hP : atI (sfN n cs k) (cK cs k).1 = P at *
          generalize hQ : atI (sfN n cs k) (cK cs k).2 = Q at *
          simp only at c1 c2
          have ik0 : (0 : Int) ≤ (k : Int) := by omega
          have ik1 : (k : Int) < cs.length := by omega
          clear hP hQ
          by_cases hpq : Q < P
          · rw [if_pos hpq] at hso hsn
            have hst := sfI_start n cs k hlt
            rw [hso] at hst
            have HST := Lib.hid hst; clear hst hso
            have HSN := Lib.hid hsn; clear hsn hsk
            have hnlt : ¬ P < Q := by omega
            go_wp2_with fail
            go_quiet (fail)
            go_upto_region 9 with fail
            have s1 := World.ownsRow.stored (w := wr.drewN nq) hown (k * 2) (.int .i64 Q)
            rw [cmps_set1 _ _ _ hkl] at s1
            have s2 := s1.1.stored (k * 2 + 1) (.int .i64 P)
            rw [cmps_set2 _ _ _ (by simpa using hkl)] at s2
            simp only [List.getElem_set_self, List.set_set] at s2
            rw [HST.out] at s2
            have S2 := Lib.hid s2.1; clear s1 s2
            have hbA := Below.setCell (Below.setCell (below_drewN hb nq) (p := ⟨gv, k * 2, none⟩) (by simp; omega) (.int .i64 Q)) (p := ⟨gv, k * 2 + 1, none⟩) (by simp; omega) (.int .i64 P)
            have hbzA := Blk.far (Blk.far (Blk.drewN hbz nq) (p := ⟨gv, k * 2, none⟩) (by simp; omega) (.int .i64 Q)) (p := ⟨gv, k * 2 + 1, none⟩) (by simp; omega) (.int .i64 P)
            have hblkA := Blk.far (Blk.far (Blk.drewN hblk nq) (p := ⟨gv, k * 2, none⟩) (by simp; omega) (.int .i64 Q)) (p := ⟨gv, k * 2 + 1, none⟩) (by simp; omega) (.int .i64 P)
            go_wp2_with fail
            clear c1 c2 f1 f2 z0 z1 zl
            go_loopw [8] (fun i wr => ∃ u : Nat, k + 1 ≤ u ∧ u ≤ cs.length ∧ i = .int .i64 u ∧ Below w.heap.size w wr ∧ Blk wr (w.heap.size + 1) 26 #[.int .i64 0, .slice none 0 0] ∧ Blk wr pz 26 #[.int .i64 n, .slice (some ⟨gv, 0, none⟩) cs.length g] ∧
                wr.ownsRow w.heap.size 32 2 (.slice (some ⟨gv, 0, none⟩) cs.length g) cs.length (cmps (sfI n cs k u))) (fun i _ => cs.length - (intOf i).toNat)
            case atStart => exact ⟨k + 1, by omega, by omega, by go_num, hbA, hbzA, hblkA, S2.out⟩
            case round =>
              clear hb hbz hblk hown hbA hbzA hblkA S2 hgvl
              obtain ⟨u, hku, hu, rfl, hb, hbz, hblk, hown⟩ := hrel
              obtain ⟨z0, z1⟩ := hblk.two
              have zl := hblk.lt
              have hgvl := (own_lt hown gv rfl).2
              by_cases hlu : u < cs.length
              · have hul : u < (sfI n cs k u).length := by rw [sfI_len]; exact hlu
                have hXY : (sfI n cs k u)[u] = (atI (sfN n cs k) (cK cs u).1, atI (sfN n cs k) (cK cs u).2) := by rw [sfI_at, if_neg (by omega), if_neg (by omega)]; rfl
                obtain ⟨-, hlo0, hlo1, hhi0, hhi1⟩ := cmpOk_iff' (HC.out cs[u] (List.getElem_mem hlu))
                have hcu := cK_get hlu
                have hnl := sfN_len n cs k
                have hnx : mpc (sfN n cs (k + 1)) (cK cs u) = (sw P Q (atI (sfN n cs k) (cK cs u).1), sw P Q (atI (sfN n cs k) (cK cs u).2)) := by
                  unfold mpc
                  rw [HSN.out, atI_map (by rw [hcu, hnl]; omega), atI_map (by rw [hcu, hnl]; omega)]
                have hset := sfI_next n cs k u (by omega) hlu
                rw [hnx] at hset
                have HSET := Lib.hid hset; clear hset hnx
                have c1 := hown.cellAt (u * 2) (by omega)
                rw [(cmps_get hul).1, hXY] at c1
                have c2 := hown.cellAt (u * 2 + 1) (by omega)
                rw [(cmps_get hul).2, hXY] at c2
                have f1 := hown.frozenAt (u * 2)
                have f2 := hown.frozenAt (u * 2 + 1)
                clear hXY hcu hlo0 hlo1 hhi0 hhi1 hnl
                generalize atI (sfN n cs k) (cK cs u).1 = X at *
                generalize atI (sfN n cs k) (cK cs u).2 = Y at *
                simp only at c1 c2
                have iu0 : (0 : Int) ≤ (u : Int) := by omega
                have iu1 : (u : Int) < cs.length := by omega
                have hcb := Blk.new wr 32 #[.int .i64 X, .int .i64 Y]
                obtain ⟨e0, e1⟩ := hcb.two
                have hown1 := hown.alloc (.cells #[.int .i64 X, .int .i64 Y] 32)
                have hbz1 := hbz.alloc (.cells #[.int .i64 X, .int .i64 Y] 32)
                have hblk1 := hblk.alloc (.cells #[.int .i64 X, .int .i64 Y] 32)
                have hb1 := alloc_ hb (.cells #[.int .i64 X, .int .i64 Y] 32)
                have hmg : wr.heap.size ≠ gv := by omega
                have c1' := hown1.cellAt (u * 2) (by omega)
                rw [(cmps_get hul).1] at c1'
                have c2' := hown1.cellAt (u * 2 + 1) (by omega)
                rw [(cmps_get hul).2] at c2'
                have f1' := hown1.frozenAt (u * 2)
                have f2' := hown1.frozenAt (u * 2 + 1)
                obtain ⟨z0', z1'⟩ := hblk1.two
                go_upto_region 14 with fail
                generalize wr.heap.size = m at e0 e1 hcb hmg ⊢
                generalize wr.alloc (.cells #[.int .i64 X, .int .i64 Y] 32) = wa at e0 e1 hcb hown1 hbz1 hblk1 hb1 c1' c2' f1' f2' z0' z1' ⊢
                clear hb hbz hblk hown c1 c2 f1 f2 z0 z1
                have hmg' : gv ≠ m := fun e => hmg e.symm
                go_region_held3 (fun w' => w'.cell? ⟨pz, 1, none⟩ = some (.slice (some ⟨gv, 0, none⟩) cs.length g) ∧ w'.cell? ⟨m, 0, none⟩ = some (.int .i64 X) ∧ w'.cell? ⟨m, 1, none⟩ = some (.int .i64 Y)) (go_keep)
                  ((go_at_call 54; refine (l12Other_any _ _ _ _).mono ?_; rintro e w' ⟨rfl, rfl⟩))
                all_goals
                  go_wp2_with fail
                  go_roundw
                  case rel =>
                    have s1 := hown1.stored (u * 2) (.int .i64 (sw P Q X))
                    rw [cmps_set1 _ _ _ hul] at s1
                    have s2 := s1.1.stored (u * 2 + 1) (.int .i64 (sw P Q Y))
                    rw [cmps_set2 _ _ _ (by simpa using hul)] at s2
                    simp only [List.getElem_set_self, List.set_set] at s2
                    rw [HSET.out] at s2
                    refine ⟨u + 1, by omega, by omega, by go_num, bdrew (Below.setCell (Below.setCell hb1 (by simp; omega) _) (by simp; omega) _), Blk.drew (Blk.far (Blk.far hbz1 (by simp; omega) _) (by simp; omega) _), Blk.drew (Blk.far (Blk.far hblk1 (by simp; omega) _) (by simp; omega) _), by exact s2.1⟩
                  case measure => simp [intOf]; omega
              · have hen := sfI_end n cs k u (by omega)
                rw [hen] at hown
                clear hen
                go_wp2_with fail
                go_roundw
                case rel => exact ⟨k + 1, by omega, by go_num, hb, hbz, hblk, hown⟩
                case measure => simp [intOf]; omega
          · have hlt2 : P < Q := by omega
            have hsk2 := hsk hpq
            rw [hsk2] at hown
            clear hsk hsk2 hso hsn
            go_wp2_with fail
            go_quiet (fail)
            go_wp2_with fail
            go_roundw
            case rel => exact ⟨k + 1, by omega, by go_num, below_drewN hb _, Blk.drewN hbz _, Blk.drewN hblk _, by exact hown⟩
            case measure => simp [intOf]; omega
        · have hks : k = cs.length := by omega
          rw [hks, sfM_end] at hown
          have HKS := Lib.hid hks; clear hks hlt hk
          have hgl : (sfL n cs cs.length).length = cs.length := sfL_len n cs cs.length
          have HGL := Lib.hid hgl; clear hgl
          obtain ⟨d0, d1⟩ := hbz.two
          have f0 := hbz.frozen 0
          have f1 := hbz.frozen 1
          have hl3 := hbz.lt
          have o1 := own_setCell hown (p := ⟨w.heap.size + 1, 0, none⟩) (own_blk_ne hown hbz (by decide)) (.int .i64 n)
          have o2 := own_setCell o1 (p := ⟨w.heap.size + 1, 1, none⟩) (own_blk_ne hown hbz (by decide)) (.slice G cs.length g)
          have O2 := Lib.hid o2; clear o1 o2
          have hbe := Below.setCell (Below.setCell hb (p := ⟨w.heap.size + 1, 0, none⟩) (by simp) (.int .i64 n)) (p := ⟨w.heap.size + 1, 1, none⟩) (by simp) (.slice G cs.length g)
          obtain ⟨r0, r1⟩ := ((hbz.set_ 0 (.int .i64 n)).set_ 1 (.slice G cs.length g)).two
          have R0 := Lib.hid r0; clear r0
          have R1 := Lib.hid r1; clear r1
          clear hown hbz hblk
          have hge : ¬ (k < cs.length) := by have := HKS.out; omega
          go_wp2_with fail
          refine bodyPost_ret (v := .tuple #[.agg #[.int .i64 n, .slice G cs.length g], .bool true]) (by simp [results, Try.results12, go_sem, R0.out, R1.out]) rfl ?_
          rw [HGL.out]
          exact ⟨G, g, rfl, O2.out, hbe⟩
end Go.Proofs.Yteigceeghnphmaa
