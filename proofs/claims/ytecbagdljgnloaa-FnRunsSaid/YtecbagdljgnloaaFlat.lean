/- The elements of a list of lists, one behind the other: slices.Grow of nothing, slices.Concat, and the reference's. -/
import Derived.Test.YtecbagdljgnloaaNest
import Derived.Test.YtecbagdljgnloaaPad
namespace Go.Proofs.Ytecbagdljgnloaa
open Go.RowKit
set_option linter.unusedVariables false
theorem flat_succ {zss : List (List Int)} {k : Nat} (h : k < zss.length) : (zss.take (k + 1)).flatten = (zss.take k).flatten ++ zss[k] := by
  rw [List.take_succ_eq_append_getElem h, List.flatten_append]; simp
theorem flat_len (zss : List (List Int)) : zss.flatten.length = (zss.map List.length).sum := by simp [List.length_flatten]
theorem flat_take_len (zss : List (List Int)) (k : Nat) : (zss.take k).flatten.length = ((zss.map List.length).take k).sum := by rw [flat_len, List.map_take]
theorem own_cut0 {w : World} {base n c : Nat} {e : TypeId} {A : Option Addr} {xs : List Value} (h : w.ownsRow base e 1 (.slice A n c) n xs) : w.ownsRow base e 1 (.slice A 0 c) 0 [] := by
  refine ⟨rfl, ?_⟩
  rcases h.2 with ⟨hv, hn⟩ | ⟨g, cap, cur, hv, hb, hg, hnc, hcm, hs, _⟩
  · simp only [Value.slice.injEq] at hv
    obtain ⟨rfl, rfl, rfl⟩ := hv
    exact .inl ⟨rfl, rfl⟩
  · simp only [Value.slice.injEq] at hv
    obtain ⟨rfl, _, rfl⟩ := hv
    exact .inr ⟨g, c, cur, rfl, hb, hg, Nat.zero_le _, hcm, hs, by simp⟩
set_option maxHeartbeats 800000 in
theorem grow_nil (n : Nat) (w : World) (hn : n ≤ 1048576) :
    Calls Try.prog 54 #[.slice none 0 0, .int .i64 n] w fun e w' => ∃ v, e = .returned v ∧ w'.ownsRow w.heap.size 3 1 v 0 (ints []) ∧ Below w.heap.size w w' := by
  obtain ⟨i0, hi, hz0, hz1, hz2⟩ := info_parts (show (Try.prog.info? 3).map (fun i => (i.zero, i.size, i.bytes)) = some (some (.int .i64 0), 1, 8) by kernel_rfl)
  have ho := World.ownsRow_nil w w.heap.size 3 1
  rcases Nat.eq_zero_or_pos n with h0 | h0
  · subst h0
    go_enter Try.func54, Try.ntmps54
    go_wp2_with fail
    go_ret
    exact ⟨_, rfl, ho, Below.refl _ _⟩
  · have hI : (0 : Int) < n := by omega
    have htn : ((n : Int)).toNat = n := by omega
    go_enter Try.func54, Try.ntmps54
    go_wp2_with (at_builtin; go_loud (refine wpList_pad _ rfl _ _ 22 3 rfl w.heap.size 3 i0 (.int .i64 0) 8 .i64 .i64 Try.underlying22 Try.underlying3 hi hz0 hz1 hz2 rfl rfl (.slice none 0 0) 0 [] rfl ho n rfl (by omega) (by unfold maxLen; omega) (by omega) (Nat.le_refl _) ?_; intro v1 w1 ho1 hg1 hb1; obtain ⟨A1, c1, rfl⟩ := own_slice ho1))
    go_ret
    exact ⟨_, rfl, own_cut0 ho1, hb1⟩
set_option maxRecDepth 100000 in
set_option maxHeartbeats 1600000 in
theorem Concat_any (A : Option Addr) (zss : List (List Int)) (c : Nat) (w : World) (hx : ReadsRR w w.heap.size A zss) (hl : zss.length ≤ 1048576) (hs : (zss.map List.length).sum ≤ 1048576) :
    Calls Try.prog 39 #[.slice A zss.length c] w fun e w' => ∃ v, e = .returned v ∧ w'.ownsRow w.heap.size 3 1 v zss.flatten.length (ints zss.flatten) ∧ Below w.heap.size w w' := by
  obtain ⟨i0, hi, hz0, hz1, hz2⟩ := info_parts (show (Try.prog.info? 3).map (fun i => (i.zero, i.size, i.bytes)) = some (some (.int .i64 0), 1, 8) by kernel_rfl)
  have hml : (zss.map List.length).length = zss.length := by simp
  have HFL := Lib.hid (flat_len zss)
  have HFT := Lib.hid (flat_take_len zss)
  have HGE : Hid (∀ k (h : k < zss.length), zss[k].length = (zss.map List.length)[k]?.getD 0) := Lib.hid (by intro k h; simp [h])
  generalize hls : zss.map List.length = ls at *
  clear hls
  go_enter Try.func39, Try.ntmps39
  go_wp2_with fail
  go_loop [3, 11] (fun t i => ∃ k : Nat, k ≤ zss.length ∧ i = .int .i64 k ∧ t = .int .i64 ((ls.take k).sum : Nat)) (fun _ i => zss.length - (intOf i).toNat)
  case atStart => exact ⟨0, by omega, rfl, by simp⟩
  case round =>
    obtain ⟨k, hk, rfl, rfl⟩ := hrel
    by_cases hlt : k < zss.length
    · obtain ⟨ad, A', c', rfl, hc, hr⟩ := hx.at_ hlt
      have hkl : k < ls.length := by omega
      have hss := sum_take_succ hkl
      have hle := sum_take_le ls (k + 1)
      have hge := HGE.out k hlt
      rw [List.getElem?_eq_getElem hkl, Option.getD_some] at hge
      rw [hge] at hc
      have HSS := Lib.hid hss
      have hb1 : (ls.take k).sum + ls[k] ≤ 1048576 := by omega
      clear hss hle hge hr
      generalize ls[k] = lk at *
      have hnn : ¬ (((ls.take k).sum : Nat) : Int) + lk < 0 := by omega
      go_wp2_with fail
      go_round
      case rel => exact ⟨k + 1, by omega, by go_num, by rw [HSS.out]; go_num⟩
      case measure => simp [intOf]; omega
    · have e2 : (ls.take k).sum = ls.sum := by rw [List.take_of_length_le (by omega)]
      rw [e2]
      go_wp2_with fail
      refine (grow_nil ls.sum w (by omega)).mono ?_
      rintro e w1 ⟨v1, rfl, ho1, hb1⟩
      go_wp2_with fail
      go_loopw [6, 27] (fun v i wr => ∃ k : Nat, k ≤ zss.length ∧ i = .int .i64 k ∧ wr.ownsRow w.heap.size 3 1 v (zss.take k).flatten.length (ints (zss.take k).flatten) ∧ Below w.heap.size w wr) (fun _ i _ => zss.length - (intOf i).toNat)
      case atStart => exact ⟨0, by omega, rfl, by simpa using ho1, hb1⟩
      case round =>
        clear ho1 hb1
        obtain ⟨k, hk, rfl, hown, hb⟩ := hrel
        by_cases hlt : k < zss.length
        · obtain ⟨ad, A', c', rfl, hc, hr⟩ := (hx.below hb).at_ hlt
          have hkl : k < ls.length := by omega
          have hss := sum_take_succ hkl
          have hle := sum_take_le ls (k + 1)
          have hge := HGE.out k hlt
          rw [List.getElem?_eq_getElem hkl, Option.getD_some] at hge
          have hft := HFT.out k
          have HFS := Lib.hid (flat_succ hlt)
          obtain ⟨Ao, co, rfl⟩ := own_slice hown
          have hb1 : (zss.take k).flatten.length + zss[k].length ≤ 1048576 := by omega
          clear hss hle hge hft
          go_wp2_with (at_builtin; go_loud (refine wpList_append_any _ rfl _ _ 22 rfl w.heap.size 3 i0 _ 1 8 Try.underlying22 hi hz0 hz1 hz2 rfl (by decide) _ _ _ rfl hown w.heap.size A' zss[k].length c' (ints zss[k]) rfl hr (by intro u hu; simp only [ints, List.mem_map] at hu; obtain ⟨z, _, rfl⟩ := hu; rfl) (by unfold maxLen; omega) (by omega) hb.size ?_; intro v3 w3 hown3 hg3 hat3))
          have hb3 := hb.trans (below_of_grown (B := w.heap.size) hg3 hb.size (fun q hq => (own_lt hown q hq).1))
          go_roundw
          case rel => exact ⟨k + 1, by omega, by go_num, by rw [HFS.out]; simpa [ints] using hown3, hb3⟩
          case measure => simp [intOf]; omega
        · have hke : zss.take k = zss := List.take_of_length_le (by omega)
          rw [hke] at hown
          clear hke
          obtain ⟨Ao, co, rfl⟩ := own_slice hown
          go_wp2_with fail
          go_ret
          exact ⟨_, rfl, hown, hb⟩
end Go.Proofs.Ytecbagdljgnloaa
