/- StandardForm: the names of the wires; the program's function. -/
import Derived.Test.YteigceeghnphmaaNetTo
import Derived.Test.YteigceeghnphmaaPush
import Derived.Test.YteigceeghnphmaaRun
import Derived.Deep.DeepCutAuto
import Derived.RegionTactic
import Derived.IntWalk
namespace Go.Proofs.Yteigceeghnphmaa
open Go.RowKit
set_option linter.unusedVariables false
/-- two names exchanged -/
def sw (p q x : Int) : Int := if x = p then q else if x = q then p else x
def atI (ns : List Int) (x : Int) : Int := ns[x.toNat]?.getD 0
def cK (cs : List (Int × Int)) (k : Nat) : Int × Int := cs[k]?.getD (0, 0)
theorem cK_get {cs : List (Int × Int)} {k : Nat} (h : k < cs.length) : cK cs k = cs[k] := by simp [cK, h]
/-- the names behind k comparators -/
def sfN (W : Nat) (cs : List (Int × Int)) : Nat → List Int
  | 0 => (List.range W).map fun i : Nat => (i : Int)
  | k + 1 => if atI (sfN W cs k) (cK cs k).2 < atI (sfN W cs k) (cK cs k).1 then (sfN W cs k).map (sw (atI (sfN W cs k) (cK cs k).1) (atI (sfN W cs k) (cK cs k).2)) else sfN W cs k
def sfO (W : Nat) (cs : List (Int × Int)) (k : Nat) : Int × Int :=
  if atI (sfN W cs k) (cK cs k).2 < atI (sfN W cs k) (cK cs k).1 then (atI (sfN W cs k) (cK cs k).2, atI (sfN W cs k) (cK cs k).1) else (atI (sfN W cs k) (cK cs k).1, atI (sfN W cs k) (cK cs k).2)
def sfL (W : Nat) (cs : List (Int × Int)) (k : Nat) : List (Int × Int) := (List.range k).map (sfO W cs)
theorem sfL_succ (W : Nat) (cs : List (Int × Int)) (k : Nat) : sfL W cs (k + 1) = sfL W cs k ++ [sfO W cs k] := by simp [sfL, List.range_succ]
theorem sfL_len (W : Nat) (cs : List (Int × Int)) (k : Nat) : (sfL W cs k).length = k := by simp [sfL]
theorem sfN_len (W : Nat) (cs : List (Int × Int)) : ∀ k, (sfN W cs k).length = W
  | 0 => by simp [sfN]
  | k + 1 => by rw [sfN]; split <;> simp [sfN_len W cs k]
theorem sw_rng {p q x : Int} {W : Int} (hp : 0 ≤ p ∧ p < W) (hq : 0 ≤ q ∧ q < W) (hx : 0 ≤ x ∧ x < W) : 0 ≤ sw p q x ∧ sw p q x < W := by
  unfold sw; split
  · exact hq
  · split
    · exact hp
    · exact hx
theorem sfN_rng (W : Nat) (cs : List (Int × Int)) (hW : 0 < W) : ∀ k, ∀ x ∈ sfN W cs k, 0 ≤ x ∧ x < (W : Int)
  | 0 => by intro x hx; simp [sfN] at hx; obtain ⟨i, hi, rfl⟩ := hx; omega
  | k + 1 => by
    have ih := sfN_rng W cs hW k
    have hat : ∀ x, 0 ≤ atI (sfN W cs k) x ∧ atI (sfN W cs k) x < (W : Int) := by
      intro x
      unfold atI
      by_cases h : x.toNat < (sfN W cs k).length
      · rw [List.getElem?_eq_getElem h]; exact ih _ (List.getElem_mem h)
      · rw [List.getElem?_eq_none (by omega)]; simp; omega
    rw [sfN]
    split
    · intro x hx
      obtain ⟨y, hy, rfl⟩ := List.mem_map.1 hx
      exact sw_rng (hat _) (hat _) (ih y hy)
    · exact ih
theorem sw_inj {p q x y : Int} (h : sw p q x = sw p q y) : x = y := by
  unfold sw at h
  split at h <;> split at h <;> (try split at h) <;> (try split at h) <;> omega
theorem sfN_inj (W : Nat) (cs : List (Int × Int)) : ∀ k, (sfN W cs k).Pairwise (· ≠ ·)
  | 0 => by
    rw [sfN, List.pairwise_map]
    exact List.Pairwise.imp (fun {a b} h e => absurd (Int.ofNat_inj.1 e) (Nat.ne_of_lt h)) List.pairwise_lt_range
  | k + 1 => by
    rw [sfN]
    split
    · rw [List.pairwise_map]
      exact List.Pairwise.imp (fun h e => h (sw_inj e)) (sfN_inj W cs k)
    · exact sfN_inj W cs k
/-- the first j mapped -/
def mixL (f : Int → Int) (ns : List Int) (j : Nat) : List Int := (ns.take j).map f ++ ns.drop j
@[simp] theorem mixL_len (f : Int → Int) (ns : List Int) (j : Nat) : (mixL f ns j).length = ns.length := by simp [mixL]; omega
theorem mixL_zero (f : Int → Int) (ns : List Int) : mixL f ns 0 = ns := by simp [mixL]
theorem mixL_end (f : Int → Int) (ns : List Int) (j : Nat) (h : ns.length ≤ j) : mixL f ns j = ns.map f := by
  simp [mixL, List.take_of_length_le h, List.drop_eq_nil_of_le h]
theorem mixL_at (f : Int → Int) (ns : List Int) (j : Nat) (h : j < ns.length) : (mixL f ns j)[j]? = some ns[j] := by
  unfold mixL
  rw [List.getElem?_append_right (by simp; omega)]
  simp [Nat.min_eq_left (Nat.le_of_lt h), h]
theorem mixL_set (f : Int → Int) (ns : List Int) (j : Nat) (h : j < ns.length) : (mixL f ns j).set j (f ns[j]) = mixL f ns (j + 1) := by
  unfold mixL
  have h1 : ((ns.take j).map f).length = j := by simp; omega
  rw [List.set_append_right _ _ (by omega), h1, Nat.sub_self, List.drop_eq_getElem_cons h, List.set_cons_zero, List.take_succ_eq_append_getElem h]
  simp only [List.map_append, List.map_cons, List.map_nil, List.append_assoc, List.singleton_append]
theorem mixL_same (f : Int → Int) (ns : List Int) (j : Nat) (h : j < ns.length) (hf : f ns[j] = ns[j]) : mixL f ns j = mixL f ns (j + 1) := by
  rw [← mixL_set f ns j h, hf]
  apply List.ext_getElem?
  intro i
  rw [List.getElem?_set]
  split
  · rename_i e; subst e
    rw [if_pos (by simp [h])]
    exact mixL_at f ns _ h
  · rfl
def sfW (W : Int) (cs : List (Int × Int)) : Int := if netOk W cs then W else 0
def sfV (W : Int) (cs : List (Int × Int)) : List (Int × Int) := if netOk W cs then sfL W.toNat cs cs.length else []
theorem netOk_len' {W : Int} {cs : List (Int × Int)} (h : netOk W cs = true) : cs.length ≤ 200 := by simp [netOk] at h; exact h.2.1
theorem sf_len (W : Int) (cs : List (Int × Int)) : (sfV W cs).length ≤ 200 := by
  unfold sfV
  split
  · rename_i h; rw [sfL_len]; exact netOk_len' h
  · simp
theorem NetAt.alloc_ {w : World} {B p : Nat} {W : Int} {cs : List (Int × Int)} (h : NetAt w B p W cs) (o : Obj) : NetAt (w.alloc o) B p W cs := by
  obtain ⟨v, h1, h2, h3⟩ := h
  exact ⟨v, h1.alloc o, h2.alloc o, h3⟩
theorem NetAt.far {w : World} {B p : Nat} {W : Int} {cs : List (Int × Int)} (h : NetAt w B p W cs) {q : Addr} (hq : p ≠ q.block) {t : TypeId} {ds : Array Value} (hb : Blk w q.block t ds) (ht : 32 ≠ t ∨ w.heap.size ≤ q.block ∨ (∀ v, w.ownsRow B 32 2 v cs.length (cmps cs) → v.ownBlock ≠ some q.block)) (u : Value) : NetAt (w.setCell q u) B p W cs := by
  obtain ⟨v, h1, h2, h3⟩ := h
  refine ⟨v, h1.far hq u, own_setCell h2 ?_ u, h3⟩
  rcases ht with ht | ht | ht
  · exact own_blk_ne h2 hb ht
  · intro e; have := (own_lt h2 _ e).2; omega
  · exact ht v h2
theorem netAt_mk {w : World} {B p : Nat} {W : Int} {v : Value} (h1 : Blk w p 26 #[.int .i64 W, v]) (h2 : w.ownsRow B 32 2 v 0 []) (h3 : B ≤ p) : NetAt w B p W [] := ⟨v, h1, h2, h3⟩
set_option maxRecDepth 100000 in
set_option maxHeartbeats 3200000 in
theorem StandardForm_any (W : Int) (A : Option Addr) (cs : List (Int × Int)) (c : Nat) (w : World) (hx : Reads w w.heap.size 2 A cs.length (cmps cs)) (hl : cs.length ≤ 1099511627776) :
    Calls Try.prog 11 #[.agg #[.int .i64 W, .slice A cs.length c]] w fun e w' => ∃ A c, e = .returned (.tuple #[.agg #[.int .i64 (sfW W cs), .slice A (sfV W cs).length c], .bool (netOk W cs)]) ∧
      w'.ownsRow w.heap.size 32 2 (.slice A (sfV W cs).length c) (sfV W cs).length (cmps (sfV W cs)) ∧ Below w.heap.size w w' := by
  have hb0 : Below w.heap.size w ((w.alloc (.cells #[.int .i64 W, .slice A cs.length c] 26)).alloc (.cells #[.int .i64 0, .slice none 0 0] 26)) := by go_grown
  cases hok : netOk W cs
  · rw [show sfV W cs = [] from by simp [sfV, hok], show sfW W cs = 0 from by simp [sfW, hok]]
    have HO := Lib.hid hok; clear hok
    go_enter Try.func11, Try.ntmps11
    go_wp2_with fail
    refine (IsValidNetwork_any W A cs c _ ((hx.below hb0).more hb0.size) hl).mono ?_
    rintro e w1 ⟨rfl, hb1⟩
    obtain ⟨B1, k1, k2⟩ := step_box2 hb1
    have c0 := k2.two.1
    have c1 := k2.two.2
    have f0 := k2.frozen 0
    have f1 := k2.frozen 1
    have xl := k2.lt
    obtain ⟨r0, r1⟩ := ((k2.set_ 0 (.int .i64 0)).set_ 1 (.slice none 0 0)).two
    have R0 := Lib.hid r0; clear r0
    have R1 := Lib.hid r1; clear r1
    rw [HO.out]
    go_wp2_with fail
    refine bodyPost_ret (v := .tuple #[.agg #[.int .i64 0, .slice none 0 0], .bool false]) (by simp [results, Try.results11, go_sem, R0.out, R1.out]) rfl ⟨none, 0, rfl, World.ownsRow_nil _ _ _ _, ?_⟩
    exact (B1.setCell (by simp) _).setCell (by simp) _
  · rw [show sfV W cs = sfL W.toNat cs cs.length from by simp [sfV, hok], show sfW W cs = W from by simp [sfW, hok]]
    have hwr := inB_iff.1 (show inB W 1 16 = true from by have := hok; simp [netOk] at this; exact this.1)
    obtain ⟨hwr1, hwr2⟩ := hwr
    have hcl := netOk_len' hok
    obtain ⟨n, rfl⟩ := Int.eq_ofNat_of_zero_le (show 0 ≤ W by omega)
    rw [Int.toNat_natCast]
    have hcs : ∀ c ∈ cs, cmpOk n c = true := by
      simp only [netOk, Bool.and_eq_true, List.all_eq_true] at hok; exact hok.2.2
    have HC := Lib.hid hcs; clear hcs
    have HO := Lib.hid hok; clear hok
    obtain ⟨i0, hi, hz0, hz1, hz2⟩ := info_parts info_cmp
    obtain ⟨j0, hj, hy0, hy1, hy2⟩ := info_parts (show (Try.prog.info? 3).map (fun i => (i.zero, i.size, i.bytes)) = some (some (.int .i64 0), 1, 8) by kernel_rfl)
    go_enter Try.func11, Try.ntmps11
    go_wp2_with fail
    refine (IsValidNetwork_any n A cs c _ ((hx.below hb0).more hb0.size) hl).mono ?_
    rintro e w1 ⟨rfl, hb1⟩
    obtain ⟨B1, k1, k2⟩ := step_box2 hb1
    obtain ⟨x0, x1⟩ := k1.two
    have xl := k2.lt
    have xl0 := k1.lt
    rw [HO.out]
    go_upto_region 3 with fail
    go_cut [4, 5] (fun v pv wc => ∃ pz : Nat, pv = .pointer (some ⟨pz, 0, none⟩) ∧ w.heap.size + 1 < pz ∧ Below w.heap.size w wc ∧ Blk wc w.heap.size 26 #[.int .i64 n, .slice A cs.length c] ∧ Blk wc (w.heap.size + 1) 26 #[.int .i64 0, .slice none 0 0] ∧
      NetAt wc w.heap.size pz n [] ∧ wc.ownsRow w.heap.size 3 1 v 0 [])
    case first =>
      have hsB := B1.size
      go_region_held3 (fun w' => w'.cell? ⟨w.heap.size, 0, none⟩ = some (.int .i64 n) ∧ w'.cell? ⟨w.heap.size, 1, none⟩ = some (.slice A cs.length c)) (exact (show Blk _ w.heap.size 26 #[.int .i64 n, .slice A cs.length c] from by (repeat' (first | with_reducible exact k1 | with_reducible exact k2 | ((with_reducible refine blk_new_at ?_); (simp; done)) | with_reducible refine Blk.drew ?_ | with_reducible refine Blk.alloc ?_ _ | with_reducible refine Blk.far ?_ (by simp <;> omega) _))).two) (fail)
      all_goals
        go_wp2_with fail
        go_meet
        refine ⟨_, rfl, ?_, ?_, ?_, ?_, ?_, ?_⟩
        · omega
        · (repeat' (first | with_reducible exact B1 | with_reducible refine bdrew ?_ | with_reducible refine alloc_ ?_ _ | with_reducible refine Below.setCell ?_ (by simp <;> omega) _))
        · (repeat' (first | with_reducible exact k1 | with_reducible exact k2 | ((with_reducible refine blk_new_at ?_); (simp; done)) | with_reducible refine Blk.drew ?_ | with_reducible refine Blk.alloc ?_ _ | with_reducible refine Blk.far ?_ (by simp <;> omega) _))
        · (repeat' (first | with_reducible exact k1 | with_reducible exact k2 | ((with_reducible refine blk_new_at ?_); (simp; done)) | with_reducible refine Blk.drew ?_ | with_reducible refine Blk.alloc ?_ _ | with_reducible refine Blk.far ?_ (by simp <;> omega) _))
        · with_reducible apply netAt_mk
          · (repeat' (first | with_reducible exact k1 | with_reducible exact k2 | ((with_reducible refine blk_new_at ?_); (simp; done)) | with_reducible refine Blk.drew ?_ | with_reducible refine Blk.alloc ?_ _ | with_reducible refine Blk.far ?_ (by simp <;> omega) _))
          · (repeat' (first | ((with_reducible refine made_at (by (try simp) <;> omega) ?_); (simp; done)) | with_reducible refine World.ownsRow.alloc ?_ _ | with_reducible refine own_drew_ ?_ | with_reducible refine own_setCell ?_ (by simp [Value.ownBlock] <;> omega) _))
          · omega
        · (repeat' (first | ((with_reducible refine made_at (by (try simp) <;> omega) ?_); (simp; done)) | with_reducible refine World.ownsRow.alloc ?_ _ | with_reducible refine own_drew_ ?_ | with_reducible refine own_setCell ?_ (by simp [Value.ownBlock] <;> omega) _))
    case rest =>
      clear x0 x1 xl xl0 k1 k2 B1 hb1 hb0
      obtain ⟨pz, rfl, hpz, hb, hbn, hbz, hnet, hown⟩ := hcut
      obtain ⟨x0, x1⟩ := hbn.two
      have xl := hbn.lt
      go_wp2_with fail
      clear x0 x1 xl
      go_loopw [4, 22] (fun v i wr => ∃ k : Nat, k ≤ n ∧ i = .int .i64 k ∧ Below w.heap.size w wr ∧ Blk wr w.heap.size 26 #[.int .i64 n, .slice A cs.length c] ∧ Blk wr (w.heap.size + 1) 26 #[.int .i64 0, .slice none 0 0] ∧
          NetAt wr w.heap.size pz n [] ∧ wr.ownsRow w.heap.size 3 1 v k (ints ((List.range k).map fun i : Nat => (i : Int)))) (fun _ i _ => n - (intOf i).toNat)
      case atStart => exact ⟨0, by omega, rfl, hb, hbn, hbz, hnet, hown⟩
      case round =>
        clear hb hbn hbz hnet hown
        obtain ⟨k, hk, rfl, hb, hbn, hbz, hnet, hown⟩ := hrel
        by_cases hlt : k < n
        · have hsu : ((List.range (k + 1)).map fun i : Nat => (i : Int)) = ((List.range k).map fun i : Nat => (i : Int)) ++ [(k : Int)] := by simp [List.range_succ]
          have HSU := Lib.hid hsu; clear hsu
          go_wp2_with (at_builtin; refine wpList_push _ rfl _ _ 33 rfl w.heap.size 3 j0 _ 1 8 Try.underlying33 hj hy0 hy1 hy2 rfl (by decide) u4 _ _ rfl hown #[.int .i64 k] rfl rfl (by simp [Value.oneCell']) (by omega) (by unfold maxLen; omega) hb.size ?_; intro g1 k1 w2 hown1 hg1 hb3 hat3)
          go_roundw
          case rel =>
            refine ⟨k + 1, by omega, by go_num, hb.trans hb3, hbn.grown hg1 (fun e => own_blk_ne hown hbn (by decide) e.symm), hbz.grown hg1 (fun e => own_blk_ne hown hbz (by decide) e.symm), ?_, by rw [HSU.out]; simpa [ints] using hown1⟩
            obtain ⟨v, h1, h2, h3⟩ := hnet
            exact ⟨v, h1.grown hg1 (fun e => own_blk_ne hown h1 (by decide) e.symm), World.ownsRow.kept h2 hg1 (own_ne_type h2 hown (by decide)), h3⟩
          case measure => simp [intOf]; omega
        · obtain rfl : n = k := by omega
          obtain ⟨gN, cN, rfl, hgN, hgNl, -⟩ := own_some hown (by omega)
          rw [show ((List.range n).map fun i : Nat => (i : Int)) = sfN n cs 0 from rfl] at hown
          obtain ⟨x0, x1⟩ := hbn.two
          have xl := hbn.lt
          go_wp2_with fail
          clear x0 x1 xl hlt hk
          go_loopw [33] (fun i wr => ∃ k : Nat, k ≤ cs.length ∧ i = .int .i64 k ∧ Below w.heap.size w wr ∧ Blk wr w.heap.size 26 #[.int .i64 n, .slice A cs.length c] ∧ Blk wr (w.heap.size + 1) 26 #[.int .i64 0, .slice none 0 0] ∧
              NetAt wr w.heap.size pz n (sfL n cs k) ∧ wr.ownsRow w.heap.size 3 1 (.slice (some ⟨gN, 0, none⟩) n cN) n (ints (sfN n cs k))) (fun i _ => cs.length - (intOf i).toNat)
          case atStart => exact ⟨0, by omega, rfl, hb, hbn, hbz, by simpa [sfL] using hnet, hown⟩
          case round =>
            clear hb hbn hbz hnet hown hgNl
            obtain ⟨k, hk, rfl, hb, hbn, hbz, hnet, hown⟩ := hrel
            by_cases hlt : k < cs.length
            · obtain ⟨ad, rfl, had, hc0, hc1⟩ := (hx.below hb).cmp hlt
              obtain ⟨hcn, hlo0, hlo1, hhi0, hhi1⟩ := cmpOk_iff' (HC.out cs[k] (List.getElem_mem hlt))
              obtain ⟨a, b, hck⟩ : ∃ a b : Nat, cs[k] = ((a : Int), (b : Int)) := ⟨cs[k].1.toNat, cs[k].2.toNat, by ext <;> simp <;> omega⟩
              have hsl := sfL_succ n cs k
              have hso : sfO n cs k = if atI (sfN n cs k) b < atI (sfN n cs k) a then (atI (sfN n cs k) b, atI (sfN n cs k) a) else (atI (sfN n cs k) a, atI (sfN n cs k) b) := by
                unfold sfO; rw [cK_get hlt, hck]
              have hsn : sfN n cs (k + 1) = if atI (sfN n cs k) b < atI (sfN n cs k) a then (sfN n cs k).map (sw (atI (sfN n cs k) a) (atI (sfN n cs k) b)) else sfN n cs k := by
                rw [sfN, cK_get hlt, hck]
              have hnl := sfN_len n cs k
              have hrg := sfN_rng n cs (by omega) k
              rw [hck] at hlo1 hhi1 hc0 hc1 hcn
              simp only at hlo1 hhi1
              clear hck hcn hlo0 hhi0
              generalize hns : sfN n cs k = ns at hown hsn hso hnl hrg
              clear hns
              have han : a < ns.length := by omega
              have hbn' : b < ns.length := by omega
              have hpa : atI ns a = ns[a] := by unfold atI; rw [Int.toNat_natCast, List.getElem?_eq_getElem han, Option.getD_some]
              have hqb : atI ns b = ns[b] := by unfold atI; rw [Int.toNat_natCast, List.getElem?_eq_getElem hbn', Option.getD_some]
              have ga : (ints ns)[a]? = some (.int .i64 (atI ns a)) := by rw [ints_get han, hpa]
              have gb : (ints ns)[b]? = some (.int .i64 (atI ns b)) := by rw [ints_get hbn', hqb]
              have hP := hrg _ (List.getElem_mem han)
              have hQ := hrg _ (List.getElem_mem hbn')
              rw [← hpa] at hP
              rw [← hqb] at hQ
              clear hpa hqb hrg
              have HNL := Lib.hid hnl
              clear hnl
              generalize hPd : atI ns a = P at *
              generalize hQd : atI ns b = Q at *
              clear hPd hQd
              obtain ⟨hP0, hP1⟩ := hP
              obtain ⟨hQ0, hQ1⟩ := hQ
              have ia : (0 : Int) ≤ (a : Int) := by omega
              have ib : (0 : Int) ≤ (b : Int) := by omega
              have ian : (a : Int) < n := by omega
              have ibn : (b : Int) < n := by omega
              have hwB := hb.size
              have hcb := Blk.new wr 32 #[.int .i64 a, .int .i64 b]
              obtain ⟨e0, e1⟩ := hcb.two
              have ef0 := hcb.frozen 0
              have ef1 := hcb.frozen 1
              have hown1 := hown.alloc (.cells #[.int .i64 a, .int .i64 b] 32)
              have hbn1 := hbn.alloc (.cells #[.int .i64 a, .int .i64 b] 32)
              have hbz1 := hbz.alloc (.cells #[.int .i64 a, .int .i64 b] 32)
              obtain ⟨v, hblk, how, hBp⟩ := hnet
              have hvm : v.ownBlock ≠ some wr.heap.size := fun e => by have := (own_lt how _ e).2; omega
              have hblk1 := hblk.alloc (.cells #[.int .i64 a, .int .i64 b] 32)
              have how1 := how.alloc (.cells #[.int .i64 a, .int .i64 b] 32)
              have hb1 := alloc_ hb (.cells #[.int .i64 a, .int .i64 b] 32)
              have d0 := hown1.cellAt a (by omega)
              have d1 := hown1.cellAt b (by omega)
              rw [ga] at d0
              rw [gb] at d1
              clear ga gb
              have hmg : wr.heap.size ≠ gN := by have := (own_lt hown gN rfl).2; omega
              have hmp : wr.heap.size ≠ pz := by have := hblk.lt; omega
              have hmw : w.heap.size + 1 < wr.heap.size := hbz.lt
              go_upto_region 12 with fail
              generalize wr.heap.size = m at e0 e1 ef0 ef1 hcb hmg hmp hmw hvm ⊢
              generalize wr.alloc (.cells #[.int .i64 a, .int .i64 b] 32) = wa at e0 e1 ef0 ef1 hcb hown1 hbn1 hbz1 hblk1 how1 hb1 d0 d1 ⊢
              clear hb hbn hbz hblk how hown
              have hml := hcb.lt
              go_cut [8] (fun s8 wc => s8 = .pointer (some ⟨m, 0, none⟩) ∧ Below w.heap.size w wc ∧ Blk wc w.heap.size 26 #[.int .i64 n, .slice (some ad) cs.length c] ∧ Blk wc (w.heap.size + 1) 26 #[.int .i64 0, .slice none 0 0] ∧
                Blk wc pz 26 #[.int .i64 n, v] ∧ wc.ownsRow w.heap.size 32 2 v (sfL n cs k).length (cmps (sfL n cs k)) ∧ wc.ownsRow w.heap.size 3 1 (.slice (some ⟨gN, 0, none⟩) n cN) n (ints ns) ∧ Blk wc m 32 #[.int .i64 P, .int .i64 Q])
              case first =>
                go_region
                all_goals
                  go_wp2_with fail
                  go_meet
                  refine ⟨rfl, bdrew (Below.setCell (Below.setCell hb1 (by simp; omega) _) (by simp; omega) _), Blk.drew (Blk.far (Blk.far hbn1 (by simp; omega) _) (by simp; omega) _), Blk.drew (Blk.far (Blk.far hbz1 (by simp; omega) _) (by simp; omega) _), Blk.drew (Blk.far (Blk.far hblk1 (by simp; omega) _) (by simp; omega) _), own_drew_ (own_setCell (own_setCell how1 (p := ⟨m, 0, none⟩) hvm _) (p := ⟨m, 1, none⟩) hvm _), own_drew_ (own_setCell (own_setCell hown1 (p := ⟨m, 0, none⟩) (by simp [Value.ownBlock]; omega) _) (p := ⟨m, 1, none⟩) (by simp [Value.ownBlock]; omega) _), Blk.drew ((hcb.set_ 0 _).set_ 1 _)⟩
              case rest =>
                clear e0 e1 ef0 ef1 hcb hown1 hbn1 hbz1 hblk1 how1 hb1 d0 d1 hml
                obtain ⟨rfl, hb, hbn, hbz, hblk, how, hown, hcb⟩ := hcut
                obtain ⟨y0, y1⟩ := hcb.two
                have yl := hcb.lt
                by_cases hpq : Q < P
                · rw [if_pos hpq] at hso hsn
                  rw [hso] at hsl
                  have HSL := Lib.hid hsl; clear hsl hso
                  have HSN := Lib.hid hsn; clear hsn
                  have hnx := fun j (h : j < ns.length) => mixL_set (sw P Q) ns j h
                  have hne := fun j (h : j < ns.length) (e : sw P Q ns[j] = ns[j]) => mixL_same (sw P Q) ns j h e
                  have HNX := Lib.hid hnx; clear hnx
                  have HNE := Lib.hid hne; clear hne
                  go_wp2_with fail
                  clear y0 y1 yl
                  go_loopw [55] (fun i wr => ∃ j : Nat, j ≤ n ∧ i = .int .i64 j ∧ Below w.heap.size w wr ∧ Blk wr w.heap.size 26 #[.int .i64 n, .slice (some ad) cs.length c] ∧ Blk wr (w.heap.size + 1) 26 #[.int .i64 0, .slice none 0 0] ∧
                      Blk wr pz 26 #[.int .i64 n, v] ∧ wr.ownsRow w.heap.size 32 2 v (sfL n cs k).length (cmps (sfL n cs k)) ∧ wr.ownsRow w.heap.size 3 1 (.slice (some ⟨gN, 0, none⟩) n cN) n (ints (mixL (sw P Q) ns j)) ∧ Blk wr m 32 #[.int .i64 P, .int .i64 Q]) (fun i _ => n - (intOf i).toNat)
                  case atStart => exact ⟨0, by omega, rfl, hb, hbn, hbz, hblk, how, by rw [mixL_zero]; exact hown, hcb⟩
                  case round =>
                    clear hb hbn hbz hblk how hown hcb
                    obtain ⟨j, hjn, rfl, hb, hbn, hbz, hblk, how, hown, hcb⟩ := hrel
                    obtain ⟨y0, y1⟩ := hcb.two
                    have yl := hcb.lt
                    by_cases hlj : j < n
                    · have hjl : j < ns.length := by rw [HNL.out]; exact hlj
                      have oc := hown.cellAt j (by omega)
                      have hmx : (ints (mixL (sw P Q) ns j))[j]? = some (.int .i64 ns[j]) := by
                        rw [ints, List.getElem?_map, mixL_at _ _ _ hjl]; rfl
                      rw [hmx] at oc
                      clear hmx
                      have of := hown.frozenAt j
                      have hnx := HNX.out j hjl
                      have hne := HNE.out j hjl
                      have s1 := hown.stored j (.int .i64 (sw P Q ns[j]))
                      rw [ints_set, hnx] at s1
                      have hgl := (own_lt hown gN rfl)
                      clear hnx
                      have hsw : sw P Q ns[j] = if ns[j] = P then Q else if ns[j] = Q then P else ns[j] := rfl
                      have HNE2 := Lib.hid hne; clear hne
                      generalize ns[j] = y at *
                      have hgpz : gN ≠ pz := fun e => own_blk_ne hown hblk (by decide) (by simp [Value.ownBlock, e])
                      have hgm : gN ≠ m := fun e => own_blk_ne hown hcb (by decide) (by simp [Value.ownBlock, e])
                      have hgw : gN ≠ w.heap.size := fun e => own_blk_ne hown hbn (by decide) (by simp [Value.ownBlock, e])
                      have hgw1 : gN ≠ w.heap.size + 1 := fun e => own_blk_ne hown hbz (by decide) (by simp [Value.ownBlock, e])
                      have hvg : v.ownBlock ≠ some gN := fun e => by
                        rcases own_ne_type how hown (by decide) with h | h
                        · rw [e] at h; cases h
                        · exact h (by rw [e]; rfl)
                      by_cases h1 : y = P
                      · rw [if_pos h1] at hsw
                        rw [hsw] at s1
                        have S1 := Lib.hid s1; clear s1
                        have hb1 : (y == P) = true := by simpa using h1
                        clear h1 hsw HNE2
                        go_wp2_with fail
                        go_roundw
                        case rel => exact ⟨j + 1, by omega, by go_num, hb.setCell (by simp; omega) _, hbn.far (by simp; omega) _, hbz.far (by simp; omega) _, hblk.far (by simp; omega) _, own_setCell how hvg _, S1.out.1, hcb.far (by simp; omega) _⟩
                        case measure => simp [intOf]; omega
                      · rw [if_neg h1] at hsw
                        have hb1 : (y == P) = false := by simpa using h1
                        clear h1
                        by_cases h2 : y = Q
                        · rw [if_pos h2] at hsw
                          rw [hsw] at s1
                          have S1 := Lib.hid s1; clear s1
                          have hb2 : (y == Q) = true := by simpa using h2
                          clear h2 hsw HNE2
                          go_wp2_with fail
                          go_roundw
                          case rel => exact ⟨j + 1, by omega, by go_num, hb.setCell (by simp; omega) _, hbn.far (by simp; omega) _, hbz.far (by simp; omega) _, hblk.far (by simp; omega) _, own_setCell how hvg _, S1.out.1, hcb.far (by simp; omega) _⟩
                          case measure => simp [intOf]; omega
                        · rw [if_neg h2] at hsw
                          have hb2 : (y == Q) = false := by simpa using h2
                          clear h2 s1
                          have hmm := HNE2.out hsw
                          have HMM := Lib.hid hmm; clear hmm hsw
                          go_wp2_with fail
                          go_roundw
                          case rel => exact ⟨j + 1, by omega, by go_num, hb, hbn, hbz, hblk, how, by rw [← HMM.out]; exact hown, hcb⟩
                          case measure => simp [intOf]; omega
                    · have hje : mixL (sw P Q) ns j = sfN n cs (k + 1) := by rw [HSN.out, mixL_end _ _ _ (by rw [HNL.out]; omega)]
                      rw [hje] at hown
                      clear hje
                      have yf0 := hcb.frozen 0
                      have yf1 := hcb.frozen 1
                      have hcb2 : Blk ((wr.setCell ⟨m, 0, none⟩ (.int .i64 Q)).setCell ⟨m, 1, none⟩ (.int .i64 P)) m 32 #[.int .i64 Q, .int .i64 P] := (hcb.set_ 0 _).set_ 1 _
                      have hmgN : m ≠ gN := by omega
                      have hb2 := Below.setCell (Below.setCell hb (p := ⟨m, 0, none⟩) (by simp; omega) (.int .i64 Q)) (p := ⟨m, 1, none⟩) (by simp; omega) (.int .i64 P)
                      have hbn2 := Blk.far (Blk.far hbn (p := ⟨m, 0, none⟩) (by simp; omega) (.int .i64 Q)) (p := ⟨m, 1, none⟩) (by simp; omega) (.int .i64 P)
                      have hbz2 := Blk.far (Blk.far hbz (p := ⟨m, 0, none⟩) (by simp; omega) (.int .i64 Q)) (p := ⟨m, 1, none⟩) (by simp; omega) (.int .i64 P)
                      have hblk2' := Blk.far (Blk.far hblk (p := ⟨m, 0, none⟩) (by simp; omega) (.int .i64 Q)) (p := ⟨m, 1, none⟩) (by simp; omega) (.int .i64 P)
                      have how2 := own_setCell (own_setCell how (p := ⟨m, 0, none⟩) hvm (.int .i64 Q)) (p := ⟨m, 1, none⟩) hvm (.int .i64 P)
                      have hown2' := own_setCell (own_setCell hown (p := ⟨m, 0, none⟩) (by simp [Value.ownBlock]; omega) (.int .i64 Q)) (p := ⟨m, 1, none⟩) (by simp [Value.ownBlock]; omega) (.int .i64 P)
                      go_upto_region 24 with fail
                      clear hb hbn hbz hblk how hown hcb y0 y1 yl yf0 yf1
                      generalize (wr.setCell ⟨m, 0, none⟩ (.int .i64 Q)).setCell ⟨m, 1, none⟩ (.int .i64 P) = wd at hcb2 hb2 hbn2 hbz2 hblk2' how2 hown2' ⊢
                      have hb := hb2; clear hb2
                      have hbn := hbn2; clear hbn2
                      have hbz := hbz2; clear hbz2
                      have hblk := hblk2'; clear hblk2'
                      have how := how2; clear how2
                      have hown := hown2'; clear hown2'
                      have hcb := hcb2; clear hcb2
                      obtain ⟨q0, q1⟩ := hblk.two
                      have ql := hblk.lt
                      obtain ⟨y0, y1⟩ := hcb.two
                      have yl := hcb.lt
                      have hbs := hb.size
                      have hyl := sfL_len n cs k
                      generalize hys : sfL n cs k = ys at how HSL hyl
                      clear hys
                      have HYL := Lib.hid hyl; clear hyl
                      go_wp2_with (at_builtin; refine wpList_push _ rfl _ _ 24 rfl w.heap.size 32 i0 _ 2 16 Try.underlying24 hi hz0 hz1 hz2 rfl (by decide) v _ _ rfl how #[.int .i64 Q, .int .i64 P] rfl rfl (by simp [Value.oneCell']) (by have := HYL.out; omega) (by have := HYL.out; unfold maxLen; omega) hbs ?_; intro g1 d1 w3 hown2 hg2 hb3 hat3; have hblk2 := hblk.grown hg2 (fun e => own_blk_ne how hblk (by decide) e.symm); have z1 : w3.cell? ⟨pz, 1, none⟩ = some v := hblk2.cell 1; have zf := hblk2.frozen 1)
                      go_roundw
                      case rel =>
                        refine ⟨k + 1, by omega, by go_num, (hb.trans hb3).setCell (by simp; omega) _, ?_, ?_, ?_, ?_⟩
                        · exact Blk.far (hbn.grown hg2 (fun e => own_blk_ne how hbn (by decide) e.symm)) (by simp; omega) _
                        · exact Blk.far (hbz.grown hg2 (fun e => own_blk_ne how hbz (by decide) e.symm)) (by simp; omega) _
                        · rw [HSL.out]
                          exact ⟨.slice (some ⟨g1, 0, none⟩) (ys.length + 1) d1, hblk2.set_ 1 _, own_setCell (p := ⟨pz, 1, none⟩) (cmps_push hown2) (own_blk_ne hown2 hblk2 (by decide)) _, hBp⟩
                        · skip
                          exact own_setCell (p := ⟨pz, 1, none⟩) (World.ownsRow.kept hown hg2 (own_ne_type hown how (by decide))) (own_blk_ne hown hblk (by decide)) _
                      case measure => simp [intOf]; omega
                · rw [if_neg hpq] at hso hsn
                  rw [hso] at hsl
                  have HSL := Lib.hid hsl; clear hsl hso
                  have HSN := Lib.hid hsn; clear hsn
                  obtain ⟨q0, q1⟩ := hblk.two
                  have ql := hblk.lt
                  obtain ⟨y0, y1⟩ := hcb.two
                  have yl := hcb.lt
                  have hbs := hb.size
                  have hyl := sfL_len n cs k
                  generalize hys : sfL n cs k = ys at how HSL hyl
                  clear hys
                  have HYL := Lib.hid hyl; clear hyl
                  go_wp2_with (at_builtin; refine wpList_push _ rfl _ _ 24 rfl w.heap.size 32 i0 _ 2 16 Try.underlying24 hi hz0 hz1 hz2 rfl (by decide) v _ _ rfl how #[.int .i64 P, .int .i64 Q] rfl rfl (by simp [Value.oneCell']) (by have := HYL.out; omega) (by have := HYL.out; unfold maxLen; omega) hbs ?_; intro g1 d1 w3 hown2 hg2 hb3 hat3; have hblk2 := hblk.grown hg2 (fun e => own_blk_ne how hblk (by decide) e.symm); have z1 : w3.cell? ⟨pz, 1, none⟩ = some v := hblk2.cell 1; have zf := hblk2.frozen 1)
                  go_roundw
                  case rel =>
                    refine ⟨k + 1, by omega, by go_num, (hb.trans hb3).setCell (by simp; omega) _, ?_, ?_, ?_, ?_⟩
                    · exact Blk.far (hbn.grown hg2 (fun e => own_blk_ne how hbn (by decide) e.symm)) (by simp; omega) _
                    · exact Blk.far (hbz.grown hg2 (fun e => own_blk_ne how hbz (by decide) e.symm)) (by simp; omega) _
                    · rw [HSL.out]
                      exact ⟨.slice (some ⟨g1, 0, none⟩) (ys.length + 1) d1, hblk2.set_ 1 _, own_setCell (p := ⟨pz, 1, none⟩) (cmps_push hown2) (own_blk_ne hown2 hblk2 (by decide)) _, hBp⟩
                    · rw [HSN.out]
                      exact own_setCell (p := ⟨pz, 1, none⟩) (World.ownsRow.kept hown hg2 (own_ne_type hown how (by decide))) (own_blk_ne hown hblk (by decide)) _
                  case measure => simp [intOf]; omega
            · have hks : k = cs.length := by omega
              obtain ⟨v, hblk, how, hBp⟩ := hnet
              obtain ⟨G, g, rfl⟩ := own_slice how
              rw [hks] at how hblk
              have HKS := Lib.hid hks; clear hks hlt hk
              obtain ⟨c0, c1⟩ := hblk.two
              obtain ⟨d0, d1⟩ := hbz.two
              have f0 := hbz.frozen 0
              have f1 := hbz.frozen 1
              have hl2 := hblk.lt
              have hl3 := hbz.lt
              have o1 := own_setCell how (p := ⟨w.heap.size + 1, 0, none⟩) (own_blk_ne how hbz (by decide)) (.int .i64 n)
              have o2 := own_setCell o1 (p := ⟨w.heap.size + 1, 1, none⟩) (own_blk_ne how hbz (by decide)) (.slice G (sfL n cs cs.length).length g)
              have O2 := Lib.hid o2; clear o1 o2
              have hbe := Below.setCell (Below.setCell hb (p := ⟨w.heap.size + 1, 0, none⟩) (by simp) (.int .i64 n)) (p := ⟨w.heap.size + 1, 1, none⟩) (by simp) (.slice G (sfL n cs cs.length).length g)
              obtain ⟨r0, r1⟩ := ((hbz.set_ 0 (.int .i64 n)).set_ 1 (.slice G (sfL n cs cs.length).length g)).two
              have R0 := Lib.hid r0; clear r0
              have R1 := Lib.hid r1; clear r1
              clear how hblk hbz hbn hown
              have hge : ¬ (k < cs.length) := by have := HKS.out; omega
              go_wp2_with fail
              refine bodyPost_ret (v := .tuple #[.agg #[.int .i64 n, .slice G (sfL n cs cs.length).length g], .bool true]) (by simp [results, Try.results11, go_sem, R0.out, R1.out]) rfl ⟨G, g, rfl, O2.out, hbe⟩
end Go.Proofs.Yteigceeghnphmaa
