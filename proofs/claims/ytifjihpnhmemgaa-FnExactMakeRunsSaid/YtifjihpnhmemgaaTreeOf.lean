/- The tree of leaves: the program's side. -/
import Derived.Test.YtifjihpnhmemgaaPlay
namespace Go.Proofs.Ytifjihpnhmemgaa
open Go.RowKit
set_option linter.unusedVariables false
/-- the three rows of a tree, all of one's own -/
def TreeOwn (w : World) (base tI tB : Nat) (k : Nat) (AK : Option Addr) (cK : Nat) (AD : Option Addr) (cD : Nat) (AL : Option Addr) (cL : Nat) (ks : List Int) (ds : List Bool) (ls : List Int) : Prop :=
  w.ownsRow base tI 1 (.slice AK k cK) k (ints ks) ∧ w.ownsRow base tB 1 (.slice AD k cD) k (bools ds) ∧ w.ownsRow base tI 1 (.slice AL k cL) k (ints ls) ∧
    ((Value.slice AK k cK).ownBlock = none ∨ (Value.slice AK k cK).ownBlock ≠ (Value.slice AL k cL).ownBlock)
def loserI (ks : List Int) (ds : List Bool) : List Int := (loserV ks ds).map Int.ofNat
theorem loserI_len (ks : List Int) (ds : List Bool) : (loserI ks ds).length = ks.length := by simp [loserI, loser_len]
theorem nats_loser (ks : List Int) (ds : List Bool) : nats (loserV ks ds) = ints (loserI ks ds) := rfl
theorem Blk.four {w : World} {g : Nat} {T : TypeId} {a b c d : Value} (h : Blk w g T #[a, b, c, d]) : w.cell? ⟨g, 0, none⟩ = some a ∧ w.cell? ⟨g, 1, none⟩ = some b ∧ w.cell? ⟨g, 2, none⟩ = some c ∧ w.cell? ⟨g, 3, none⟩ = some d := ⟨h.cell 0, h.cell 1, h.cell 2, h.cell 3⟩
theorem Blk.ice {w : World} {g : Nat} {T : TypeId} {cs : Array Value} (h : Blk w g T cs) : w.frozen? ⟨g, 0, none⟩ = false ∧ w.frozen? ⟨g, 1, none⟩ = false ∧ w.frozen? ⟨g, 2, none⟩ = false ∧ w.frozen? ⟨g, 3, none⟩ = false := ⟨h.frozen 0, h.frozen 1, h.frozen 2, h.frozen 3⟩
set_option maxHeartbeats 400000 in
theorem copyI_any (A : Option Addr) (zs : List Int) (k c : Nat) (w : World) (hk : zs.length = k) (hx : Reads w w.heap.size 1 A zs.length (ints zs)) (hl : k ≤ 1048576) :
    Calls Try.prog 46 #[.slice A k c] w fun e w' => ∃ v, e = .returned v ∧ w'.ownsRow w.heap.size 3 1 v k (ints zs) ∧ Below w.heap.size w w' := by
  subst hk
  obtain ⟨i0, hi, hz0, hz1, hz2⟩ := info_parts (show (Try.prog.info? 3).map (fun i => (i.zero, i.size, i.bytes)) = some (some (.int .i64 0), 1, 8) by kernel_rfl)
  have ho := World.ownsRow_made (base := w.heap.size) (size := 1) (e := 3) w #[] 0 (Nat.le_refl _) (by simp) (by simp)
  have hb := alloc_ (Below.refl w.heap.size w) (.cells #[] 3)
  have hr := hx.alloc (Nat.le_refl _) (.cells #[] 3)
  go_enter Try.func46, Try.ntmps46
  go_wp2_with (at_builtin; refine wpList_append_any _ rfl _ _ 51 rfl w.heap.size 3 i0 _ 1 8 Try.underlying51 hi hz0 hz1 hz2 rfl (by decide) (.slice (some ⟨w.heap.size, 0, none⟩) 0 0) _ _ rfl ho w.heap.size A zs.length c (ints zs) rfl hr (by intro u hu; simp [ints] at hu; obtain ⟨z, _, rfl⟩ := hu; rfl) (by unfold maxLen; omega) (by omega) (by simp) ?_; intro v1 w1 hown1 hg1 hat1)
  go_ret
  simp only [Nat.zero_add, List.nil_append] at hown1
  exact ⟨v1, rfl, hown1, hb.grown hg1 (by simp) (by simp [Value.ownBlock])⟩
set_option maxHeartbeats 400000 in
theorem copyB_any (A : Option Addr) (zs : List Bool) (k c : Nat) (w : World) (hk : zs.length = k) (hx : Reads w w.heap.size 1 A zs.length (bools zs)) (hl : k ≤ 1048576) :
    Calls Try.prog 47 #[.slice A k c] w fun e w' => ∃ v, e = .returned v ∧ w'.ownsRow w.heap.size 4 1 v k (bools zs) ∧ Below w.heap.size w w' := by
  subst hk
  obtain ⟨i0, hi, hz0, hz1, hz2⟩ := info_parts (show (Try.prog.info? 4).map (fun i => (i.zero, i.size, i.bytes)) = some (some (.bool false), 1, 1) by kernel_rfl)
  have ho := World.ownsRow_made (base := w.heap.size) (size := 1) (e := 4) w #[] 0 (Nat.le_refl _) (by simp) (by simp)
  have hb := alloc_ (Below.refl w.heap.size w) (.cells #[] 4)
  have hr := hx.alloc (Nat.le_refl _) (.cells #[] 4)
  go_enter Try.func47, Try.ntmps47
  go_wp2_with (at_builtin; refine wpList_append_any _ rfl _ _ 52 rfl w.heap.size 4 i0 _ 1 1 Try.underlying52 hi hz0 hz1 hz2 rfl (by decide) (.slice (some ⟨w.heap.size, 0, none⟩) 0 0) _ _ rfl ho w.heap.size A zs.length c (bools zs) rfl hr (by intro u hu; simp [bools] at hu; rcases hu with ⟨_, rfl⟩ | ⟨_, rfl⟩ <;> rfl) (by unfold maxLen; omega) (by omega) (by simp) ?_; intro v1 w1 hown1 hg1 hat1)
  go_ret
  simp only [Nat.zero_add, List.nil_append] at hown1
  exact ⟨v1, rfl, hown1, hb.grown hg1 (by simp) (by simp [Value.ownBlock])⟩
set_option maxRecDepth 100000 in
set_option maxHeartbeats 3200000 in
theorem treeOf_any (A : Option Addr) (ks : List Int) (c : Nat) (A' : Option Addr) (ds : List Bool) (c' k : Nat) (w : World) (hk : ks.length = k) (hd : ds.length = k) (hx : Reads w w.heap.size 1 A ks.length (ints ks)) (hy : Reads w w.heap.size 1 A' ds.length (bools ds)) (h1 : 1 ≤ k) (hl : k ≤ 1048576) :
    Calls Try.prog 35 #[.slice A k c, .slice A' k c'] w fun e w' => ∃ AK cK AD cD gL, e = .returned (.agg #[.slice AK k cK, .slice AD k cD, .slice (some ⟨gL, 0, none⟩) k k, .int .i64 (winnerV ks ds : Nat)]) ∧
      TreeOwn w' w.heap.size 3 4 k AK cK AD cD (some ⟨gL, 0, none⟩) k ks ds (loserI ks ds) ∧ Below w.heap.size w w' := by
  have hbA := alloc_ (Below.refl w.heap.size w) (.cells #[.slice none 0 0, .slice none 0 0, .slice none 0 0, .int .i64 0] 54)
  have hblkA := Blk.new w 54 #[.slice none 0 0, .slice none 0 0, .slice none 0 0, .int .i64 0]
  have hxA := hx.alloc (Nat.le_refl _) (.cells #[.slice none 0 0, .slice none 0 0, .slice none 0 0, .int .i64 0] 54)
  have hyA := hy.alloc (Nat.le_refl _) (.cells #[.slice none 0 0, .slice none 0 0, .slice none 0 0, .int .i64 0] 54)
  generalize hwA : w.alloc (.cells #[.slice none 0 0, .slice none 0 0, .slice none 0 0, .int .i64 0] 54) = wA at *
  have HWA := Lib.hid hwA
  go_enter Try.func35, Try.ntmps35
  go_wp2_with fail
  refine (copyI_any A ks k c wA hk (hxA.more hbA.size) hl).mono ?_
  rintro e w1 ⟨v1, rfl, ho1, hb1⟩
  obtain ⟨AK, cK, rfl⟩ := own_slice ho1
  have hB1 := bthen hbA hb1
  go_wp2_with fail
  refine (copyB_any A' ds k c' w1 hd ((hyA.below (hb1.mono hbA.size)).more hB1.size) hl).mono ?_
  rintro e w2 ⟨v2, rfl, ho2, hb2⟩
  obtain ⟨AD, cD, rfl⟩ := own_slice ho2
  have hB2 := bthen hB1 hb2
  have ho12 := own_below ho1 hb2 (Nat.le_refl _)
  have hbp := Blk.new w2 54 #[.slice AK k cK, .slice AD k cD, .slice none 0 0, .int .i64 0]
  have hrK : Reads (w2.alloc (.cells #[.slice AK k cK, .slice AD k cD, .slice none 0 0, .int .i64 0] 54)) w2.heap.size 1 AK ks.length (ints ks) := by rw [hk]; exact (Reads.of_own ho12).alloc (Nat.le_refl _) _
  have hrD : Reads (w2.alloc (.cells #[.slice AK k cK, .slice AD k cD, .slice none 0 0, .int .i64 0] 54)) w2.heap.size 1 AD ds.length (bools ds) := by rw [hd]; exact (Reads.of_own ho2).alloc (Nat.le_refl _) _
  have hP := Lib.hid (play_any w2.heap.size AK AD ks ds k cK cD _ 0 _ hbp hk hd hrK hrD h1 hl)
  have hoK := World.ownsRow.alloc ho12 (.cells #[.slice AK k cK, .slice AD k cD, .slice none 0 0, .int .i64 0] 54)
  have hoD := World.ownsRow.alloc ho2 (.cells #[.slice AK k cK, .slice AD k cD, .slice none 0 0, .int .i64 0] 54)
  have hblk2 := ((hblkA.below_ hb1).below_ hb2).alloc (.cells #[.slice AK k cK, .slice AD k cD, .slice none 0 0, .int .i64 0] 54)
  have hbw3 := alloc_ hB2 (.cells #[.slice AK k cK, .slice AD k cD, .slice none 0 0, .int .i64 0] 54)
  have hsz : w.heap.size < w2.heap.size := by
    have := hblkA.lt; have h3 := (bthen hb1 hb2).size; omega
  go_wp2_with fail
  refine hP.out.mono ?_
  rintro e w3 ⟨rfl, gL, hbl3, hoL3, hg3⟩
  have hoK3 := own_kept hoK hg3 (own_blk_ne hoK hbp (by decide))
  have hoD3 := own_kept hoD hg3 (own_blk_ne hoD hbp (by decide))
  have hblk3 := hblk2.grown hg3 (by intro e; have h := Option.some.inj e; omega)
  have hbw4 := hbw3.trans (below_of_grown (B := w.heap.size) hg3 hbw3.size (by intro q hq; have h : w2.heap.size = q := Option.some.inj hq; omega))
  have hne := own_ne_new ho12 hoL3 (by simp)
  obtain ⟨p0, p1, p2, p3⟩ := hbl3.four
  obtain ⟨z0, z1, z2, z3⟩ := hblk3.four
  obtain ⟨f0, f1, f2, f3⟩ := hblk3.ice
  have hb5 := (((hblk3.set_ 0 (.slice AK k cK)).set_ 1 (.slice AD k cD)).set_ 2 (.slice (some ⟨gL, 0, none⟩) k k)).set_ 3 (.int .i64 (winnerV ks ds : Nat))
  obtain ⟨r0, r1, r2, r3⟩ := Blk.four (a := .slice AK k cK) (b := .slice AD k cD) (c := .slice (some ⟨gL, 0, none⟩) k k) (d := .int .i64 (winnerV ks ds : Nat)) (by simpa using hb5)
  have R0 := Lib.hid r0; have R1 := Lib.hid r1; have R2 := Lib.hid r2; have R3 := Lib.hid r3
  have four : ∀ {B : Nat} {t : TypeId} {n : Nat} {v : Value} {xs : List Value}, w3.ownsRow B t 1 v n xs → t ≠ 54 → ((((w3.setCell ⟨w.heap.size, 0, none⟩ (.slice AK k cK)).setCell ⟨w.heap.size, 1, none⟩ (.slice AD k cD)).setCell ⟨w.heap.size, 2, none⟩ (.slice (some ⟨gL, 0, none⟩) k k)).setCell ⟨w.heap.size, 3, none⟩ (.int .i64 (winnerV ks ds : Nat))).ownsRow B t 1 v n xs := by
    intro B t n v xs h ht
    have hn := own_blk_ne h hblk3 ht
    exact own_setCell (own_setCell (own_setCell (own_setCell h (p := ⟨w.heap.size, 0, none⟩) hn _) (p := ⟨w.heap.size, 1, none⟩) hn _) (p := ⟨w.heap.size, 2, none⟩) hn _) (p := ⟨w.heap.size, 3, none⟩) hn _
  have hbf := Below.setCell (Below.setCell (Below.setCell (Below.setCell hbw4 (p := ⟨w.heap.size, 0, none⟩) (Nat.le_refl _) (.slice AK k cK)) (p := ⟨w.heap.size, 1, none⟩) (Nat.le_refl _) (.slice AD k cD)) (p := ⟨w.heap.size, 2, none⟩) (Nat.le_refl _) (.slice (some ⟨gL, 0, none⟩) k k)) (p := ⟨w.heap.size, 3, none⟩) (Nat.le_refl _) (.int .i64 (winnerV ks ds : Nat))
  have hF1 := own_base (four hoK3 (by decide)) hbA.size
  have hF2 := own_base (four hoD3 (by decide)) hB1.size
  have hF3 := own_base (four hoL3 (by decide)) hbw3.size
  have HF1 := Lib.hid hF1; have HF2 := Lib.hid hF2; have HF3 := Lib.hid hF3; have HBF := Lib.hid hbf
  clear hF1 hF2 hF3 hbf four hb5 r0 r1 r2 r3
  go_wp2_with fail
  exact bodyPost_ret (v := .agg #[.slice AK k cK, .slice AD k cD, .slice (some ⟨gL, 0, none⟩) k k, .int .i64 (winnerV ks ds : Nat)]) (by simp [results, Try.results35, go_sem, R0.out, R1.out, R2.out, R3.out]) rfl ⟨AK, cK, AD, cD, gL, rfl, ⟨HF1.out, HF2.out, by rw [← nats_loser]; exact HF3.out, hne⟩, HBF.out⟩
end Go.Proofs.Ytifjihpnhmemgaa
