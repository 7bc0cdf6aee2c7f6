/- The tree of leaves: the reference's side. -/
import Derived.Test.YtmeaipickolhfaaTreeOf
import Derived.Test.YtmeaipickolhfaaInv
import Derived.Test.YtmeaipickolhfaaSort
import Derived.Deep.RegionLaw
import Derived.Deep.RegionHeld3
import Derived.Deep.DeepCutAuto
import Derived.Deep.OwnRows
namespace Go.Proofs.Ytmeaipickolhfaa
open Go.RowKit
set_option linter.unusedVariables false
theorem copyS_any (A : Option Addr) (zs : List Int) (k c : Nat) (w : World) (hk : zs.length = k) (hx : Reads w w.heap.size 1 A zs.length (ints zs)) (hl : k ≤ 1048576) :
    Calls Try.prog 70 #[.slice A k c] w fun e w' => ∃ v, e = .returned v ∧ w'.ownsRow w.heap.size 3 1 v k (ints zs) ∧ Below w.heap.size w w' := by
  subst hk
  exact l1OwnS_any A zs c w hx hl
theorem own_mk {w : World} {base g k : Nat} {e : TypeId} (hb : base ≤ w.heap.size) (hg : w.heap.size = g) (hm : k ≤ maxLen) :
    (w.alloc (.cells (madeCells #[.int .i64 0] k) e)).ownsRow base e 1 (.slice (some ⟨g, 0, none⟩) k k) k (nats (List.replicate k 0)) := by
  subst hg
  have h := own_full (base := base) (e := e) (size := 1) w (madeCells #[.int .i64 0] k) k hb hm (by simp [size_madeCells])
  have e2 : (madeCells #[Value.int .i64 0] k).toList = nats (List.replicate k 0) := by simp [nats, ints, toList_madeCells_one]
  rwa [e2] at h
theorem Blk.set4 {w : World} {g : Nat} {T : TypeId} {a b c d a' b' c' d' : Value} (h : Blk w g T #[a, b, c, d]) :
    Blk ((((w.setCell ⟨g, 0, none⟩ a').setCell ⟨g, 1, none⟩ b').setCell ⟨g, 2, none⟩ c').setCell ⟨g, 3, none⟩ d') g T #[a', b', c', d'] := by
  have := (((h.set_ 0 a').set_ 1 b').set_ 2 c').set_ 3 d'
  simpa using this
/-- the reference's state ahead of node p -/
def StS (ks : List Int) (ds : List Bool) (k p : Nat) (ws ls : List Nat) : Prop :=
  ws.length = 2 * k ∧ ls.length = k ∧ (k ≤ p + 1 → ws = List.replicate (p + 1) 0 ++ (List.range k).drop (p + 1 - k) ∧ ls = List.replicate k 0) ∧ (p < k → ws = (plK ks ds (k - 1 - p)).1 ∧ ls = (plK ks ds (k - 1 - p)).2)
theorem stS_start {ks : List Int} {ds : List Bool} {k : Nat} (h1 : 1 ≤ k) : StS ks ds k (2 * k - 1) (List.replicate (2 * k) 0) (List.replicate k 0) := by
  refine ⟨by simp, by simp, fun _ => ⟨?_, rfl⟩, fun h => by omega⟩
  rw [show 2 * k - 1 + 1 = 2 * k by omega, List.drop_eq_nil_of_le (by simp; omega), List.append_nil]
theorem stS_leaf {ks : List Int} {ds : List Bool} {k p : Nat} {ws ls : List Nat} (h : StS ks ds k p ws ls) (hk : ks.length = k) (hp : k ≤ p) (h1 : 1 ≤ p) : StS ks ds k (p - 1) (ws.set p (p - k)) ls := by
  obtain ⟨hl1, hl2, h3, _⟩ := h
  obtain ⟨hw, hls⟩ := h3 (by omega)
  have hpk : p < 2 * k := by
    rw [hw] at hl1
    simp at hl1
    omega
  have e : ws.set p (p - k) = List.replicate p 0 ++ (List.range k).drop (p - k) := by
    rw [hw, List.replicate_succ', List.append_assoc, List.set_append, if_neg (by simp)]
    simp only [List.length_replicate, Nat.sub_self, List.singleton_append, List.set_cons_zero]
    congr 1
    rw [List.drop_eq_getElem_cons (by simp; omega : p - k < (List.range k).length)]
    simp
    congr 1
    omega
  refine ⟨by simpa using hl1, hl2, fun _ => ⟨?_, hls⟩, fun hlt => ?_⟩
  · rw [e, show p - 1 + 1 = p by omega]
  · have hpe : p = k := by omega
    subst hpe
    rw [e, hls, show p - 1 - (p - 1) = 0 by omega]
    simp [plK, hk]
theorem stS_lt {ks : List Int} {ds : List Bool} {k p : Nat} {ws ls : List Nat} (h : StS ks ds k p ws ls) (hp : p < k) (hk : ks.length = k) (hp0 : 1 ≤ p) (h1 : 1 ≤ k) :
    (ws[2 * p]'(by rw [h.1]; omega)) < k ∧ (ws[2 * p + 1]'(by rw [h.1]; omega)) < k := by
  obtain ⟨hl1, _, _, h4⟩ := h
  obtain ⟨hw, _⟩ := h4 hp
  have g1 := plK_lt (ks := ks) (ds := ds) (by omega) (k - 1 - p) (2 * p)
  have g2 := plK_lt (ks := ks) (ds := ds) (by omega) (k - 1 - p) (2 * p + 1)
  rw [← hw, List.getElem?_eq_getElem (by omega), Option.getD_some, hk] at g1
  rw [← hw, List.getElem?_eq_getElem (by omega), Option.getD_some, hk] at g2
  exact ⟨g1, g2⟩
theorem stS_node {ks : List Int} {ds : List Bool} {k p : Nat} {ws ls : List Nat} (h : StS ks ds k p ws ls) (hp : p < k) (hk : ks.length = k) (hp0 : 1 ≤ p) :
    StS ks ds k (p - 1) (ws.set p (winO ks ds (ws[2 * p]'(by rw [h.1]; omega)) (ws[2 * p + 1]'(by rw [h.1]; omega)))) (ls.set p (losO ks ds (ws[2 * p]'(by rw [h.1]; omega)) (ws[2 * p + 1]'(by rw [h.1]; omega)))) := by
  obtain ⟨hl1, hl2, _, h4⟩ := h
  obtain ⟨hw, hls⟩ := h4 hp
  refine ⟨by simpa using hl1, by simpa using hl2, fun _ => by omega, fun _ => ?_⟩
  have hs := plK_succ (ks := ks) (ds := ds) (t := k - 1 - p) (j := p) (by omega) (by omega)
  rw [show k - 1 - (p - 1) = k - 1 - p + 1 by omega, hs]
  subst hw hls
  exact ⟨rfl, rfl⟩
theorem stS_end {ks : List Int} {ds : List Bool} {k : Nat} {ws ls : List Nat} (h : StS ks ds k 0 ws ls) (h1 : 1 ≤ k) (hk : ks.length = k) : ls = loserV ks ds ∧ ws[1]?.getD 0 = winnerV ks ds := by
  obtain ⟨_, _, _, h4⟩ := h
  obtain ⟨hw, hls⟩ := h4 (by omega)
  rw [Nat.sub_zero] at hw hls
  exact ⟨by rw [hls, loserV, hk], by rw [hw, winnerV, hk]⟩
theorem make_carry {w wr w6 : World} {n0 p B1 B2 k1 k2 : Nat} {T t : TypeId} {cs : Array Value} {v1 v2 : Value} {xs ys : List Value} (h6 : ∃ n, w6 = (wr.drewN n0).drewN n) (hblk : Blk wr p T cs)
    (h1 : wr.ownsRow B1 t 1 v1 k1 xs) (h2 : wr.ownsRow B2 t 1 v2 k2 ys) (hb : Below w.heap.size w wr) : Blk w6 p T cs ∧ w6.ownsRow B1 t 1 v1 k1 xs ∧ w6.ownsRow B2 t 1 v2 k2 ys ∧ Below w.heap.size w w6 := by
  obtain ⟨n, rfl⟩ := h6
  exact ⟨hblk, h1, h2, below_drewN (below_drewN hb _) _⟩
theorem drew2 {wr w6 : World} {n0 p : Nat} {T : TypeId} {cs : Array Value} (h6 : ∃ n, w6 = (wr.drewN n0).drewN n) (hblk : Blk wr p T cs) : Blk w6 p T cs := by
  obtain ⟨n, rfl⟩ := h6; exact hblk
theorem odrew2 {wr w6 : World} {n0 B k : Nat} {t : TypeId} {v : Value} {xs : List Value} (h6 : ∃ n, w6 = (wr.drewN n0).drewN n) (h : wr.ownsRow B t 1 v k xs) : w6.ownsRow B t 1 v k xs := by
  obtain ⟨n, rfl⟩ := h6; exact h
theorem own_ne_blk {w : World} {w2 : World} {B k g gg : Nat} {t T : TypeId} {A : Option Addr} {c : Nat} {xs : List Value} {cs : Array Value} (h : w.ownsRow B t 1 (.slice (some ⟨g, 0, none⟩) k c) k xs) (hb : Blk w2 gg T cs) (hne : gg ≠ g := by assumption) : some gg ≠ (Value.slice (some ⟨g, 0, none⟩) k c).ownBlock := fun e => hne (Option.some.inj e)
