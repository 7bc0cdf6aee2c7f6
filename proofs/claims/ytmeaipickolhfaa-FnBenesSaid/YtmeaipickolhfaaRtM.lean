/- The routing of a Benes network: its plain law. -/
import Derived.Test.YtmeaipickolhfaaBenM
namespace Go.Proofs.Ytmeaipickolhfaa
/-- the partner in the pair -/
def nx (y : Nat) : Nat := y / 2 * 2 + 1 - y % 2
theorem nx_div (y : Nat) : nx y / 2 = y / 2 := by unfold nx; omega
theorem nx_ne (y : Nat) : nx y ≠ y := by unfold nx; omega
theorem nx_nx (y : Nat) : nx (nx y) = y := by unfold nx; omega
theorem nx_odd (y : Nat) : (nx y % 2 == 1) = !(y % 2 == 1) := by
  have : nx y % 2 = 1 - y % 2 := by unfold nx; omega
  rw [this]
  rcases Nat.mod_two_eq_zero_or_one y with h | h <;> rw [h] <;> rfl
theorem nx_lt {y h : Nat} (hy : y < 2 * h) : nx y < 2 * h := by unfold nx; omega
theorem pair_cases {y z : Nat} (h : z / 2 = y / 2) : z = y ∨ z = nx y := by unfold nx; omega
def gb (l : List Bool) (k : Nat) : Bool := l[k]?.getD false
theorem gb_set (l : List Bool) (k j : Nat) (v : Bool) (hk : k < l.length) : gb (l.set k v) j = if k = j then v else gb l j := by
  unfold gb
  by_cases h : k = j
  · subst h; rw [List.getElem?_set_self hk, if_pos rfl]; rfl
  · rw [List.getElem?_set_ne h, if_neg h]
theorem nodup_inj {α β : Type} {f : α → β} : ∀ {l : List α}, (l.map f).Nodup → ∀ x, x ∈ l → ∀ y, y ∈ l → f x = f y → x = y
  | [], _, x, hx, _, _, _ => by cases hx
  | a :: l, h, x, hx, y, hy, e => by
    rw [List.map_cons, List.nodup_cons] at h
    rcases List.mem_cons.1 hx with h1 | h1
    · rcases List.mem_cons.1 hy with h2 | h2
      · rw [h1, h2]
      · have h3 := List.mem_map_of_mem (f := f) h2
        rw [← e, h1] at h3
        exact absurd h3 h.1
    · rcases List.mem_cons.1 hy with h2 | h2
      · have h3 := List.mem_map_of_mem (f := f) h1
        rw [e, h2] at h3
        exact absurd h3 h.1
      · exact nodup_inj h.2 x h1 y h2 e
theorem pigeon : ∀ (h : Nat) (l : List Nat), l.Nodup → (∀ x ∈ l, x < h) → l.length ≤ h
  | 0, l, _, hl => by
    cases l with
    | nil => exact Nat.le_refl _
    | cons a l => exact absurd (hl a List.mem_cons_self) (Nat.not_lt_zero _)
  | h + 1, l, hn, hl => by
    have h2 := pigeon h (l.erase h) (hn.erase h) (fun x hx => by
      have := (hn.mem_erase_iff).1 hx
      have := hl x this.2
      omega)
    have h3 : l.length ≤ (l.erase h).length + 1 := by
      by_cases hm : h ∈ l
      · rw [List.length_erase_of_mem hm]; omega
      · rw [List.erase_of_not_mem hm]; omega
    omega
theorem pigeon_all {h : Nat} {l : List Nat} (hn : l.Nodup) (hl : ∀ x ∈ l, x < h) (hlen : l.length = h) {k : Nat} (hk : k < h) : k ∈ l := by
  apply Decidable.byContradiction
  intro hm
  have := pigeon h (k :: l) (List.nodup_cons.2 ⟨hm, hn⟩) (fun x hx => by
    rcases List.mem_cons.1 hx with rfl | hx
    · exact hk
    · exact hl x hx)
  simp at this
  omega
/-- p and q are inverse permutations of the numbers below n -/
structure Perm2 (p q : Nat → Nat) (n : Nat) : Prop where
  pl : ∀ i, i < n → p i < n
  ql : ∀ i, i < n → q i < n
  pq : ∀ i, i < n → p (q i) = i
  qp : ∀ i, i < n → q (p i) = i
def sg (p q : Nat → Nat) (x : Nat) : Nat := nx (p (nx (q x)))
section
variable {p q : Nat → Nat} {h : Nat}
theorem sg_lt (hp : Perm2 p q (2 * h)) {x : Nat} (hx : x < 2 * h) : sg p q x < 2 * h := nx_lt (hp.pl _ (nx_lt (hp.ql _ hx)))
theorem sg_inj (hp : Perm2 p q (2 * h)) {x y : Nat} (hx : x < 2 * h) (hy : y < 2 * h) (e : sg p q x = sg p q y) : x = y := by
  have e1 : p (nx (q x)) = p (nx (q y)) := by rw [← nx_nx (p (nx (q x))), ← nx_nx (p (nx (q y)))]; exact congrArg nx e
  have e2 : nx (q x) = nx (q y) := by rw [← hp.qp _ (nx_lt (hp.ql _ hx)), ← hp.qp _ (nx_lt (hp.ql _ hy)), e1]
  have e3 : q x = q y := by rw [← nx_nx (q x), ← nx_nx (q y), e2]
  rw [← hp.pq _ hx, ← hp.pq _ hy, e3]
/-- between two cycles -/
structure RB (p q : Nat → Nat) (h : Nat) (ins outs kn : List Bool) (X : List Nat) : Prop where
  li : ins.length = h
  lo : outs.length = h
  lk : kn.length = h
  lt : ∀ x ∈ X, x < 2 * h
  nd : (X.map (· / 2)).Nodup
  kn_ : ∀ k, gb kn k = true ↔ k ∈ X.map (· / 2)
  up : ∀ x ∈ X, gb ins (x / 2) = (x % 2 == 1)
  ou : ∀ x ∈ X, gb outs (q x / 2) = (q x % 2 == 1)
  cl : ∀ x ∈ X, sg p q x ∈ X
  pre : ∀ x ∈ X, ∃ y ∈ X, sg p q y = x
  z : ∀ k, gb kn k = false → gb ins k = false
  od : (X.map (q · / 2)).Nodup
/-- inside the cycle that began at s, ahead of x -/
structure RC (p q : Nat → Nat) (h : Nat) (s : Nat) (ins outs kn : List Bool) (X : List Nat) (x : Nat) : Prop where
  li : ins.length = h
  lo : outs.length = h
  lk : kn.length = h
  lt : ∀ y ∈ x :: X, y < 2 * h
  nd : ((x :: X).map (· / 2)).Nodup
  kn_ : ∀ k, gb kn k = true ↔ k ∈ (x :: X).map (· / 2)
  up : ∀ y ∈ x :: X, gb ins (y / 2) = (y % 2 == 1)
  ou : ∀ y ∈ X, gb outs (q y / 2) = (q y % 2 == 1)
  cl : ∀ y ∈ X, sg p q y ∈ x :: X
  pre : ∀ y ∈ x :: X, y ≠ s → ∃ u ∈ X, sg p q u = y
  s_ : s ∈ x :: X
  z : ∀ k, gb kn k = false → gb ins k = false
  od : (X.map (q · / 2)).Nodup
theorem RC.len {s : Nat} {ins outs kn : List Bool} {X : List Nat} {x : Nat} (hr : RC p q h s ins outs kn X x) : X.length + 1 ≤ h := by
  have := pigeon h _ hr.nd (fun k hk => by
    obtain ⟨y, hy, rfl⟩ := List.mem_map.1 hk
    have := hr.lt y hy
    show y / 2 < h
    omega)
  simpa using this
theorem RC.fresh (hp : Perm2 p q (2 * h)) {s : Nat} {ins outs kn : List Bool} {X : List Nat} {x : Nat} (hr : RC p q h s ins outs kn X x) : q x / 2 ∉ X.map (q · / 2) := by
  intro hm
  obtain ⟨y, hy, e⟩ := List.mem_map.1 hm
  have hx2 := hr.lt x List.mem_cons_self
  have hy2 := hr.lt y (List.mem_cons_of_mem _ hy)
  have hnd := List.nodup_cons.1 (List.map_cons ▸ hr.nd)
  have hxX : ∀ u ∈ X, u / 2 ≠ x / 2 := fun u hu e => hnd.1 (e ▸ List.mem_map_of_mem hu)
  rcases pair_cases e.symm with e1 | e1
  · have e2 : x = y := by rw [← hp.pq _ hx2, ← hp.pq _ hy2, e1]
    exact hxX y hy (by rw [e2])
  · have e2 : sg p q y = nx x := by
      unfold sg
      rw [← e1, hp.pq _ hx2]
    rcases List.mem_cons.1 (hr.cl y hy) with h3 | h3
    · rw [e2] at h3; exact nx_ne x h3
    · rw [e2] at h3; exact hxX _ h3 (nx_div x)
/-- one step -/
theorem RC.step (hp : Perm2 p q (2 * h)) {s : Nat} {ins outs kn : List Bool} {X : List Nat} {x : Nat} (hr : RC p q h s ins outs kn X x) :
    (sg p q x = s → RB p q h (ins.set (sg p q x / 2) (sg p q x % 2 == 1)) (outs.set (q x / 2) (q x % 2 == 1)) (kn.set (sg p q x / 2) true) (x :: X)) ∧
    (sg p q x ≠ s → RC p q h s (ins.set (sg p q x / 2) (sg p q x % 2 == 1)) (outs.set (q x / 2) (q x % 2 == 1)) (kn.set (sg p q x / 2) true) (x :: X) (sg p q x)) := by
  have hfr := hr.fresh hp
  have hx2 := hr.lt x List.mem_cons_self
  have hw2 := sg_lt hp hx2
  have hq2 := hp.ql _ hx2
  have hnd := List.nodup_cons.1 (List.map_cons ▸ hr.nd)
  have hxX : ∀ u ∈ X, u / 2 ≠ x / 2 := fun u hu e => hnd.1 (e ▸ List.mem_map_of_mem hu)
  have hxn : x ∉ X := fun hx => hxX x hx rfl
  have li := hr.li
  have lo := hr.lo
  have lk := hr.lk
  have hou : ∀ y ∈ x :: X, gb (outs.set (q x / 2) (q x % 2 == 1)) (q y / 2) = (q y % 2 == 1) := by
    intro y hy
    rw [gb_set _ _ _ _ (by omega)]
    rcases List.mem_cons.1 hy with rfl | hy
    · rw [if_pos rfl]
    · rw [if_neg (show ¬ q x / 2 = q y / 2 from fun e => hfr (by rw [e]; exact List.mem_map_of_mem (f := (q · / 2)) hy))]
      exact hr.ou y hy
  have hod : ((x :: X).map (q · / 2)).Nodup := by
    rw [List.map_cons]
    exact List.nodup_cons.2 ⟨hfr, hr.od⟩
  have hz : ∀ k, gb (kn.set (sg p q x / 2) true) k = false → gb (ins.set (sg p q x / 2) (sg p q x % 2 == 1)) k = false := by
    intro k hk
    rw [gb_set _ _ _ _ (by omega)] at hk ⊢
    by_cases e : sg p q x / 2 = k
    · rw [if_pos e] at hk; cases hk
    · rw [if_neg e] at hk ⊢
      exact hr.z k hk
  generalize hw : sg p q x = w at *
  constructor
  · rintro rfl
    have hkn : ∀ k, gb (kn.set (w / 2) true) k = gb kn k := by
      intro k
      rw [gb_set _ _ _ _ (by omega)]
      split
      · rename_i e
        subst e
        exact ((hr.kn_ _).2 (List.mem_map_of_mem hr.s_)).symm
      · rfl
    have hup : ∀ k, gb (ins.set (w / 2) (w % 2 == 1)) k = gb ins k := by
      intro k
      rw [gb_set _ _ _ _ (by omega)]
      split
      · rename_i e
        subst e
        exact (hr.up _ hr.s_).symm
      · rfl
    refine ⟨by simpa using li, by simpa using lo, by simpa using lk, hr.lt, hr.nd, fun k => by rw [hkn]; exact hr.kn_ k, fun y hy => by rw [hup]; exact hr.up y hy, hou, ?_, ?_, hz, hod⟩
    · intro y hy
      rcases List.mem_cons.1 hy with rfl | hy
      · rw [hw]; exact hr.s_
      · exact hr.cl y hy
    · intro y hy
      by_cases hys : y = w
      · exact ⟨x, List.mem_cons_self, by rw [hw, hys]⟩
      · obtain ⟨u, hu, e⟩ := hr.pre y hy hys
        exact ⟨u, List.mem_cons_of_mem _ hu, e⟩
  · intro hws
    have hwn : w / 2 ∉ (x :: X).map (· / 2) := by
      intro hm
      obtain ⟨y, hy, e⟩ := List.mem_map.1 hm
      have hy2 := hr.lt y hy
      rcases pair_cases e with e1 | e1
      · subst e1
        obtain ⟨u, hu, e2⟩ := hr.pre y hy hws
        have := sg_inj hp (hr.lt u (List.mem_cons_of_mem _ hu)) hx2 (e2.trans hw.symm)
        exact hxn (this ▸ hu)
      · have e2 : y = p (nx (q x)) := by rw [e1, ← hw]; unfold sg; rw [nx_nx]
        have e3 : q y = nx (q x) := by rw [e2]; exact hp.qp _ (nx_lt hq2)
        rcases List.mem_cons.1 hy with h3 | h3
        · rw [h3] at e3
          exact nx_ne _ e3.symm
        · exact hfr (by
            have := List.mem_map_of_mem (f := (q · / 2)) h3
            rwa [e3, nx_div] at this)
    have hkn : ∀ k, gb (kn.set (w / 2) true) k = true ↔ k ∈ (w :: x :: X).map (· / 2) := by
      intro k
      rw [gb_set _ _ _ _ (by omega), List.map_cons, List.mem_cons]
      by_cases e : w / 2 = k
      · simp [e]
      · rw [if_neg e, hr.kn_]
        constructor
        · exact .inr
        · rintro (h9 | h9)
          · exact absurd h9.symm e
          · exact h9
    refine ⟨by simpa using li, by simpa using lo, by simpa using lk, ?_, ?_, hkn, ?_, hou, ?_, ?_, List.mem_cons_of_mem _ hr.s_, hz, hod⟩
    · intro y hy
      rcases List.mem_cons.1 hy with rfl | hy
      · exact hw2
      · exact hr.lt y hy
    · rw [List.map_cons]
      exact List.nodup_cons.2 ⟨hwn, hr.nd⟩
    · intro y hy
      rw [gb_set _ _ _ _ (by omega)]
      rcases List.mem_cons.1 hy with rfl | hy
      · rw [if_pos rfl]
      · rw [if_neg (show ¬ w / 2 = y / 2 from fun e => hwn (by rw [e]; exact List.mem_map_of_mem (f := (· / 2)) hy))]
        exact hr.up y hy
    · intro y hy
      rcases List.mem_cons.1 hy with rfl | hy
      · rw [hw]; exact List.mem_cons_self
      · exact List.mem_cons_of_mem _ (hr.cl y hy)
    · intro y hy hys
      rcases List.mem_cons.1 hy with rfl | hy
      · exact ⟨x, List.mem_cons_self, hw⟩
      · obtain ⟨u, hu, e⟩ := hr.pre y hy hys
        exact ⟨u, List.mem_cons_of_mem _ hu, e⟩
/-- a cycle begins -/
theorem RB.start {ins outs kn : List Bool} {X : List Nat} (hr : RB p q h ins outs kn X) {i : Nat} (hi : i < h) (hk : gb kn i = false) : RC p q h (2 * i) ins outs (kn.set i true) X (2 * i) := by
  have hd : 2 * i / 2 = i := by omega
  have hni : i ∉ X.map (· / 2) := fun hm => by rw [(hr.kn_ i).2 hm] at hk; cases hk
  refine ⟨hr.li, hr.lo, by simpa using hr.lk, ?_, ?_, ?_, ?_, hr.ou, fun y hy => List.mem_cons_of_mem _ (hr.cl y hy), ?_, List.mem_cons_self, ?_, hr.od⟩
  · intro y hy
    rcases List.mem_cons.1 hy with rfl | hy
    · omega
    · exact hr.lt y hy
  · rw [List.map_cons, hd]
    exact List.nodup_cons.2 ⟨hni, hr.nd⟩
  · intro k
    rw [gb_set _ _ _ _ (by rw [hr.lk]; exact hi), List.map_cons, List.mem_cons, hd]
    by_cases e : i = k
    · simp [e]
    · rw [if_neg e, hr.kn_]
      constructor
      · exact .inr
      · rintro (h9 | h9)
        · exact absurd h9.symm e
        · exact h9
  · intro y hy
    rcases List.mem_cons.1 hy with rfl | hy
    · rw [hd, hr.z i hk]
      have : 2 * i % 2 = 0 := by omega
      rw [this]; rfl
    · exact hr.up y hy
  · intro y hy hys
    rcases List.mem_cons.1 hy with rfl | hy
    · exact absurd rfl hys
    · exact hr.pre y hy
  · intro k hk2
    rw [gb_set _ _ _ _ (by rw [hr.lk]; exact hi)] at hk2
    by_cases e : i = k
    · rw [if_pos e] at hk2; cases hk2
    · rw [if_neg e] at hk2
      exact hr.z k hk2
end
/-- the cycle as the programs walk it -/
def cyc (p q : Nat → Nat) (s : Nat) : Nat → List Bool → List Bool → List Bool → Nat → List Bool × List Bool × List Bool
  | 0, ins, outs, kn, _ => (ins, outs, kn)
  | F + 1, ins, outs, kn, x =>
    if sg p q x = s then (ins.set (sg p q x / 2) (sg p q x % 2 == 1), outs.set (q x / 2) (q x % 2 == 1), kn.set (sg p q x / 2) true)
    else cyc p q s F (ins.set (sg p q x / 2) (sg p q x % 2 == 1)) (outs.set (q x / 2) (q x % 2 == 1)) (kn.set (sg p q x / 2) true) (sg p q x)
def rtI (p q : Nat → Nat) (h : Nat) : Nat → List Bool × List Bool × List Bool
  | 0 => (List.replicate h false, List.replicate h false, List.replicate h false)
  | i + 1 => if gb (rtI p q h i).2.2 i then rtI p q h i else cyc p q (2 * i) h (rtI p q h i).1 (rtI p q h i).2.1 ((rtI p q h i).2.2.set i true) (2 * i)
theorem cyc_rb {p q : Nat → Nat} {h : Nat} (hp : Perm2 p q (2 * h)) {s : Nat} : ∀ (F : Nat) {ins outs kn : List Bool} {X : List Nat} {x : Nat}, RC p q h s ins outs kn X x → h ≤ X.length + F →
    ∃ X', RB p q h (cyc p q s F ins outs kn x).1 (cyc p q s F ins outs kn x).2.1 (cyc p q s F ins outs kn x).2.2 X' ∧ (x :: X) ⊆ X'
  | 0, ins, outs, kn, X, x, hr, hF => by have := hr.len; omega
  | F + 1, ins, outs, kn, X, x, hr, hF => by
    obtain ⟨h1, h2⟩ := hr.step hp
    unfold cyc
    by_cases e : sg p q x = s
    · rw [if_pos e]
      exact ⟨_, h1 e, fun y hy => hy⟩
    · rw [if_neg e]
      obtain ⟨X', h3, h4⟩ := cyc_rb hp F (h2 e) (by simp; omega)
      exact ⟨X', h3, fun y hy => h4 (List.mem_cons_of_mem _ hy)⟩
theorem gb_rep (h k : Nat) : gb (List.replicate h false) k = false := by
  unfold gb
  rw [List.getElem?_replicate]
  split <;> rfl
theorem rtI_rb {p q : Nat → Nat} {h : Nat} (hp : Perm2 p q (2 * h)) : ∀ i, i ≤ h → ∃ X, RB p q h (rtI p q h i).1 (rtI p q h i).2.1 (rtI p q h i).2.2 X ∧ ∀ j, j < i → gb (rtI p q h i).2.2 j = true
  | 0, _ => ⟨[], ⟨by simp [rtI], by simp [rtI], by simp [rtI], by simp, by simp, fun k => by simp [rtI, gb_rep], by simp, by simp, by simp, by simp, fun k _ => by simp [rtI, gb_rep], by simp⟩, fun j hj => by omega⟩
  | i + 1, hi => by
    obtain ⟨X, hr, hk⟩ := rtI_rb hp i (by omega)
    unfold rtI
    by_cases e : gb (rtI p q h i).2.2 i = true
    · rw [if_pos e]
      refine ⟨X, hr, fun j hj => ?_⟩
      by_cases hji : j = i
      · rw [hji]; exact e
      · exact hk j (by omega)
    · rw [if_neg e]
      have e2 : gb (rtI p q h i).2.2 i = false := by simpa using e
      obtain ⟨X', h3, h4⟩ := cyc_rb hp h (hr.start (by omega) e2) (by omega)
      refine ⟨X', h3, fun j hj => ?_⟩
      rw [h3.kn_]
      by_cases hji : j = i
      · have := List.mem_map_of_mem (f := (· / 2)) (h4 List.mem_cons_self)
        have hd : 2 * i / 2 = i := by omega
        rw [hji]
        simpa [hd] using this
      · obtain ⟨y, hy, rfl⟩ := List.mem_map.1 ((hr.kn_ j).1 (hk j (by omega)))
        exact List.mem_map_of_mem (f := (· / 2)) (h4 (List.mem_cons_of_mem _ hy))
/-- which input leaves at the upper and at the lower side of output pair k -/
def upx (p : Nat → Nat) (outs : List Bool) (k : Nat) : Nat := if gb outs k then p (2 * k + 1) else p (2 * k)
def lox (p : Nat → Nat) (outs : List Bool) (k : Nat) : Nat := if gb outs k then p (2 * k) else p (2 * k + 1)
theorem rb_all {p q : Nat → Nat} {h : Nat} (hp : Perm2 p q (2 * h)) {ins outs kn : List Bool} {X : List Nat} (hr : RB p q h ins outs kn X) (hk : ∀ j, j < h → gb kn j = true) (k : Nat) (hkh : k < h) :
    ∃ x ∈ X, q x / 2 = k ∧ upx p outs k = x ∧ lox p outs k = nx (sg p q x) := by
  have hlen : X.length = h := by
    have h1 := pigeon h _ hr.nd (fun j hj => by
      obtain ⟨y, hy, rfl⟩ := List.mem_map.1 hj
      have := hr.lt y hy
      show y / 2 < h
      omega)
    have h2 := pigeon (X.map (· / 2)).length (List.range h) List.nodup_range
    have h3 : h ≤ (X.map (· / 2)).length := by
      have hsub : ∀ j, j < h → j ∈ X.map (· / 2) := fun j hj => (hr.kn_ j).1 (hk j hj)
      clear h2 h1
      have key : ∀ (n : Nat) (l : List Nat), (∀ j, j < n → j ∈ l) → n ≤ l.length := by
        intro n
        induction n with
        | zero => intro l _; exact Nat.zero_le _
        | succ n ih =>
          intro l hl
          have hm := hl n (by omega)
          have := ih (l.erase n) (fun j hj => (List.mem_erase_of_ne (by omega)).2 (hl j (by omega)))
          rw [List.length_erase_of_mem hm] at this
          have := List.length_pos_of_mem hm
          omega
      exact key h _ hsub
    simp only [List.length_map] at h1 h3
    omega
  have hm := pigeon_all hr.od (fun j hj => by
    obtain ⟨y, hy, rfl⟩ := List.mem_map.1 hj
    have := hp.ql _ (hr.lt y hy)
    show q y / 2 < h
    omega) (by simpa using hlen) hkh
  obtain ⟨x, hx, e⟩ := List.mem_map.1 hm
  have e : q x / 2 = k := e
  have ho := hr.ou x hx
  rw [e] at ho
  have hx2 := hr.lt x hx
  have hnx : nx (sg p q x) = p (nx (q x)) := by unfold sg; rw [nx_nx]
  refine ⟨x, hx, e, ?_, ?_⟩
  · unfold upx
    rw [ho]
    rcases Nat.mod_two_eq_zero_or_one (q x) with h9 | h9
    · rw [h9, if_neg (by decide), show 2 * k = q x by omega]
      exact hp.pq _ hx2
    · rw [h9, if_pos (by decide), show 2 * k + 1 = q x by omega]
      exact hp.pq _ hx2
  · rw [hnx]
    unfold lox
    rw [ho]
    rcases Nat.mod_two_eq_zero_or_one (q x) with h9 | h9
    · rw [h9, if_neg (by decide), show 2 * k + 1 = nx (q x) by unfold nx; omega]
    · rw [h9, if_pos (by decide), show 2 * k = nx (q x) by unfold nx; omega]
/-- what the routing of one stage has reached -/
structure Routed (p : Nat → Nat) (h : Nat) (ins outs : List Bool) : Prop where
  li : ins.length = h
  lo : outs.length = h
  ui : ∀ k, k < h → gb ins (upx p outs k / 2) = (upx p outs k % 2 == 1)
  vi : ∀ k, k < h → gb ins (lox p outs k / 2) = !(lox p outs k % 2 == 1)
  ul : ∀ k, k < h → upx p outs k < 2 * h
  vl : ∀ k, k < h → lox p outs k < 2 * h
  uj : ∀ k j, k < h → j < h → upx p outs k / 2 = upx p outs j / 2 → k = j
  vj : ∀ k j, k < h → j < h → lox p outs k / 2 = lox p outs j / 2 → k = j
theorem routed_of {p q : Nat → Nat} {h : Nat} (hp : Perm2 p q (2 * h)) : Routed p h (rtI p q h h).1 (rtI p q h h).2.1 := by
  obtain ⟨X, hr, hk⟩ := rtI_rb hp h (Nat.le_refl _)
  have H := rb_all hp hr hk
  generalize (rtI p q h h).1 = ins at *
  generalize (rtI p q h h).2.1 = outs at *
  have huj : ∀ k j, k < h → j < h → upx p outs k = upx p outs j → k = j := by
    intro k j h1 h2 e
    obtain ⟨x, hx, a1, a2, -⟩ := H k h1
    obtain ⟨y, hy, b1, b2, -⟩ := H j h2
    rw [← a1, ← b1, ← a2, ← b2, e]
  refine ⟨hr.li, hr.lo, ?_, ?_, ?_, ?_, ?_, ?_⟩
  · intro k h1
    obtain ⟨x, hx, a1, a2, -⟩ := H k h1
    rw [a2]; exact hr.up x hx
  · intro k h1
    obtain ⟨x, hx, a1, -, a3⟩ := H k h1
    rw [a3, nx_div, nx_odd, Bool.not_not]
    exact hr.up _ (hr.cl x hx)
  · intro k h1
    obtain ⟨x, hx, a1, a2, -⟩ := H k h1
    rw [a2]; exact hr.lt x hx
  · intro k h1
    obtain ⟨x, hx, a1, -, a3⟩ := H k h1
    rw [a3]; exact nx_lt (hr.lt _ (hr.cl x hx))
  · intro k j h1 h2 e
    obtain ⟨x, hx, a1, a2, -⟩ := H k h1
    obtain ⟨y, hy, b1, b2, -⟩ := H j h2
    rw [a2, b2] at e
    have := nodup_inj hr.nd x hx y hy e
    rw [← a1, ← b1, this]
  · intro k j h1 h2 e
    obtain ⟨x, hx, a1, -, a3⟩ := H k h1
    obtain ⟨y, hy, b1, -, b3⟩ := H j h2
    rw [a3, b3, nx_div, nx_div] at e
    have := nodup_inj hr.nd _ (hr.cl x hx) _ (hr.cl y hy) e
    have := sg_inj hp (hr.lt x hx) (hr.lt y hy) this
    rw [← a1, ← b1, this]
/-! ### the whole routing -/
def atN (P : List Nat) (i : Nat) : Nat := P[i]?.getD 0
def invL (P : List Nat) : List Nat := (List.range P.length).map fun x => P.idxOf x
def upP (P : List Nat) (outs : List Bool) (h : Nat) : List Nat := (List.range h).map fun k => upx (atN P) outs k / 2
def loP (P : List Nat) (outs : List Bool) (h : Nat) : List Nat := (List.range h).map fun k => lox (atN P) outs k / 2
def rtA (P : List Nat) (h : Nat) : List Bool × List Bool × List Bool := rtI (atN P) (atN (invL P)) h h
def rtF : Nat → List Nat → List Bool
  | 0, P => [atN P 0 == 1]
  | f + 1, P => (rtA P (2 ^ (f + 1))).1 ++ rtF f (upP P (rtA P (2 ^ (f + 1))).2.1 (2 ^ (f + 1))) ++ rtF f (loP P (rtA P (2 ^ (f + 1))).2.1 (2 ^ (f + 1))) ++ (rtA P (2 ^ (f + 1))).2.1
/-- P lists a permutation of the numbers below n -/
structure PermN (P : List Nat) (n : Nat) : Prop where
  len : P.length = n
  nd : P.Nodup
  lt : ∀ x ∈ P, x < n
theorem atN_mem {P : List Nat} {i : Nat} (h : i < P.length) : atN P i = P[i] := by unfold atN; rw [List.getElem?_eq_getElem h]; rfl
theorem PermN.two {P : List Nat} {n : Nat} (hP : PermN P n) : Perm2 (atN P) (atN (invL P)) n := by
  have hl := hP.len
  have hall : ∀ i, i < n → i ∈ P := fun i hi => pigeon_all hP.nd hP.lt hP.len hi
  have hinv : ∀ i, i < n → atN (invL P) i = P.idxOf i := by
    intro i hi
    unfold atN invL
    rw [List.getElem?_map, List.getElem?_range (by omega)]
    rfl
  have hix : ∀ i, i < n → P.idxOf i < n := fun i hi => by rw [← hl]; exact List.idxOf_lt_length_of_mem (hall i hi)
  refine ⟨?_, ?_, ?_, ?_⟩
  · intro i hi
    rw [atN_mem (by omega)]
    exact hP.lt _ (List.getElem_mem _)
  · intro i hi
    rw [hinv i hi]
    exact hix i hi
  · intro i hi
    have := hix i hi
    rw [hinv i hi, atN_mem (by omega)]
    exact List.getElem_idxOf (by omega)
  · intro i hi
    rw [atN_mem (P := P) (by omega), hinv _ (hP.lt _ (List.getElem_mem _))]
    exact hP.nd.idxOf_getElem i (by omega)
theorem nodup_map_range {h : Nat} {g : Nat → Nat} (hj : ∀ k j, k < h → j < h → g k = g j → k = j) : ((List.range h).map g).Nodup := by
  rw [List.nodup_iff_pairwise_ne, List.pairwise_map]
  refine List.Pairwise.imp_of_mem (fun ha hb hab e => hab (hj _ _ (List.mem_range.1 ha) (List.mem_range.1 hb) e)) (List.nodup_iff_pairwise_ne.1 List.nodup_range)
theorem routed_perm {P : List Nat} {h : Nat} {ins outs : List Bool} (hr : Routed (atN P) h ins outs) : PermN (upP P outs h) h ∧ PermN (loP P outs h) h := by
  refine ⟨⟨by simp [upP], nodup_map_range hr.uj, ?_⟩, ⟨by simp [loP], nodup_map_range hr.vj, ?_⟩⟩
  · intro x hx
    obtain ⟨k, hk, rfl⟩ := List.mem_map.1 hx
    have := hr.ul k (List.mem_range.1 hk)
    show _ / 2 < h
    omega
  · intro x hx
    obtain ⟨k, hk, rfl⟩ := List.mem_map.1 hx
    have := hr.vl k (List.mem_range.1 hk)
    show _ / 2 < h
    omega
theorem rt_stage {P : List Nat} {f : Nat} (hP : PermN P (2 ^ (f + 2))) : Routed (atN P) (2 ^ (f + 1)) (rtA P (2 ^ (f + 1))).1 (rtA P (2 ^ (f + 1))).2.1 := by
  have := hP.two
  rw [show 2 ^ (f + 2) = 2 * 2 ^ (f + 1) by rw [Nat.pow_succ 2 (f + 1)]; omega] at this
  exact routed_of this
theorem rtF_len : ∀ (f : Nat) (P : List Nat), PermN P (2 ^ (f + 1)) → (rtF f P).length = bsz f
  | 0, P, _ => rfl
  | f + 1, P, hP => by
    have hr := rt_stage hP
    obtain ⟨h1, h2⟩ := routed_perm hr
    unfold rtF bsz
    simp only [List.length_append, rtF_len f _ h1, rtF_len f _ h2, hr.li, hr.lo]
    rw [Nat.pow_succ 2 (f + 1)]
    omega
def atI (l : List Int) (i : Nat) : Int := l[i]?.getD 0
theorem ext_atI {l m : List Int} (hl : l.length = m.length) (h : ∀ i, i < m.length → atI l i = atI m i) : l = m := by
  apply List.ext_getElem hl
  intro i h1 h2
  have := h i h2
  unfold atI at this
  rwa [List.getElem?_eq_getElem h1, List.getElem?_eq_getElem h2] at this
theorem outL_get (U W : List Int) (t : List Bool) : ∀ (k i : Nat), i < k → atI (outL U W t k) (2 * i) = (if gb t i then atI W i else atI U i) ∧ atI (outL U W t k) (2 * i + 1) = (if gb t i then atI U i else atI W i)
  | 0, i, h => by omega
  | k + 1, i, h => by
    rw [outL_succ]
    have hl := outL_len U W t k
    by_cases hik : i < k
    · obtain ⟨h1, h2⟩ := outL_get U W t k i hik
      constructor
      · rw [← h1]; unfold atI; rw [List.getElem?_append_left (by omega)]
      · rw [← h2]; unfold atI; rw [List.getElem?_append_left (by omega)]
    · obtain rfl : i = k := by omega
      unfold atI
      rw [List.getElem?_append_right (by omega), List.getElem?_append_right (by omega), hl, show 2 * i - 2 * i = 0 by omega, show 2 * i + 1 - 2 * i = 1 by omega]
      unfold outP gb
      split <;> exact ⟨rfl, rfl⟩
theorem upL_get {l : List Int} {s : List Bool} {h i : Nat} (hi : i < h) : atI (upL l s h) i = if gb s i then atI l (2 * i + 1) else atI l (2 * i) := by
  unfold atI upL
  rw [List.getElem?_map, List.getElem?_range hi]
  rfl
theorem loL_get {l : List Int} {s : List Bool} {h i : Nat} (hi : i < h) : atI (loL l s h) i = if gb s i then atI l (2 * i) else atI l (2 * i + 1) := by
  unfold atI loL
  rw [List.getElem?_map, List.getElem?_range hi]
  rfl
theorem gb_append_left {a b : List Bool} {i : Nat} (h : i < a.length) : gb (a ++ b) i = gb a i := by unfold gb; rw [List.getElem?_append_left h]
/-- the switches of a route perform the permutation -/
theorem route_works : ∀ (f : Nat) (P : List Nat) (l : List Int), PermN P (2 ^ (f + 1)) → l.length = 2 ^ (f + 1) → benF f l (rtF f P) = P.map (atI l)
  | 0, P, l, hP, hl => by
    have hp := hP.len
    obtain ⟨a, b, rfl⟩ : ∃ a b, P = [a, b] := by
      match P, hp with
      | [a, b], _ => exact ⟨a, b, rfl⟩
    have ha := hP.lt a (by simp)
    have hb := hP.lt b (by simp)
    have hn := hP.nd
    simp at hn ha hb
    obtain ⟨u, v, rfl⟩ : ∃ u v, l = [u, v] := by
      match l, hl with
      | [u, v], _ => exact ⟨u, v, rfl⟩
    obtain ⟨rfl, rfl⟩ | ⟨rfl, rfl⟩ : (a = 0 ∧ b = 1) ∨ (a = 1 ∧ b = 0) := by omega
    · rfl
    · rfl
  | f + 1, P, l, hP, hl => by
    have hr := rt_stage hP
    obtain ⟨h1, h2⟩ := routed_perm hr
    have L1 := rtF_len f _ h1
    have L2 := rtF_len f _ h2
    have hpow : 2 ^ (f + 2) = 2 * 2 ^ (f + 1) := by rw [Nat.pow_succ 2 (f + 1)]; omega
    unfold rtF
    generalize hins : (rtA P (2 ^ (f + 1))).1 = ins at *
    generalize houts : (rtA P (2 ^ (f + 1))).2.1 = outs at *
    have I1 := route_works f _ (upL l ins (2 ^ (f + 1))) h1 (upL_len _ _ _)
    have I2 := route_works f _ (loL l ins (2 ^ (f + 1))) h2 (loL_len _ _ _)
    generalize rtF f (upP P outs (2 ^ (f + 1))) = s1 at *
    generalize rtF f (loP P outs (2 ^ (f + 1))) = s2 at *
    have li := hr.li
    have lo := hr.lo
    unfold benF
    have e1 : ((ins ++ s1 ++ s2 ++ outs).drop (2 ^ (f + 1))).take (bsz f) = s1 := by
      rw [List.append_assoc, List.append_assoc, ← li, List.drop_left, ← L1, List.take_left]
    have e2 : ((ins ++ s1 ++ s2 ++ outs).drop (2 ^ (f + 1) + bsz f)).take (bsz f) = s2 := by
      rw [List.append_assoc, ← li, ← L1, ← List.length_append, List.drop_left, L1, ← L2, List.take_left]
    have e3 : (ins ++ s1 ++ s2 ++ outs).drop (2 ^ (f + 1) + 2 * bsz f) = outs := by
      have : 2 ^ (f + 1) + 2 * bsz f = (ins ++ s1 ++ s2).length := by simp only [List.length_append]; omega
      rw [this, List.drop_left]
    have hup : upL l (ins ++ s1 ++ s2 ++ outs) (2 ^ (f + 1)) = upL l ins (2 ^ (f + 1)) := by
      refine ext_atI (by simp [upL_len]) (fun i hi => ?_)
      rw [upL_len] at hi
      rw [upL_get hi, upL_get hi, List.append_assoc, List.append_assoc, gb_append_left (by omega)]
    have hlo : loL l (ins ++ s1 ++ s2 ++ outs) (2 ^ (f + 1)) = loL l ins (2 ^ (f + 1)) := by
      refine ext_atI (by simp [loL_len]) (fun i hi => ?_)
      rw [loL_len] at hi
      rw [loL_get hi, loL_get hi, List.append_assoc, List.append_assoc, gb_append_left (by omega)]
    rw [e1, e2, e3, hup, hlo, I1, I2]
    have hU : ∀ k, k < 2 ^ (f + 1) → atI ((upP P outs (2 ^ (f + 1))).map (atI (upL l ins (2 ^ (f + 1))))) k = atI l (upx (atN P) outs k) := by
      intro k hk
      have hx := hr.ul k hk
      have hi := hr.ui k hk
      conv => lhs; unfold atI upP
      rw [List.map_map, List.getElem?_map, List.getElem?_range hk]
      show atI (upL l ins (2 ^ (f + 1))) (upx (atN P) outs k / 2) = _
      rw [upL_get (by omega), hi]
      generalize upx (atN P) outs k = x
      rcases Nat.mod_two_eq_zero_or_one x with h9 | h9
      · rw [h9, if_neg (by decide), show 2 * (x / 2) = x by omega]
      · rw [h9, if_pos (by decide), show 2 * (x / 2) + 1 = x by omega]
    have hV : ∀ k, k < 2 ^ (f + 1) → atI ((loP P outs (2 ^ (f + 1))).map (atI (loL l ins (2 ^ (f + 1))))) k = atI l (lox (atN P) outs k) := by
      intro k hk
      have hx := hr.vl k hk
      have hi := hr.vi k hk
      conv => lhs; unfold atI loP
      rw [List.map_map, List.getElem?_map, List.getElem?_range hk]
      show atI (loL l ins (2 ^ (f + 1))) (lox (atN P) outs k / 2) = _
      rw [loL_get (by omega), hi]
      generalize lox (atN P) outs k = x
      rcases Nat.mod_two_eq_zero_or_one x with h9 | h9
      · rw [h9, if_pos (by decide), show 2 * (x / 2) = x by omega]
      · rw [h9, if_neg (by decide), show 2 * (x / 2) + 1 = x by omega]
    have hPl := hP.len
    refine ext_atI (by rw [outL_len, List.length_map]; omega) (fun i hi => ?_)
    rw [List.length_map] at hi
    have hm : atI (P.map (atI l)) i = atI l (atN P i) := by
      conv => lhs; unfold atI
      rw [List.getElem?_map, List.getElem?_eq_getElem hi, atN_mem hi]
      rfl
    rw [hm]
    have hk : i / 2 < 2 ^ (f + 1) := by omega
    obtain ⟨o1, o2⟩ := outL_get ((upP P outs (2 ^ (f + 1))).map (atI (upL l ins (2 ^ (f + 1))))) ((loP P outs (2 ^ (f + 1))).map (atI (loL l ins (2 ^ (f + 1))))) outs (2 ^ (f + 1)) (i / 2) hk
    rw [hU _ hk, hV _ hk] at o1 o2
    unfold upx lox at o1 o2
    rcases Nat.mod_two_eq_zero_or_one i with h9 | h9
    · rw [show 2 * (i / 2) = i by omega] at o1
      rw [o1]
      cases gb outs (i / 2) <;> simp
    · rw [show 2 * (i / 2) + 1 = i by omega] at o2
      rw [o2]
      cases gb outs (i / 2) <;> simp
end Go.Proofs.Ytmeaipickolhfaa
