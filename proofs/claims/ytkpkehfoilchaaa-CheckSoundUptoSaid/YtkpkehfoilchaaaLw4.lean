/- What the law says, in plain words: models of formulas and of the clauses that stand. -/
import Derived.Test.YtkpkehfoilchaaaLw3
namespace Go.Proofs.Ytkpkehfoilchaaa
open Go.RowKit
set_option linter.unusedSimpArgs false
set_option linter.unusedVariables false
variable {m : Meta} {L : List HP}
/-- A model's number, of its truth. -/
def numOf (μ : Nat → Bool) : Nat → Nat
  | 0 => 0
  | n + 1 => numOf μ n + (if μ (n + 1) then 2 ^ n else 0)
theorem numOf_lt (μ : Nat → Bool) : ∀ n, numOf μ n < 2 ^ n
  | 0 => by simp [numOf]
  | n + 1 => by
    have := numOf_lt μ n
    simp only [numOf]
    split <;> rw [Nat.pow_succ] <;> omega
theorem numOf_bit (μ : Nat → Bool) : ∀ n v, v < n → (numOf μ n).testBit v = μ (v + 1)
  | 0, v, h => by omega
  | n + 1, v, h => by
    have hlt := numOf_lt μ n
    simp only [numOf]
    by_cases hv : v = n
    · subst hv
      cases hμ : μ (v + 1) with
      | true =>
        simp only [if_true]
        rw [Nat.add_comm, Nat.testBit_two_pow_add_eq, Nat.testBit_lt_two_pow hlt]; rfl
      | false => simp only [Bool.false_eq_true, if_false, Nat.add_zero]; exact Nat.testBit_lt_two_pow hlt
    · have hv' : v < n := by omega
      split
      · rw [Nat.add_comm, Nat.testBit_two_pow_add_gt hv']; exact numOf_bit μ n v hv'
      · rw [Nat.add_zero]; exact numOf_bit μ n v hv'
theorem modelF_get (n k i : Nat) (h : i < n) : (modelF n k).getD i false = k.testBit i := by
  simp [modelF, List.getD_eq_getElem?_getD, h]
theorem trueF_sv (n k : Nat) (y : Int) (h0 : y ≠ 0) (hn : y.natAbs ≤ n) : trueF (modelF n k) y = sv (fun v => k.testBit (v - 1)) y := by
  unfold trueF
  rw [modelF_len, modelF_get n k _ (by omega)]
  have h1 : decide (1 ≤ y.natAbs) = true := by simp; omega
  have h2 : decide (y.natAbs ≤ n) = true := by simp; omega
  rw [h1, h2]
  unfold sv
  by_cases h : y < 0
  · have : ¬ 0 < y := by omega
    simp only [h, this, decide_false, if_true, Bool.true_and]
    cases k.testBit (y.natAbs - 1) <;> rfl
  · have : 0 < y := by omega
    simp only [h, this, decide_true, if_false, Bool.true_and]
    cases k.testBit (y.natAbs - 1) <;> rfl
def Small (n : Nat) (cls : List ClV) : Prop := ∀ x ∈ cls, ∀ y ∈ x.lits, y ≠ 0 ∧ y.natAbs ≤ n
theorem sv_congr {μ ν : Nat → Bool} {y : Int} (h : μ y.natAbs = ν y.natAbs) : sv μ y = sv ν y := by unfold sv; rw [h]
theorem holdsF_sat {n k : Nat} {cls : List ClV} (hs : Small n cls) : holdsF (modelF n k) cls = true ↔ ∀ x ∈ cls, SatC (fun v => k.testBit (v - 1)) x.lits := by
  unfold holdsF
  rw [List.all_eq_true]
  refine forall_congr' fun x => forall_congr' fun hx => ?_
  unfold valueF SatC
  rw [List.any_eq_true]
  refine exists_congr fun y => ?_
  constructor
  · rintro ⟨h1, h2⟩; exact ⟨h1, by rw [← trueF_sv n k y (hs x hx y h1).1 (hs x hx y h1).2]; exact h2⟩
  · rintro ⟨h1, h2⟩; exact ⟨h1, by rw [trueF_sv n k y (hs x hx y h1).1 (hs x hx y h1).2]; exact h2⟩
theorem hasF_iff {n : Nat} {cls : List ClV} (hs : Small n cls) : hasF n cls ↔ ∃ μ : Nat → Bool, ∀ x ∈ cls, SatC μ x.lits := by
  constructor
  · rintro ⟨k, _, h⟩; exact ⟨_, (holdsF_sat hs).1 h⟩
  · rintro ⟨μ, h⟩
    refine ⟨numOf μ n, numOf_lt μ n, (holdsF_sat hs).2 fun x hx => ?_⟩
    obtain ⟨y, hy, hv⟩ := h x hx
    refine ⟨y, hy, ?_⟩
    rw [← hv]
    have := hs x hx y hy
    refine sv_congr ?_
    show (numOf μ n).testBit (y.natAbs - 1) = μ y.natAbs
    rw [numOf_bit μ n _ (by omega), show y.natAbs - 1 + 1 = y.natAbs by omega]
theorem stands_perm {D : Dt} {cls : List ClV} (hn : (D.map (·.1)).Nodup) (h : cls.map (·.lits) = (keysF (DM D)).map (clOf D)) : (cls.map (·.lits)).Perm (D.map fun x => x.2.lits) := by
  rw [h]
  have hk : (keysF (DM D)).Perm (D.map (·.1)) := by
    have := List.mergeSort_perm ((DM D).map (·.1)) fun x y => decide (x ≤ y)
    unfold keysF
    refine this.trans ?_
    simp [DM, List.map_map, Function.comp_def]
  refine (hk.map _).trans ?_
  rw [List.map_map]
  refine List.Perm.of_eq (List.map_congr_left fun x hx => ?_)
  simp [clOf, dlook_of_mem hn (show (x.1, x.2) ∈ D from hx)]
theorem totN_sum : ∀ c : List ClV, totN c = ((c.map (·.lits)).map List.length).sum
  | [] => rfl
  | x :: r => by simp [totN, totN_sum r]
theorem litsOf_sum : ∀ D : Dt, litsOf D = ((((D.map fun x => x.2.lits).map List.length).sum : Nat) : Int)
  | [] => rfl
  | x :: r => by simp [litsOf, litsOf_sum r]
theorem sum_perm {a b : List Nat} (h : a.Perm b) : a.sum = b.sum := by
  induction h with
  | nil => rfl
  | cons x _ ih => simp [ih]
  | swap x y l => simp; omega
  | trans _ _ h1 h2 => exact h1.trans h2
theorem stands_tot {D : Dt} {cls : List ClV} (hn : (D.map (·.1)).Nodup) (h : cls.map (·.lits) = (keysF (DM D)).map (clOf D)) : (totN cls : Int) = litsOf D := by
  rw [totN_sum, litsOf_sum, sum_perm ((stands_perm hn h).map _)]
theorem stands_len {D : Dt} {cls : List ClV} (hn : (D.map (·.1)).Nodup) (h : cls.map (·.lits) = (keysF (DM D)).map (clOf D)) : cls.length = D.length := by
  have := (stands_perm hn h).length_eq; simpa using this
theorem stands_all {D : Dt} {cls : List ClV} (hn : (D.map (·.1)).Nodup) (h : cls.map (·.lits) = (keysF (DM D)).map (clOf D)) (P : List Int → Prop) : (∀ x ∈ cls, P x.lits) ↔ ∀ y ∈ D, P y.2.lits := by
  have hp := stands_perm hn h
  constructor
  · intro h1 y hy
    obtain ⟨x, hx, e⟩ := List.mem_map.1 (hp.mem_iff.2 (List.mem_map_of_mem (f := fun x : Int × Ht => x.2.lits) hy))
    rw [← e]; exact h1 x hx
  · intro h1 x hx
    obtain ⟨y, hy, e⟩ := List.mem_map.1 (hp.mem_iff.1 (List.mem_map_of_mem (f := fun x : ClV => x.lits) hx))
    rw [← e]; exact h1 y hy
/-! ### what holds at the head of each round -/
structure LI (has : Bool) (bound : Nat) (D : Dt) (last : Int) (done : Bool) : Prop where
  sets : ∀ x ∈ D, x.2.set = normF x.2.lits
  lits : ∀ x ∈ D, ∀ y ∈ x.2.lits, y ≠ 0 ∧ y.natAbs ≤ 10
  len : ∀ x ∈ D, x.2.lits.length ≤ 16777216
  keys : ∀ x ∈ D, 1 ≤ x.1 ∧ x.1 ≤ last
  lmax : last ≤ 4611686018427387904
  l0 : 0 ≤ last
  sum : litsOf D ≤ 16777216
  num : D.length ≤ bound
  nd : done = true → ∃ x ∈ D, x.2.lits = []
  sat : has = true → ∃ μ, SatD μ D
theorem LI.ok {has : Bool} {bound : Nat} {D : Dt} {last : Int} {done : Bool} (h : LI has bound D last done) : ∀ x ∈ D, LitsOk x.2.set := fun x hx => by
  rw [h.sets x hx]
  exact lo_norm (fun y hy => by have := h.lits x hx y hy; omega) (h.len x hx)
theorem satD_iff {D : Dt} (hs : ∀ x ∈ D, x.2.set = normF x.2.lits) {μ : Nat → Bool} : SatD μ D ↔ ∀ y ∈ D, SatC μ y.2.lits := by
  unfold SatD
  refine forall_congr' fun x => forall_congr' fun hx => ?_
  rw [hs x hx, satC_norm]
/-- A round that is taken and leaves no empty clause. -/
theorem LI.step {has : Bool} {bound : Nat} {D D' : Dt} {last last' : Int} {done done' : Bool} {kind id : Int} {l hints : List Int} (h : LI has bound D last done) (hl : l.length ≤ 16777216) (h10 : ∀ y ∈ l, y.natAbs ≤ 10) (hr : StepR kind id l hints D last done (0, D', last', done')) (hd : done' = false) :
    LI has (bound + 1) D' last' done' := by
  rcases hr.yes rfl with ⟨_, hsub, e⟩ | ⟨_, h1, h2, h3, h4, h5, hh, e1, e2, e3⟩
  · simp only [Prod.mk.injEq] at e hsub
    obtain ⟨rfl, rfl⟩ := e
    have hm : ∀ x ∈ D', x ∈ D := fun x hx => hsub.subset hx
    refine ⟨fun x hx => h.sets x (hm x hx), fun x hx => h.lits x (hm x hx), fun x hx => h.len x (hm x hx), fun x hx => h.keys x (hm x hx), h.lmax, h.l0, ?_, by have := hsub.length_le; have := h.num; omega, fun h => by rw [hd] at h; simp at h, fun hh => let ⟨μ, hμ⟩ := h.sat hh; ⟨μ, fun x hx => hμ x (hm x hx)⟩⟩
    have : litsOf D' ≤ litsOf D := by
      clear hm hr h hd
      induction hsub with
      | slnil => exact Int.le_refl _
      | cons a _ ih => simp [litsOf]; omega
      | cons_cons a _ ih => simp [litsOf]; omega
    have := h.sum; omega
  · simp only [Prod.mk.injEq] at e3 h5
    obtain ⟨rfl, rfl, rfl⟩ := e3
    have hl0 := h.l0
    refine ⟨?_, ?_, ?_, ?_, by omega, by omega, h5, by have := h.num; simp; omega, fun h => by rw [hd] at h; simp at h, ?_⟩
    · intro x hx
      rcases List.mem_append.1 hx with hx | hx
      · exact h.sets x hx
      · rw [List.mem_singleton.1 hx, e2, e1]
    · intro x hx y hy
      rcases List.mem_append.1 hx with hx | hx
      · exact h.lits x hx y hy
      · rw [List.mem_singleton.1 hx, e1] at hy; exact ⟨(h3 y hy).1, h10 y hy⟩
    · intro x hx
      rcases List.mem_append.1 hx with hx | hx
      · exact h.len x hx
      · rw [List.mem_singleton.1 hx, e1]; exact hl
    · intro x hx
      rcases List.mem_append.1 hx with hx | hx
      · have := h.keys x hx; omega
      · rw [List.mem_singleton.1 hx]
        simp only
        have := h.l0
        omega
    · intro hh'
      obtain ⟨μ, hμ⟩ := h.sat hh'
      have key : ∀ ν, SatD ν D → SatC ν l → SatD ν (D ++ [(last', hh)]) := fun ν h1 h2 x hx => by
        rcases List.mem_append.1 hx with hx | hx
        · exact h1 x hx
        · rw [List.mem_singleton.1 hx, e2]; exact satC_norm.2 h2
      rcases h4 with h4 | ⟨_, h4⟩
      · exact ⟨μ, key μ hμ (h4 μ hμ)⟩
      · obtain ⟨ν, h5, h6⟩ := h4 μ hμ
        exact ⟨ν, key ν h5 h6⟩
/-- A round that leaves an empty clause: there was no model. -/
theorem LI.end {has : Bool} {bound : Nat} {D D' : Dt} {last last' : Int} {done done' : Bool} {kind id : Int} {l hints : List Int} (h : LI has bound D last done) (hr : StepR kind id l hints D last done (0, D', last', done')) (hd : done' = true) : (¬ ∃ μ, SatD μ D) ∧ has = false := by
  have hde : done = true → ¬ ∃ μ, SatD μ D := fun hdn => by
    obtain ⟨x, hx, e⟩ := h.nd hdn
    rintro ⟨μ, hμ⟩
    obtain ⟨y, hy, _⟩ := (satD_iff h.sets).1 hμ x hx
    rw [e] at hy; simp at hy
  have hno : ¬ ∃ μ, SatD μ D := by
    rcases hr.yes rfl with ⟨_, hsub, e⟩ | ⟨_, h1, h2, h3, h4, h5, hh, e1, e2, e3⟩
    · simp only [Prod.mk.injEq] at e
      exact hde (by rw [← e.2, hd])
    · simp only [Prod.mk.injEq] at e3
      cases hdn : done with
      | true => exact hde hdn
      | false =>
        have hl : l = [] := by
          have := e3.2.2; rw [hd, hdn] at this; simpa using this.symm
        subst hl
        rintro ⟨μ, hμ⟩
        rcases h4 with h4 | ⟨h4, _⟩
        · obtain ⟨y, hy, _⟩ := h4 μ hμ; simp at hy
        · exact h4 rfl
  refine ⟨hno, ?_⟩
  cases hh : has with
  | true => exact absurd (h.sat hh) hno
  | false => rfl
theorem LI.start {n : Nat} {cls : List ClV} {D : Dt} {done has : Bool} (hP : RightP n cls) (h8 : n ≤ 8) (ht : totN cls ≤ 16777216) (h60 : cls.length ≤ 60) (hI : NewI cls cls.length D done) (hh : has = true ↔ hasF n cls) : LI has 60 D cls.length done := by
  have hl := hI.lits
  have hd := hI.dn
  have hs := hI.sum
  rw [List.take_of_length_le (Nat.le_refl _)] at hl hd hs
  have hm : ∀ x ∈ D, ∃ y ∈ cls, y.lits = x.2.lits := fun x hx => by
    have : x.2.lits ∈ D.map fun x => x.2.lits := List.mem_map_of_mem (f := fun x : Int × Ht => x.2.lits) hx
    rw [hl] at this
    exact List.mem_map.1 this
  have hm2 : ∀ y ∈ cls, ∃ x ∈ D, y.lits = x.2.lits := fun y hy => by
    have : y.lits ∈ cls.map (·.lits) := List.mem_map_of_mem hy
    rw [← hl] at this
    obtain ⟨x, hx, e⟩ := List.mem_map.1 this
    exact ⟨x, hx, e.symm⟩
  have hsm : Small n cls := fun x hx y hy => by have := hP.lits x hx y hy; omega
  refine ⟨hI.sets, fun x hx y hy => ?_, fun x hx => ?_, hI.keys, by omega, by omega, by rw [hs]; omega, ?_, fun h => ?_, fun h => ?_⟩
  · obtain ⟨z, hz, e⟩ := hm x hx
    have := hP.lits z hz y (e ▸ hy); omega
  · obtain ⟨z, hz, e⟩ := hm x hx
    rw [← e]; exact Nat.le_trans (totN_mem hz) ht
  · have := congrArg List.length hl; simp at this; omega
  · rw [hd, List.any_eq_true] at h
    obtain ⟨y, hy, e⟩ := h
    obtain ⟨x, hx, e2⟩ := hm2 y hy
    exact ⟨x, hx, by rw [← e2]; simpa using e⟩
  · obtain ⟨μ, hμ⟩ := (hasF_iff hsm).1 (hh.1 h)
    refine ⟨μ, (satD_iff hI.sets).2 fun x hx => ?_⟩
    obtain ⟨z, hz, e⟩ := hm x hx
    rw [← e]; exact hμ z hz
theorem LI.right {has : Bool} {bound : Nat} {D : Dt} {last : Int} {done : Bool} (h : LI has bound D last done) {cls : List ClV} (hn : (D.map (·.1)).Nodup) (hc : cls.map (·.lits) = (keysF (DM D)).map (clOf D)) :
    RightP (10 : Nat) cls ∧ cls.length ≤ bound ∧ totN cls ≤ 16777216 ∧ (hasF 10 cls ↔ ∃ μ, SatD μ D) := by
  have h1 : ∀ x ∈ cls, ∀ y ∈ x.lits, y ≠ 0 ∧ y.natAbs ≤ 10 := (stands_all hn hc fun l => ∀ y ∈ l, y ≠ 0 ∧ y.natAbs ≤ 10).2 h.lits
  refine ⟨⟨by omega, by omega, fun x hx y hy => by have := h1 x hx y hy; omega⟩, by rw [stands_len hn hc]; exact h.num, by have := stands_tot hn hc; have := h.sum; omega, ?_⟩
  rw [hasF_iff h1]
  refine exists_congr fun μ => ?_
  rw [satD_iff h.sets]
  exact stands_all hn hc fun l => SatC μ l
end Go.Proofs.Ytkpkehfoilchaaa
