/- The checker's values and trail: set, back. -/
import Derived.Test.YtkpkehfoilchaaaCk1
namespace Go.Proofs.Ytkpkehfoilchaaa
open Go.RowKit
set_option linter.unusedSimpArgs false
set_option linter.unusedVariables false
set_option maxHeartbeats 1000000
attribute [local irreducible] WL AR CS KS wpList
variable {m : Meta} {L : List HP}

def i8s (l : List Int) : List Value := l.map (Value.int .i8)
def l32 (l : List Int) : List Value := l.map (Value.int .i32)
/-- A literal's value, out of those that are true. -/
def valOf (tr : List Int) (l : Int) : Int := if l ∈ tr then 1 else if -l ∈ tr then -1 else 0
structure TrOk (vals tr : List Int) : Prop where
  len : vals.length ≤ 1048577
  rng : ∀ l ∈ tr, l ≠ 0 ∧ l.natAbs ≤ 1048576
  nodup : (tr.map Int.natAbs).Nodup
  vok : ∀ v : Nat, 0 < v → vals.getD v 0 = valOf tr v
  small : ∀ x ∈ vals, -1 ≤ x ∧ x ≤ 1
theorem nodup_len (N : Nat) : ∀ l : List Nat, l.Nodup → (∀ x ∈ l, x < N) → l.length ≤ N := by
  induction N with
  | zero => intro l _ h; cases l with
    | nil => simp
    | cons x l => exact absurd (h x (by simp)) (by omega)
  | succ N ih =>
    intro l hn h
    have h1 := ih (l.filter (· ≠ N)) (hn.filter _) (fun x hx => by
      have := List.mem_filter.1 hx
      have h2 := h x this.1
      have h3 : x ≠ N := by simpa using this.2
      omega)
    have h2 : l.length ≤ (l.filter (· ≠ N)).length + 1 := by
      clear h h1 ih
      induction l with
      | nil => simp
      | cons x l ih =>
        have hn' := List.nodup_cons.1 hn
        by_cases hx : x = N
        · subst hx
          have : l.filter (· ≠ x) = l := List.filter_eq_self.2 fun y hy => by
            have : y ≠ x := fun e => hn'.1 (e ▸ hy)
            simpa using this
          rw [List.filter_cons_of_neg (by simp), this]; simp
        · rw [List.filter_cons_of_pos (by simpa using hx)]
          have := ih hn'.2
          simp only [List.length_cons]; omega
    omega
theorem TrOk.length {vals tr : List Int} (h : TrOk vals tr) : tr.length ≤ 1048577 := by
  have := nodup_len 1048577 (tr.map Int.natAbs) h.nodup (fun x hx => by
    obtain ⟨l, hl, rfl⟩ := List.mem_map.1 hx
    have := (h.rng l hl).2
    omega)
  simpa using this
theorem TrOk.neg {vals tr : List Int} (h : TrOk vals tr) {l : Int} (hl : l ∈ tr) : -l ∉ tr := fun hn => by
  obtain ⟨l1, l2, rfl⟩ := List.append_of_mem hl
  have hne : -l ≠ l := fun e => (h.rng l hl).1 (by omega)
  have hnd := h.nodup
  rw [List.map_append, List.map_cons, List.nodup_append] at hnd
  have h2 := List.nodup_cons.1 hnd.2.1
  rcases List.mem_append.1 hn with hn | hn
  · exact hnd.2.2 (-l).natAbs (List.mem_map_of_mem hn) l.natAbs (by simp) (by simp)
  · rcases List.mem_cons.1 hn with hn | hn
    · exact hne hn
    · exact h2.1 (by have := List.mem_map_of_mem (f := Int.natAbs) hn; simpa using this)
theorem valOf_neg {vals tr : List Int} (h : TrOk vals tr) (l : Int) : valOf tr (-l) = -valOf tr l := by
  unfold valOf
  rw [Int.neg_neg]
  by_cases h1 : l ∈ tr
  · have := h.neg h1; simp [h1, this]
  · by_cases h2 : -l ∈ tr <;> simp [h1, h2]
theorem TrOk.nil : TrOk [] [] := ⟨by simp, by simp, by simp, by simp [valOf], by simp⟩
theorem TrOk.ofLit {vals tr : List Int} (h : TrOk vals tr) (l : Int) (hl : l ≠ 0) : (if l < 0 then -(vals.getD l.natAbs 0) else vals.getD l.natAbs 0) = valOf tr l := by
  rw [h.vok l.natAbs (by omega)]
  by_cases h0 : l < 0
  · rw [if_pos h0, ← valOf_neg h, show -(l.natAbs : Int) = l by omega]
  · rw [if_neg h0, show (l.natAbs : Int) = l by omega]
/-- A literal more: the row of values is long enough, and its own place is written. -/
theorem TrOk.add {vals tr : List Int} (h : TrOk vals tr) {l : Int} (hl : l ≠ 0) (hr : l.natAbs ≤ 1048576) (hn : l.natAbs ∉ tr.map Int.natAbs) (ext : List Int) (he : ext = vals ∨ ∃ j, ext = vals ++ List.replicate j 0) (hlt : l.natAbs < ext.length) (hlen : ext.length ≤ 1048577) :
    TrOk (ext.set l.natAbs (if l < 0 then -1 else 1)) (tr ++ [l]) := by
  have hg : ∀ v : Nat, ext.getD v 0 = vals.getD v 0 := by
    intro v
    rcases he with rfl | ⟨j, rfl⟩
    · rfl
    · simp only [List.getD_eq_getElem?_getD, List.getElem?_append]
      split
      · rfl
      · rename_i hv
        rw [List.getElem?_eq_none (show vals.length ≤ v by omega), List.getElem?_replicate]
        split <;> rfl
  have hmem : l ∉ tr ∧ -l ∉ tr := ⟨fun e => hn (List.mem_map_of_mem e), fun e => hn (by have := List.mem_map_of_mem (f := Int.natAbs) e; simpa using this)⟩
  refine ⟨by simpa using hlen, ?_, ?_, ?_, ?_⟩
  · intro x hx
    rcases List.mem_append.1 hx with hx | hx
    · exact h.rng x hx
    · simp only [List.mem_singleton] at hx; subst hx; exact ⟨hl, hr⟩
  · rw [List.map_append, List.nodup_append]
    refine ⟨h.nodup, by simp, fun a ha b hb => ?_⟩
    simp only [List.map_cons, List.map_nil, List.mem_singleton] at hb
    subst hb
    exact fun e => hn (e ▸ ha)
  · intro v hv
    simp only [List.getD_eq_getElem?_getD, List.getElem?_set]
    by_cases e : l.natAbs = v
    · subst e
      simp only [if_true, hlt, Option.getD_some]
      unfold valOf
      by_cases h0 : l < 0
      · have h1 : (l.natAbs : Int) = -l := by omega
        rw [h1, if_pos h0]
        have h2 : -l ∉ tr ++ [l] := by simp [hmem.2]; omega
        have h3 : l ∈ tr ++ [l] := by simp
        rw [if_neg h2, Int.neg_neg, if_pos h3]
      · have h1 : (l.natAbs : Int) = l := by omega
        rw [h1, if_neg h0, if_pos (by simp)]
    · rw [if_neg e]
      have := h.vok v hv
      rw [← hg] at this
      simp only [List.getD_eq_getElem?_getD] at this
      rw [this]
      unfold valOf
      have e1 : ((v : Int) ∈ tr ++ [l]) ↔ ((v : Int) ∈ tr) := by
        simp only [List.mem_append, List.mem_singleton, or_iff_left_iff_imp]
        intro e'; exfalso; omega
      have e2 : (-(v : Int) ∈ tr ++ [l]) ↔ (-(v : Int) ∈ tr) := by
        simp only [List.mem_append, List.mem_singleton, or_iff_left_iff_imp]
        intro e'; exfalso; omega
      simp only [e1, e2]
  · intro x hx
    have hx' : x ∈ ext ∨ x = (if l < 0 then -1 else 1) := List.mem_or_eq_of_mem_set hx
    rcases hx' with hx' | rfl
    · rcases he with rfl | ⟨j, rfl⟩
      · exact h.small x hx'
      · rcases List.mem_append.1 hx' with hx' | hx'
        · exact h.small x hx'
        · rw [List.eq_of_mem_replicate hx']; omega
    · split <;> omega

/-- The checker's struct, with the rows of its values and of its trail; its map of clauses beside. -/
def HP.ck (b : Nat) (mp : Value) (last lits : Int) (done : Bool) (tr : List Int) : HP := HP.ex fun vals : List Int => HP.ex fun vv : Value => HP.ex fun tv : Value =>
  HP.star (HP.pure (TrOk vals tr)) (HP.star (HP.cells b 55 [mp, .int .i64 last, .int .i64 lits, .bool done, vv, tv])
    (HP.star (HP.own 91 1 vv vals.length (i8s vals)) (HP.own 46 1 tv tr.length (l32 tr))))
theorem Sat.ck {b : Nat} {mp : Value} {last lits : Int} {done : Bool} {tr : List Int} {w : World} (h : Sat m (HP.ck b mp last lits done tr :: L) w) : ∃ vals vv tv, TrOk vals tr ∧
    Sat m (HP.cells b 55 [mp, .int .i64 last, .int .i64 lits, .bool done, vv, tv] :: HP.own 91 1 vv vals.length (i8s vals) :: HP.own 46 1 tv tr.length (l32 tr) :: L) w := by
  obtain ⟨vals, h⟩ := h.of_ex
  obtain ⟨vv, h⟩ := h.of_ex
  obtain ⟨tv, h⟩ := h.of_ex
  have h1 := h.of_star.of_pure
  exact ⟨vals, vv, tv, h1.1, ((h1.2.of_star.front 1 rfl).of_star.front 2 rfl)⟩
theorem Sat.mkCk {b : Nat} {mp : Value} {last lits : Int} {done : Bool} {tr vals : List Int} {vv tv : Value} {nv nt : Nat} {w : World} (ok : TrOk vals tr) (hnv : vals.length = nv) (hnt : tr.length = nt)
    (h : Sat m (HP.cells b 55 [mp, .int .i64 last, .int .i64 lits, .bool done, vv, tv] :: HP.own 91 1 vv nv (i8s vals) :: HP.own 46 1 tv nt (l32 tr) :: L) w) : Sat m (HP.ck b mp last lits done tr :: L) w := by
  subst hnv; subst hnt
  exact Sat.ex vals (Sat.ex vv (Sat.ex tv (Sat.star (Sat.pure ok (Sat.star (Sat.front (Sat.star (((h.front 1 rfl).front 2 rfl).front 1 rfl)) 1 rfl))))))
theorem own_slice' {e size k : Nat} {v : Value} {xs : List Value} {w : World} (h : Sat m (HP.own e size v k xs :: L) w) : ∃ A c, v = .slice A k c := by
  obtain ⟨_, ⟨rfl, rfl⟩ | ⟨g, cap, cur, rfl, _⟩⟩ := own_row h
  · exact ⟨none, 0, rfl⟩
  · exact ⟨_, cap, rfl⟩
set_option maxRecDepth 10000 in
theorem set_tri (b : Nat) (mp : Value) (last lits : Int) (done : Bool) (tr : List Int) (l : Int) (hl : l ≠ 0) (hr : l.natAbs ≤ 1048576) (hn : l.natAbs ∉ tr.map Int.natAbs) :
    Tri Try.prog m 37 #[.pointer (some ⟨b, 0, none⟩), .int .i32 l] (HP.ck b mp last lits done tr :: L) fun v w => v = .tuple #[] ∧ Sat m (HP.ck b mp last lits done (tr ++ [l]) :: L) w := by
  intro w0 H0
  obtain ⟨vals, vv, tv, ok, H0⟩ := H0.ck
  obtain ⟨A, c, rfl⟩ := own_slice' (H0.front 1 rfl)
  obtain ⟨A2, c2, rfl⟩ := own_slice' (H0.front 2 rfl)
  refine (?_ : Tri _ _ _ _ _ _) w0 H0

  have hb := ok.length
  refine tri_enter (n := _) Try.func37 rfl Try.ntmps37 rfl ?_; simp only [argEnv, Nat.reduceAdd]
  repeat' (first | ((with_reducible first | refine wl_rd ?_ ?_ | refine ar_rd rfl ?_ ?_ | refine wl_rdN ?_ ?_); focus (first | exact trivial | omega | assumption)) | (with_reducible first  | (refine cs_seq ?_; intro _ hK) | apply cs_region | apply cs_block | apply cs_skip | apply cs_ret | apply cs_exit | apply cs_label | apply wl_nil | (apply ar_end; simp only [Made.all, List.map_cons, List.map_nil, List.cons_append, List.nil_append]) | (refine ks_then (by assumption) ?_)  | apply ks_thenRet | apply ks_thenExit | apply ks_blkRet | apply ks_blkNormal | apply ks_block | (apply ks_block' <;> (first | decide | skip))) | (first | ((with_reducible first | apply wl_guard | apply ar_guard); (focus rfl); (focus rfl); (focus decide); (focus exact lk_); all_goals ((intro hgd; (try simp only [decide_eq_true_eq, decide_eq_false_iff_not, Bool.not_true, Bool.not_false, Bool.not_eq_true', Bool.not_eq_false', Bool.and_eq_true, Bool.or_eq_true, Int.not_lt, Int.not_le, reduceCtorEq] at hgd); (try (exfalso; first | exact hgd | omega | contradiction | exact (nomatch (hgd.symm.trans (by assumption) : true = false)) | exact (nomatch (hgd.symm.trans (by assumption) : false = true))))); try simp only [updO_some, updO_none, List.cons_append, List.nil_append])) | ((with_reducible first | apply wl_guardU | apply ar_guardU); (focus rfl); (focus rfl); (focus decide); (focus exact lk_); all_goals (try simp only [updO_some, updO_none, List.cons_append, List.nil_append]))) | ((with_reducible refine cs_if ?_ ?_) <;> (intro hif; (try simp only [decide_eq_true_eq, decide_eq_false_iff_not, Bool.not_true, Bool.not_false, Bool.not_eq_true', Bool.not_eq_false', Bool.and_eq_true, Bool.or_eq_true, Int.not_lt, Int.not_le, reduceCtorEq] at hif); (try (exfalso; first | exact hif | omega | contradiction | exact (nomatch (hif.symm.trans (by assumption) : true = false)) | exact (nomatch (hif.symm.trans (by assumption) : false = true)))))) | ((with_reducible first | refine wl_pick ?_ ?_ | refine ar_pick rfl ?_ ?_) <;> (intro hpk; (try simp only [decide_eq_true_eq, decide_eq_false_iff_not, Bool.not_true, Bool.not_false, Bool.not_eq_true', Bool.not_eq_false', Bool.and_eq_true, Bool.or_eq_true, Int.not_lt, Int.not_le, reduceCtorEq] at hpk); (try (exfalso; first | exact hpk | omega | contradiction | exact (nomatch (hpk.symm.trans (by assumption) : true = false)) | exact (nomatch (hpk.symm.trans (by assumption) : false = true)))))))
  (refine wl_call (var_tri l (by omega) (by omega)) ev_ evl_ rfl ?_)
  rintro v w ⟨rfl, H⟩
  refine wl_go H ?_
  clear H w
  simp only [updO_some, updO_none, List.cons_append, List.nil_append]
  refine wl_read (rd_assign (by (first | (with_reducible first | exact ev_ | exact lk_ | exact get_ | exact evl_ | exact evp_) | exact rfl))) ?_
  simp only [updO_some, updO_none, List.cons_append, List.nil_append]
  (with_reducible apply wl_nil)
  (with_reducible refine ks_then (by assumption) ?_)
  refine cs_cut (α := Int × Option Addr × Nat × List Int) (fun x => [(0, .pointer (some ⟨b, 0, none⟩)), (1, .int .i32 l), (4, .int .i64 l.natAbs)])
    (fun x => [HP.cells b 55 [mp, .int .i64 last, .int .i64 lits, .bool done, .slice x.2.1 x.2.2.2.length x.2.2.1, .slice A2 tr.length c2], HP.own 91 1 (.slice x.2.1 x.2.2.2.length x.2.2.1) x.2.2.2.length (i8s x.2.2.2), HP.own 46 1 (.slice A2 tr.length c2) tr.length (l32 tr)] ++ L)
    (fun x => (x.2.2.2 = vals ∨ ∃ j, x.2.2.2 = vals ++ List.replicate j 0) ∧ l.natAbs < x.2.2.2.length ∧ x.2.2.2.length ≤ 1048577) ?_ ?_
  · repeat' (first | (((first | (with_reducible apply wl_read) | ((with_reducible apply ar_read); focus rfl)); focus (first | (first | ((with_reducible apply rd_load) <;> (first | (first | (with_reducible first | exact ev_ | exact lk_ | exact get_ | exact evl_ | exact evp_) | exact rfl) | exact cell_at 0 rfl rfl))))); simp only [updO_some, updO_none, List.cons_append, List.nil_append]) | ((with_reducible first | refine wl_rd ?_ ?_ | refine ar_rd rfl ?_ ?_ | refine wl_rdN ?_ ?_); focus (first | exact trivial | omega | assumption)) | (with_reducible first  | (refine cs_seq ?_; intro _ hK) | apply cs_region | apply cs_block | apply cs_skip | apply cs_ret | apply cs_exit | apply cs_label | apply wl_nil | (apply ar_end; simp only [Made.all, List.map_cons, List.map_nil, List.cons_append, List.nil_append]) | (refine ks_then (by assumption) ?_)  | apply ks_thenRet | apply ks_thenExit | apply ks_blkRet | apply ks_blkNormal | apply ks_block | (apply ks_block' <;> (first | decide | skip))) | (first | ((with_reducible first | apply wl_guard | apply ar_guard); (focus rfl); (focus rfl); (focus decide); (focus exact lk_); all_goals ((intro hgd; (try simp only [decide_eq_true_eq, decide_eq_false_iff_not, Bool.not_true, Bool.not_false, Bool.not_eq_true', Bool.not_eq_false', Bool.and_eq_true, Bool.or_eq_true, Int.not_lt, Int.not_le, reduceCtorEq] at hgd); (try (exfalso; first | exact hgd | omega | contradiction | exact (nomatch (hgd.symm.trans (by assumption) : true = false)) | exact (nomatch (hgd.symm.trans (by assumption) : false = true))))); try simp only [updO_some, updO_none, List.cons_append, List.nil_append])) | ((with_reducible first | apply wl_guardU | apply ar_guardU); (focus rfl); (focus rfl); (focus decide); (focus exact lk_); all_goals (try simp only [updO_some, updO_none, List.cons_append, List.nil_append]))) | ((with_reducible refine cs_if ?_ ?_) <;> (intro hif; (try simp only [decide_eq_true_eq, decide_eq_false_iff_not, Bool.not_true, Bool.not_false, Bool.not_eq_true', Bool.not_eq_false', Bool.and_eq_true, Bool.or_eq_true, Int.not_lt, Int.not_le, reduceCtorEq] at hif); (try (exfalso; first | exact hif | omega | contradiction | exact (nomatch (hif.symm.trans (by assumption) : true = false)) | exact (nomatch (hif.symm.trans (by assumption) : false = true)))))) | ((with_reducible first | refine wl_pick ?_ ?_ | refine ar_pick rfl ?_ ?_) <;> (intro hpk; (try simp only [decide_eq_true_eq, decide_eq_false_iff_not, Bool.not_true, Bool.not_false, Bool.not_eq_true', Bool.not_eq_false', Bool.and_eq_true, Bool.or_eq_true, Int.not_lt, Int.not_le, reduceCtorEq] at hpk); (try (exfalso; first | exact hpk | omega | contradiction | exact (nomatch (hpk.symm.trans (by assumption) : true = false)) | exact (nomatch (hpk.symm.trans (by assumption) : false = true)))))))
    · (refine cs_draw [0, 1, 2, 3, 4, 5, 6, 7, 8, 9, 10, 11, 12, 13, 14, 15] [16] [(13, QS.app [] 91 1 (.slice A vals.length c) vals.length (i8s vals) (l.natAbs + 1 - vals.length) (List.replicate (l.natAbs + 1 - vals.length) (.int .i8 0)))] mixed (by kernel_rfl) (fun w h => h.front 1 rfl) ?_); (try simp only [List.eraseIdx_cons_zero, List.eraseIdx_cons_succ]); simp only [List.filterMap_cons, List.filterMap_nil, List.getElem?_toArray, List.getElem?_cons_zero, List.getElem?_cons_succ, Option.map_some]
      repeat' (first | (((first | (with_reducible apply wl_read) | ((with_reducible apply ar_read); focus rfl)); focus (first | (first | ((with_reducible apply rd_load) <;> (first | (first | (with_reducible first | exact ev_ | exact lk_ | exact get_ | exact evl_ | exact evp_) | exact rfl) | exact cell_at 0 rfl rfl))))); simp only [updO_some, updO_none, List.cons_append, List.nil_append]) | ((with_reducible first | refine wl_rd ?_ ?_ | refine ar_rd rfl ?_ ?_ | refine wl_rdN ?_ ?_); focus (first | exact trivial | omega | assumption)) | (with_reducible first  | (refine cs_seq ?_; intro _ hK) | apply cs_region | apply cs_block | apply cs_skip | apply cs_ret | apply cs_exit | apply cs_label | apply wl_nil | (apply ar_end; simp only [Made.all, List.map_cons, List.map_nil, List.cons_append, List.nil_append]) | (refine ks_then (by assumption) ?_)  | apply ks_thenRet | apply ks_thenExit | apply ks_blkRet | apply ks_blkNormal | apply ks_block | (apply ks_block' <;> (first | decide | skip))) | (first | ((with_reducible first | apply wl_guard | apply ar_guard); (focus rfl); (focus rfl); (focus decide); (focus exact lk_); all_goals ((intro hgd; (try simp only [decide_eq_true_eq, decide_eq_false_iff_not, Bool.not_true, Bool.not_false, Bool.not_eq_true', Bool.not_eq_false', Bool.and_eq_true, Bool.or_eq_true, Int.not_lt, Int.not_le, reduceCtorEq] at hgd); (try (exfalso; first | exact hgd | omega | contradiction | exact (nomatch (hgd.symm.trans (by assumption) : true = false)) | exact (nomatch (hgd.symm.trans (by assumption) : false = true))))); try simp only [updO_some, updO_none, List.cons_append, List.nil_append])) | ((with_reducible first | apply wl_guardU | apply ar_guardU); (focus rfl); (focus rfl); (focus decide); (focus exact lk_); all_goals (try simp only [updO_some, updO_none, List.cons_append, List.nil_append]))) | ((with_reducible refine cs_if ?_ ?_) <;> (intro hif; (try simp only [decide_eq_true_eq, decide_eq_false_iff_not, Bool.not_true, Bool.not_false, Bool.not_eq_true', Bool.not_eq_false', Bool.and_eq_true, Bool.or_eq_true, Int.not_lt, Int.not_le, reduceCtorEq] at hif); (try (exfalso; first | exact hif | omega | contradiction | exact (nomatch (hif.symm.trans (by assumption) : true = false)) | exact (nomatch (hif.symm.trans (by assumption) : false = true)))))) | ((with_reducible first | refine wl_pick ?_ ?_ | refine ar_pick rfl ?_ ?_) <;> (intro hpk; (try simp only [decide_eq_true_eq, decide_eq_false_iff_not, Bool.not_true, Bool.not_false, Bool.not_eq_true', Bool.not_eq_false', Bool.and_eq_true, Bool.or_eq_true, Int.not_lt, Int.not_le, reduceCtorEq] at hpk); (try (exfalso; first | exact hpk | omega | contradiction | exact (nomatch (hpk.symm.trans (by assumption) : true = false)) | exact (nomatch (hpk.symm.trans (by assumption) : false = true)))))))
      refine ar_appendZ rfl rfl rfl (by (first | (with_reducible first | exact ev_ | exact lk_ | exact get_ | exact evl_ | exact evp_) | exact rfl)) (by (first | (with_reducible first | exact ev_ | exact lk_ | exact get_ | exact evl_ | exact evp_) | exact rfl)) (by congr 1 <;> omega) (by have := ok.len; omega) (fun vv' => ?_)
      simp only [updO_some, updO_none, List.cons_append, List.nil_append]
      repeat' (first | ((with_reducible first | refine wl_rd ?_ ?_ | refine ar_rd rfl ?_ ?_ | refine wl_rdN ?_ ?_); focus (first | exact trivial | omega | assumption)) | (with_reducible first  | (refine cs_seq ?_; intro _ hK) | apply cs_region | apply cs_block | apply cs_skip | apply cs_ret | apply cs_exit | apply cs_label | apply wl_nil | (apply ar_end; simp only [Made.all, List.map_cons, List.map_nil, List.cons_append, List.nil_append]) | (refine ks_then (by assumption) ?_)  | apply ks_thenRet | apply ks_thenExit | apply ks_blkRet | apply ks_blkNormal | apply ks_block | (apply ks_block' <;> (first | decide | skip))) | (first | ((with_reducible first | apply wl_guard | apply ar_guard); (focus rfl); (focus rfl); (focus decide); (focus exact lk_); all_goals ((intro hgd; (try simp only [decide_eq_true_eq, decide_eq_false_iff_not, Bool.not_true, Bool.not_false, Bool.not_eq_true', Bool.not_eq_false', Bool.and_eq_true, Bool.or_eq_true, Int.not_lt, Int.not_le, reduceCtorEq] at hgd); (try (exfalso; first | exact hgd | omega | contradiction | exact (nomatch (hgd.symm.trans (by assumption) : true = false)) | exact (nomatch (hgd.symm.trans (by assumption) : false = true))))); try simp only [updO_some, updO_none, List.cons_append, List.nil_append])) | ((with_reducible first | apply wl_guardU | apply ar_guardU); (focus rfl); (focus rfl); (focus decide); (focus exact lk_); all_goals (try simp only [updO_some, updO_none, List.cons_append, List.nil_append]))) | ((with_reducible refine cs_if ?_ ?_) <;> (intro hif; (try simp only [decide_eq_true_eq, decide_eq_false_iff_not, Bool.not_true, Bool.not_false, Bool.not_eq_true', Bool.not_eq_false', Bool.and_eq_true, Bool.or_eq_true, Int.not_lt, Int.not_le, reduceCtorEq] at hif); (try (exfalso; first | exact hif | omega | contradiction | exact (nomatch (hif.symm.trans (by assumption) : true = false)) | exact (nomatch (hif.symm.trans (by assumption) : false = true)))))) | ((with_reducible first | refine wl_pick ?_ ?_ | refine ar_pick rfl ?_ ?_) <;> (intro hpk; (try simp only [decide_eq_true_eq, decide_eq_false_iff_not, Bool.not_true, Bool.not_false, Bool.not_eq_true', Bool.not_eq_false', Bool.and_eq_true, Bool.or_eq_true, Int.not_lt, Int.not_le, reduceCtorEq] at hpk); (try (exfalso; first | exact hpk | omega | contradiction | exact (nomatch (hpk.symm.trans (by assumption) : true = false)) | exact (nomatch (hpk.symm.trans (by assumption) : false = true)))))))
      refine WL.facts (fun w h => own_slice' h) ?_
      rintro ⟨A', c', rfl⟩
      refine wl_store 1 rfl (by (first | (with_reducible first | exact ev_ | exact lk_ | exact get_ | exact evl_ | exact evp_) | exact rfl)) (by (first | (with_reducible first | exact ev_ | exact lk_ | exact get_ | exact evl_ | exact evp_) | exact rfl)) rfl (by simp) ?_
      simp only [List.set_cons_zero, List.set_cons_succ]
      repeat' (first | ((with_reducible first | refine wl_rd ?_ ?_ | refine ar_rd rfl ?_ ?_ | refine wl_rdN ?_ ?_); focus (first | exact trivial | omega | assumption)) | (with_reducible first  | (refine cs_seq ?_; intro _ hK) | apply cs_region | apply cs_block | apply cs_skip | apply cs_ret | apply cs_exit | apply cs_label | apply wl_nil | (apply ar_end; simp only [Made.all, List.map_cons, List.map_nil, List.cons_append, List.nil_append]) | (refine ks_then (by assumption) ?_)  | apply ks_thenRet | apply ks_thenExit | apply ks_blkRet | apply ks_blkNormal | apply ks_block | (apply ks_block' <;> (first | decide | skip))) | (first | ((with_reducible first | apply wl_guard | apply ar_guard); (focus rfl); (focus rfl); (focus decide); (focus exact lk_); all_goals ((intro hgd; (try simp only [decide_eq_true_eq, decide_eq_false_iff_not, Bool.not_true, Bool.not_false, Bool.not_eq_true', Bool.not_eq_false', Bool.and_eq_true, Bool.or_eq_true, Int.not_lt, Int.not_le, reduceCtorEq] at hgd); (try (exfalso; first | exact hgd | omega | contradiction | exact (nomatch (hgd.symm.trans (by assumption) : true = false)) | exact (nomatch (hgd.symm.trans (by assumption) : false = true))))); try simp only [updO_some, updO_none, List.cons_append, List.nil_append])) | ((with_reducible first | apply wl_guardU | apply ar_guardU); (focus rfl); (focus rfl); (focus decide); (focus exact lk_); all_goals (try simp only [updO_some, updO_none, List.cons_append, List.nil_append]))) | ((with_reducible refine cs_if ?_ ?_) <;> (intro hif; (try simp only [decide_eq_true_eq, decide_eq_false_iff_not, Bool.not_true, Bool.not_false, Bool.not_eq_true', Bool.not_eq_false', Bool.and_eq_true, Bool.or_eq_true, Int.not_lt, Int.not_le, reduceCtorEq] at hif); (try (exfalso; first | exact hif | omega | contradiction | exact (nomatch (hif.symm.trans (by assumption) : true = false)) | exact (nomatch (hif.symm.trans (by assumption) : false = true)))))) | ((with_reducible first | refine wl_pick ?_ ?_ | refine ar_pick rfl ?_ ?_) <;> (intro hpk; (try simp only [decide_eq_true_eq, decide_eq_false_iff_not, Bool.not_true, Bool.not_false, Bool.not_eq_true', Bool.not_eq_false', Bool.and_eq_true, Bool.or_eq_true, Int.not_lt, Int.not_le, reduceCtorEq] at hpk); (try (exfalso; first | exact hpk | omega | contradiction | exact (nomatch (hpk.symm.trans (by assumption) : true = false)) | exact (nomatch (hpk.symm.trans (by assumption) : false = true)))))))
      refine ks_ends (0, A', c', vals ++ List.replicate (l.natAbs + 1 - vals.length) 0) ⟨.inr ⟨_, rfl⟩, by simp; omega, by simp; omega⟩ (by (simp only [Slots, acts_tmp, acts_const, acts_func, acts_get, upd_apply, Nat.reduceEqDiff, Nat.reduceLT, Nat.reduceAdd, ↓reduceIte, and_self]; try simp)) (fun w h => ?_)
      have e : (vals ++ List.replicate (l.natAbs + 1 - vals.length) 0).length = vals.length + (l.natAbs + 1 - vals.length) := by simp
      have e2 : i8s (vals ++ List.replicate (l.natAbs + 1 - vals.length) 0) = i8s vals ++ List.replicate (l.natAbs + 1 - vals.length) (Value.int .i8 0) := by simp [i8s]
      simp only [e, e2]
      exact h.front 1 rfl
    · refine ks_ends (0, A, c, vals) ⟨.inl rfl, by show l.natAbs < vals.length; omega, by simpa using ok.len⟩ ?_ (fun w h => h)
      (simp only [Slots, acts_tmp, acts_const, acts_func, acts_get, upd_apply, Nat.reduceEqDiff, Nat.reduceLT, Nat.reduceAdd, ↓reduceIte, and_self]; try simp)
  · rintro ⟨_, A', c', ext⟩ g ⟨he, hlt, hle⟩
    simp only [upds, List.cons_append, List.nil_append] at he hlt hle ⊢
    repeat' (first | (((first | (with_reducible apply wl_read) | ((with_reducible apply ar_read); focus rfl)); focus (first | (first | ((with_reducible apply rd_load) <;> (first | (first | (with_reducible first | exact ev_ | exact lk_ | exact get_ | exact evl_ | exact evp_) | exact rfl) | exact cell_at 0 rfl rfl)) | ((with_reducible apply rd_ix) <;> (first | (first | (with_reducible first | exact ev_ | exact lk_ | exact get_ | exact evl_ | exact evp_) | exact rfl) | omega | exact Ent.at_ 1 rfl (fun h => own_reads) (fun _ _ => SlR.le)))))); simp only [updO_some, updO_none, List.cons_append, List.nil_append]) | ((with_reducible first | refine wl_rd ?_ ?_ | refine ar_rd rfl ?_ ?_ | refine wl_rdN ?_ ?_); focus (first | exact trivial | omega | assumption)) | (with_reducible first  | (refine cs_seq ?_; intro _ hK) | apply cs_region | apply cs_block | apply cs_skip | apply cs_ret | apply cs_exit | apply cs_label | apply wl_nil | (apply ar_end; simp only [Made.all, List.map_cons, List.map_nil, List.cons_append, List.nil_append]) | (refine ks_then (by assumption) ?_)  | apply ks_thenRet | apply ks_thenExit | apply ks_blkRet | apply ks_blkNormal | apply ks_block | (apply ks_block' <;> (first | decide | skip))) | (first | ((with_reducible first | apply wl_guard | apply ar_guard); (focus rfl); (focus rfl); (focus decide); (focus exact lk_); all_goals ((intro hgd; (try simp only [decide_eq_true_eq, decide_eq_false_iff_not, Bool.not_true, Bool.not_false, Bool.not_eq_true', Bool.not_eq_false', Bool.and_eq_true, Bool.or_eq_true, Int.not_lt, Int.not_le, reduceCtorEq] at hgd); (try (exfalso; first | exact hgd | omega | contradiction | exact (nomatch (hgd.symm.trans (by assumption) : true = false)) | exact (nomatch (hgd.symm.trans (by assumption) : false = true))))); try simp only [updO_some, updO_none, List.cons_append, List.nil_append])) | ((with_reducible first | apply wl_guardU | apply ar_guardU); (focus rfl); (focus rfl); (focus decide); (focus exact lk_); all_goals (try simp only [updO_some, updO_none, List.cons_append, List.nil_append]))) | ((with_reducible refine cs_if ?_ ?_) <;> (intro hif; (try simp only [decide_eq_true_eq, decide_eq_false_iff_not, Bool.not_true, Bool.not_false, Bool.not_eq_true', Bool.not_eq_false', Bool.and_eq_true, Bool.or_eq_true, Int.not_lt, Int.not_le, reduceCtorEq] at hif); (try (exfalso; first | exact hif | omega | contradiction | exact (nomatch (hif.symm.trans (by assumption) : true = false)) | exact (nomatch (hif.symm.trans (by assumption) : false = true)))))) | ((with_reducible first | refine wl_pick ?_ ?_ | refine ar_pick rfl ?_ ?_) <;> (intro hpk; (try simp only [decide_eq_true_eq, decide_eq_false_iff_not, Bool.not_true, Bool.not_false, Bool.not_eq_true', Bool.not_eq_false', Bool.and_eq_true, Bool.or_eq_true, Int.not_lt, Int.not_le, reduceCtorEq] at hpk); (try (exfalso; first | exact hpk | omega | contradiction | exact (nomatch (hpk.symm.trans (by assumption) : true = false)) | exact (nomatch (hpk.symm.trans (by assumption) : false = true)))))))
    have hlt' : ((l.natAbs : Int)).toNat < ext.length := by omega
    refine wl_storeRow 1 rfl (by (first | (with_reducible first | exact ev_ | exact lk_ | exact get_ | exact evl_ | exact evp_) | exact rfl)) (by (first | (with_reducible first | exact ev_ | exact lk_ | exact get_ | exact evl_ | exact evp_) | exact rfl)) rfl hlt' ?_
    simp only [List.set_cons_zero, List.set_cons_succ]
    have hx : (↑l.natAbs : Int).toNat = l.natAbs := by omega
    rw [hx]
    have fin : ∀ A3 c3 (ys : List Int), ys = ext.set l.natAbs (if l < 0 then -1 else 1) → ∀ w, Sat m ([HP.cells b 55 [mp, .int .i64 last, .int .i64 lits, .bool done, .slice A' ext.length c', .slice A3 (tr.length + 1) c3], HP.own 91 1 (.slice A' ext.length c') ext.length (i8s ys), HP.own 46 1 (.slice A3 (tr.length + 1) c3) (tr.length + 1) (l32 tr ++ [.int .i32 l])] ++ L) w → Sat m (HP.ck b mp last lits done (tr ++ [l]) :: L) w := by
      rintro A3 c3 ys rfl w h
      have ok' := ok.add hl hr hn ext he hlt hle
      refine Sat.mkCk (vv := .slice A' ext.length c') (tv := .slice A3 (tr.length + 1) c3) (nv := ext.length) (nt := tr.length + 1) ok' (by simp) (by simp) ?_
      rwa [show l32 (tr ++ [l]) = l32 tr ++ [.int .i32 l] by simp [l32]]
    have hs1 : ∀ (zs : List Int) (y : Int), (i8s zs).set l.natAbs (.int .i8 y) = i8s (zs.set l.natAbs y) := fun zs y => by simp [i8s, List.map_set]
    simp only [hs1]
    repeat' (first | (((first | (with_reducible apply wl_read) | ((with_reducible apply ar_read); focus rfl)); focus (first | (first | ((with_reducible apply rd_load) <;> (first | (first | (with_reducible first | exact ev_ | exact lk_ | exact get_ | exact evl_ | exact evp_) | exact rfl) | exact cell_at 0 rfl rfl)) | ((with_reducible apply rd_ix) <;> (first | (first | (with_reducible first | exact ev_ | exact lk_ | exact get_ | exact evl_ | exact evp_) | exact rfl) | omega | exact Ent.at_ 1 rfl (fun h => own_reads) (fun _ _ => SlR.le)))))); simp only [updO_some, updO_none, List.cons_append, List.nil_append]) | ((with_reducible first | refine wl_rd ?_ ?_ | refine ar_rd rfl ?_ ?_ | refine wl_rdN ?_ ?_); focus (first | exact trivial | omega | assumption)) | (with_reducible first  | (refine cs_seq ?_; intro _ hK) | apply cs_region | apply cs_block | apply cs_skip | apply cs_ret | apply cs_exit | apply cs_label | apply wl_nil | (apply ar_end; simp only [Made.all, List.map_cons, List.map_nil, List.cons_append, List.nil_append]) | (refine ks_then (by assumption) ?_)  | apply ks_thenRet | apply ks_thenExit | apply ks_blkRet | apply ks_blkNormal | apply ks_block | (apply ks_block' <;> (first | decide | skip))) | (first | ((with_reducible first | apply wl_guard | apply ar_guard); (focus rfl); (focus rfl); (focus decide); (focus exact lk_); all_goals ((intro hgd; (try simp only [decide_eq_true_eq, decide_eq_false_iff_not, Bool.not_true, Bool.not_false, Bool.not_eq_true', Bool.not_eq_false', Bool.and_eq_true, Bool.or_eq_true, Int.not_lt, Int.not_le, reduceCtorEq] at hgd); (try (exfalso; first | exact hgd | omega | contradiction | exact (nomatch (hgd.symm.trans (by assumption) : true = false)) | exact (nomatch (hgd.symm.trans (by assumption) : false = true))))); try simp only [updO_some, updO_none, List.cons_append, List.nil_append])) | ((with_reducible first | apply wl_guardU | apply ar_guardU); (focus rfl); (focus rfl); (focus decide); (focus exact lk_); all_goals (try simp only [updO_some, updO_none, List.cons_append, List.nil_append]))) | ((with_reducible refine cs_if ?_ ?_) <;> (intro hif; (try simp only [decide_eq_true_eq, decide_eq_false_iff_not, Bool.not_true, Bool.not_false, Bool.not_eq_true', Bool.not_eq_false', Bool.and_eq_true, Bool.or_eq_true, Int.not_lt, Int.not_le, reduceCtorEq] at hif); (try (exfalso; first | exact hif | omega | contradiction | exact (nomatch (hif.symm.trans (by assumption) : true = false)) | exact (nomatch (hif.symm.trans (by assumption) : false = true)))))) | ((with_reducible first | refine wl_pick ?_ ?_ | refine ar_pick rfl ?_ ?_) <;> (intro hpk; (try simp only [decide_eq_true_eq, decide_eq_false_iff_not, Bool.not_true, Bool.not_false, Bool.not_eq_true', Bool.not_eq_false', Bool.and_eq_true, Bool.or_eq_true, Int.not_lt, Int.not_le, reduceCtorEq] at hpk); (try (exfalso; first | exact hpk | omega | contradiction | exact (nomatch (hpk.symm.trans (by assumption) : true = false)) | exact (nomatch (hpk.symm.trans (by assumption) : false = true)))))))
    · rw [hx]
      refine wl_storeRow 1 rfl (by (first | (with_reducible first | exact ev_ | exact lk_ | exact get_ | exact evl_ | exact evp_) | exact rfl)) (by (first | (with_reducible first | exact ev_ | exact lk_ | exact get_ | exact evl_ | exact evp_) | exact rfl)) rfl (by simpa using hlt) ?_
      simp only [List.set_cons_zero, List.set_cons_succ]
      simp only [hs1]
      repeat' (first | (((first | (with_reducible apply wl_read) | ((with_reducible apply ar_read); focus rfl)); focus (first | (first | ((with_reducible apply rd_load) <;> (first | (first | (with_reducible first | exact ev_ | exact lk_ | exact get_ | exact evl_ | exact evp_) | exact rfl) | exact cell_at 0 rfl rfl)) | ((with_reducible apply rd_ix) <;> (first | (first | (with_reducible first | exact ev_ | exact lk_ | exact get_ | exact evl_ | exact evp_) | exact rfl) | omega | exact Ent.at_ 1 rfl (fun h => own_reads) (fun _ _ => SlR.le)))))); simp only [updO_some, updO_none, List.cons_append, List.nil_append]) | ((with_reducible first | refine wl_rd ?_ ?_ | refine ar_rd rfl ?_ ?_ | refine wl_rdN ?_ ?_); focus (first | exact trivial | omega | assumption)) | (with_reducible first  | (refine cs_seq ?_; intro _ hK) | apply cs_region | apply cs_block | apply cs_skip | apply cs_ret | apply cs_exit | apply cs_label | apply wl_nil | (apply ar_end; simp only [Made.all, List.map_cons, List.map_nil, List.cons_append, List.nil_append]) | (refine ks_then (by assumption) ?_)  | apply ks_thenRet | apply ks_thenExit | apply ks_blkRet | apply ks_blkNormal | apply ks_block | (apply ks_block' <;> (first | decide | skip))) | (first | ((with_reducible first | apply wl_guard | apply ar_guard); (focus rfl); (focus rfl); (focus decide); (focus exact lk_); all_goals ((intro hgd; (try simp only [decide_eq_true_eq, decide_eq_false_iff_not, Bool.not_true, Bool.not_false, Bool.not_eq_true', Bool.not_eq_false', Bool.and_eq_true, Bool.or_eq_true, Int.not_lt, Int.not_le, reduceCtorEq] at hgd); (try (exfalso; first | exact hgd | omega | contradiction | exact (nomatch (hgd.symm.trans (by assumption) : true = false)) | exact (nomatch (hgd.symm.trans (by assumption) : false = true))))); try simp only [updO_some, updO_none, List.cons_append, List.nil_append])) | ((with_reducible first | apply wl_guardU | apply ar_guardU); (focus rfl); (focus rfl); (focus decide); (focus exact lk_); all_goals (try simp only [updO_some, updO_none, List.cons_append, List.nil_append]))) | ((with_reducible refine cs_if ?_ ?_) <;> (intro hif; (try simp only [decide_eq_true_eq, decide_eq_false_iff_not, Bool.not_true, Bool.not_false, Bool.not_eq_true', Bool.not_eq_false', Bool.and_eq_true, Bool.or_eq_true, Int.not_lt, Int.not_le, reduceCtorEq] at hif); (try (exfalso; first | exact hif | omega | contradiction | exact (nomatch (hif.symm.trans (by assumption) : true = false)) | exact (nomatch (hif.symm.trans (by assumption) : false = true)))))) | ((with_reducible first | refine wl_pick ?_ ?_ | refine ar_pick rfl ?_ ?_) <;> (intro hpk; (try simp only [decide_eq_true_eq, decide_eq_false_iff_not, Bool.not_true, Bool.not_false, Bool.not_eq_true', Bool.not_eq_false', Bool.and_eq_true, Bool.or_eq_true, Int.not_lt, Int.not_le, reduceCtorEq] at hpk); (try (exfalso; first | exact hpk | omega | contradiction | exact (nomatch (hpk.symm.trans (by assumption) : true = false)) | exact (nomatch (hpk.symm.trans (by assumption) : false = true)))))))
      refine wl_buildSlice [.int .i32 l] (by exact evp_) (fill1 rfl rfl) (by decide) (fun b' => ?_)
      simp only [updO_some, updO_none, List.cons_append, List.nil_append]
      refine wl_append (j := 1) 3 [.int .i32 l] rfl (by (first | (with_reducible first | exact ev_ | exact lk_ | exact get_ | exact evl_ | exact evp_) | exact rfl)) (by (first | (with_reducible first | exact ev_ | exact lk_ | exact get_ | exact evl_ | exact evp_) | exact rfl)) (Ent.at_ 0 rfl (fun h hh => (cells_reads (len := 1) rfl (by decide) h hh).toN) fun _ _ => SlN.le) (by simp; rfl) (by have := ok.length; omega) (fun v' => ?_)
      simp only [List.set_cons_zero, List.set_cons_succ]
      simp only [updO_some, updO_none, List.cons_append, List.nil_append]
      repeat' (first | (((first | (with_reducible apply wl_read) | ((with_reducible apply ar_read); focus rfl)); focus (first | (first | ((with_reducible apply rd_load) <;> (first | (first | (with_reducible first | exact ev_ | exact lk_ | exact get_ | exact evl_ | exact evp_) | exact rfl) | exact cell_at 1 rfl rfl))))); simp only [updO_some, updO_none, List.cons_append, List.nil_append]) | ((with_reducible first | refine wl_rd ?_ ?_ | refine ar_rd rfl ?_ ?_ | refine wl_rdN ?_ ?_); focus (first | exact trivial | omega | assumption)) | (with_reducible first  | (refine cs_seq ?_; intro _ hK) | apply cs_region | apply cs_block | apply cs_skip | apply cs_ret | apply cs_exit | apply cs_label | apply wl_nil | (apply ar_end; simp only [Made.all, List.map_cons, List.map_nil, List.cons_append, List.nil_append]) | (refine ks_then (by assumption) ?_)  | apply ks_thenRet | apply ks_thenExit | apply ks_blkRet | apply ks_blkNormal | apply ks_block | (apply ks_block' <;> (first | decide | skip))) | (first | ((with_reducible first | apply wl_guard | apply ar_guard); (focus rfl); (focus rfl); (focus decide); (focus exact lk_); all_goals ((intro hgd; (try simp only [decide_eq_true_eq, decide_eq_false_iff_not, Bool.not_true, Bool.not_false, Bool.not_eq_true', Bool.not_eq_false', Bool.and_eq_true, Bool.or_eq_true, Int.not_lt, Int.not_le, reduceCtorEq] at hgd); (try (exfalso; first | exact hgd | omega | contradiction | exact (nomatch (hgd.symm.trans (by assumption) : true = false)) | exact (nomatch (hgd.symm.trans (by assumption) : false = true))))); try simp only [updO_some, updO_none, List.cons_append, List.nil_append])) | ((with_reducible first | apply wl_guardU | apply ar_guardU); (focus rfl); (focus rfl); (focus decide); (focus exact lk_); all_goals (try simp only [updO_some, updO_none, List.cons_append, List.nil_append]))) | ((with_reducible refine cs_if ?_ ?_) <;> (intro hif; (try simp only [decide_eq_true_eq, decide_eq_false_iff_not, Bool.not_true, Bool.not_false, Bool.not_eq_true', Bool.not_eq_false', Bool.and_eq_true, Bool.or_eq_true, Int.not_lt, Int.not_le, reduceCtorEq] at hif); (try (exfalso; first | exact hif | omega | contradiction | exact (nomatch (hif.symm.trans (by assumption) : true = false)) | exact (nomatch (hif.symm.trans (by assumption) : false = true)))))) | ((with_reducible first | refine wl_pick ?_ ?_ | refine ar_pick rfl ?_ ?_) <;> (intro hpk; (try simp only [decide_eq_true_eq, decide_eq_false_iff_not, Bool.not_true, Bool.not_false, Bool.not_eq_true', Bool.not_eq_false', Bool.and_eq_true, Bool.or_eq_true, Int.not_lt, Int.not_le, reduceCtorEq] at hpk); (try (exfalso; first | exact hpk | omega | contradiction | exact (nomatch (hpk.symm.trans (by assumption) : true = false)) | exact (nomatch (hpk.symm.trans (by assumption) : false = true)))))))
      refine WL.facts (fun w h => own_slice' (h.front 3 rfl)) ?_
      rintro ⟨A3, c3, rfl⟩
      refine wl_store 1 rfl (by (first | (with_reducible first | exact ev_ | exact lk_ | exact get_ | exact evl_ | exact evp_) | exact rfl)) (by (first | (with_reducible first | exact ev_ | exact lk_ | exact get_ | exact evl_ | exact evp_) | exact rfl)) rfl (by simp) ?_
      simp only [List.set_cons_zero, List.set_cons_succ]
      repeat' (first | ((with_reducible first | refine wl_rd ?_ ?_ | refine ar_rd rfl ?_ ?_ | refine wl_rdN ?_ ?_); focus (first | exact trivial | omega | assumption)) | (with_reducible first  | (refine cs_seq ?_; intro _ hK) | apply cs_region | apply cs_block | apply cs_skip | apply cs_ret | apply cs_exit | apply cs_label | apply wl_nil | (apply ar_end; simp only [Made.all, List.map_cons, List.map_nil, List.cons_append, List.nil_append]) | (refine ks_then (by assumption) ?_)  | apply ks_thenRet | apply ks_thenExit | apply ks_blkRet | apply ks_blkNormal | apply ks_block | (apply ks_block' <;> (first | decide | skip))) | (first | ((with_reducible first | apply wl_guard | apply ar_guard); (focus rfl); (focus rfl); (focus decide); (focus exact lk_); all_goals ((intro hgd; (try simp only [decide_eq_true_eq, decide_eq_false_iff_not, Bool.not_true, Bool.not_false, Bool.not_eq_true', Bool.not_eq_false', Bool.and_eq_true, Bool.or_eq_true, Int.not_lt, Int.not_le, reduceCtorEq] at hgd); (try (exfalso; first | exact hgd | omega | contradiction | exact (nomatch (hgd.symm.trans (by assumption) : true = false)) | exact (nomatch (hgd.symm.trans (by assumption) : false = true))))); try simp only [updO_some, updO_none, List.cons_append, List.nil_append])) | ((with_reducible first | apply wl_guardU | apply ar_guardU); (focus rfl); (focus rfl); (focus decide); (focus exact lk_); all_goals (try simp only [updO_some, updO_none, List.cons_append, List.nil_append]))) | ((with_reducible refine cs_if ?_ ?_) <;> (intro hif; (try simp only [decide_eq_true_eq, decide_eq_false_iff_not, Bool.not_true, Bool.not_false, Bool.not_eq_true', Bool.not_eq_false', Bool.and_eq_true, Bool.or_eq_true, Int.not_lt, Int.not_le, reduceCtorEq] at hif); (try (exfalso; first | exact hif | omega | contradiction | exact (nomatch (hif.symm.trans (by assumption) : true = false)) | exact (nomatch (hif.symm.trans (by assumption) : false = true)))))) | ((with_reducible first | refine wl_pick ?_ ?_ | refine ar_pick rfl ?_ ?_) <;> (intro hpk; (try simp only [decide_eq_true_eq, decide_eq_false_iff_not, Bool.not_true, Bool.not_false, Bool.not_eq_true', Bool.not_eq_false', Bool.and_eq_true, Bool.or_eq_true, Int.not_lt, Int.not_le, reduceCtorEq] at hpk); (try (exfalso; first | exact hpk | omega | contradiction | exact (nomatch (hpk.symm.trans (by assumption) : true = false)) | exact (nomatch (hpk.symm.trans (by assumption) : false = true)))))))
      exact fp_end rfl fun w h => ⟨rfl, fin A3 c3 _ (by rw [if_pos (by assumption), List.set_set]) w (h.drop)⟩
    · refine wl_buildSlice [.int .i32 l] (by exact evp_) (fill1 rfl rfl) (by decide) (fun b' => ?_)
      simp only [updO_some, updO_none, List.cons_append, List.nil_append]
      refine wl_append (j := 1) 3 [.int .i32 l] rfl (by (first | (with_reducible first | exact ev_ | exact lk_ | exact get_ | exact evl_ | exact evp_) | exact rfl)) (by (first | (with_reducible first | exact ev_ | exact lk_ | exact get_ | exact evl_ | exact evp_) | exact rfl)) (Ent.at_ 0 rfl (fun h hh => (cells_reads (len := 1) rfl (by decide) h hh).toN) fun _ _ => SlN.le) (by simp; rfl) (by have := ok.length; omega) (fun v' => ?_)
      simp only [List.set_cons_zero, List.set_cons_succ]
      simp only [updO_some, updO_none, List.cons_append, List.nil_append]
      repeat' (first | (((first | (with_reducible apply wl_read) | ((with_reducible apply ar_read); focus rfl)); focus (first | (first | ((with_reducible apply rd_load) <;> (first | (first | (with_reducible first | exact ev_ | exact lk_ | exact get_ | exact evl_ | exact evp_) | exact rfl) | exact cell_at 1 rfl rfl))))); simp only [updO_some, updO_none, List.cons_append, List.nil_append]) | ((with_reducible first | refine wl_rd ?_ ?_ | refine ar_rd rfl ?_ ?_ | refine wl_rdN ?_ ?_); focus (first | exact trivial | omega | assumption)) | (with_reducible first  | (refine cs_seq ?_; intro _ hK) | apply cs_region | apply cs_block | apply cs_skip | apply cs_ret | apply cs_exit | apply cs_label | apply wl_nil | (apply ar_end; simp only [Made.all, List.map_cons, List.map_nil, List.cons_append, List.nil_append]) | (refine ks_then (by assumption) ?_)  | apply ks_thenRet | apply ks_thenExit | apply ks_blkRet | apply ks_blkNormal | apply ks_block | (apply ks_block' <;> (first | decide | skip))) | (first | ((with_reducible first | apply wl_guard | apply ar_guard); (focus rfl); (focus rfl); (focus decide); (focus exact lk_); all_goals ((intro hgd; (try simp only [decide_eq_true_eq, decide_eq_false_iff_not, Bool.not_true, Bool.not_false, Bool.not_eq_true', Bool.not_eq_false', Bool.and_eq_true, Bool.or_eq_true, Int.not_lt, Int.not_le, reduceCtorEq] at hgd); (try (exfalso; first | exact hgd | omega | contradiction | exact (nomatch (hgd.symm.trans (by assumption) : true = false)) | exact (nomatch (hgd.symm.trans (by assumption) : false = true))))); try simp only [updO_some, updO_none, List.cons_append, List.nil_append])) | ((with_reducible first | apply wl_guardU | apply ar_guardU); (focus rfl); (focus rfl); (focus decide); (focus exact lk_); all_goals (try simp only [updO_some, updO_none, List.cons_append, List.nil_append]))) | ((with_reducible refine cs_if ?_ ?_) <;> (intro hif; (try simp only [decide_eq_true_eq, decide_eq_false_iff_not, Bool.not_true, Bool.not_false, Bool.not_eq_true', Bool.not_eq_false', Bool.and_eq_true, Bool.or_eq_true, Int.not_lt, Int.not_le, reduceCtorEq] at hif); (try (exfalso; first | exact hif | omega | contradiction | exact (nomatch (hif.symm.trans (by assumption) : true = false)) | exact (nomatch (hif.symm.trans (by assumption) : false = true)))))) | ((with_reducible first | refine wl_pick ?_ ?_ | refine ar_pick rfl ?_ ?_) <;> (intro hpk; (try simp only [decide_eq_true_eq, decide_eq_false_iff_not, Bool.not_true, Bool.not_false, Bool.not_eq_true', Bool.not_eq_false', Bool.and_eq_true, Bool.or_eq_true, Int.not_lt, Int.not_le, reduceCtorEq] at hpk); (try (exfalso; first | exact hpk | omega | contradiction | exact (nomatch (hpk.symm.trans (by assumption) : true = false)) | exact (nomatch (hpk.symm.trans (by assumption) : false = true)))))))
      refine WL.facts (fun w h => own_slice' (h.front 3 rfl)) ?_
      rintro ⟨A3, c3, rfl⟩
      refine wl_store 1 rfl (by (first | (with_reducible first | exact ev_ | exact lk_ | exact get_ | exact evl_ | exact evp_) | exact rfl)) (by (first | (with_reducible first | exact ev_ | exact lk_ | exact get_ | exact evl_ | exact evp_) | exact rfl)) rfl (by simp) ?_
      simp only [List.set_cons_zero, List.set_cons_succ]
      repeat' (first | ((with_reducible first | refine wl_rd ?_ ?_ | refine ar_rd rfl ?_ ?_ | refine wl_rdN ?_ ?_); focus (first | exact trivial | omega | assumption)) | (with_reducible first  | (refine cs_seq ?_; intro _ hK) | apply cs_region | apply cs_block | apply cs_skip | apply cs_ret | apply cs_exit | apply cs_label | apply wl_nil | (apply ar_end; simp only [Made.all, List.map_cons, List.map_nil, List.cons_append, List.nil_append]) | (refine ks_then (by assumption) ?_)  | apply ks_thenRet | apply ks_thenExit | apply ks_blkRet | apply ks_blkNormal | apply ks_block | (apply ks_block' <;> (first | decide | skip))) | (first | ((with_reducible first | apply wl_guard | apply ar_guard); (focus rfl); (focus rfl); (focus decide); (focus exact lk_); all_goals ((intro hgd; (try simp only [decide_eq_true_eq, decide_eq_false_iff_not, Bool.not_true, Bool.not_false, Bool.not_eq_true', Bool.not_eq_false', Bool.and_eq_true, Bool.or_eq_true, Int.not_lt, Int.not_le, reduceCtorEq] at hgd); (try (exfalso; first | exact hgd | omega | contradiction | exact (nomatch (hgd.symm.trans (by assumption) : true = false)) | exact (nomatch (hgd.symm.trans (by assumption) : false = true))))); try simp only [updO_some, updO_none, List.cons_append, List.nil_append])) | ((with_reducible first | apply wl_guardU | apply ar_guardU); (focus rfl); (focus rfl); (focus decide); (focus exact lk_); all_goals (try simp only [updO_some, updO_none, List.cons_append, List.nil_append]))) | ((with_reducible refine cs_if ?_ ?_) <;> (intro hif; (try simp only [decide_eq_true_eq, decide_eq_false_iff_not, Bool.not_true, Bool.not_false, Bool.not_eq_true', Bool.not_eq_false', Bool.and_eq_true, Bool.or_eq_true, Int.not_lt, Int.not_le, reduceCtorEq] at hif); (try (exfalso; first | exact hif | omega | contradiction | exact (nomatch (hif.symm.trans (by assumption) : true = false)) | exact (nomatch (hif.symm.trans (by assumption) : false = true)))))) | ((with_reducible first | refine wl_pick ?_ ?_ | refine ar_pick rfl ?_ ?_) <;> (intro hpk; (try simp only [decide_eq_true_eq, decide_eq_false_iff_not, Bool.not_true, Bool.not_false, Bool.not_eq_true', Bool.not_eq_false', Bool.and_eq_true, Bool.or_eq_true, Int.not_lt, Int.not_le, reduceCtorEq] at hpk); (try (exfalso; first | exact hpk | omega | contradiction | exact (nomatch (hpk.symm.trans (by assumption) : true = false)) | exact (nomatch (hpk.symm.trans (by assumption) : false = true)))))))
      exact fp_end rfl fun w h => ⟨rfl, fin A3 c3 _ (by rw [if_neg (by omega)]) w (h.drop)⟩
end Go.Proofs.Ytkpkehfoilchaaa
