/- Why a clause does not follow: follows. -/
import Derived.Test.YtkpkehfoilchaaaCk14
import Derived.Test.YtkpkehfoilchaaaAut2
namespace Go.Proofs.Ytkpkehfoilchaaa
open Go.RowKit
set_option linter.unusedSimpArgs false
set_option linter.unusedVariables false
set_option maxHeartbeats 1000000
attribute [local irreducible] WL AR CS KS wpList
variable {m : Meta} {L : List HP}
/-! ### clauses in order -/
theorem keepF_strict (p : Int) : ∀ l : List Int, SortedK (p :: l) → (keepF p l).Pairwise (fun x y => keyL x < keyL y) ∧ ∀ x ∈ keepF p l, keyL p < keyL x
  | [], _ => by simp [keepF]
  | y :: r, h => by
    have h1 := List.pairwise_cons.1 h
    have h2 := List.pairwise_cons.1 h1.2
    unfold keepF
    split
    · rename_i e
      subst e
      exact keepF_strict y r h1.2
    · rename_i hne
      have hlt : keyL p < keyL y := Nat.lt_of_le_of_ne (h1.1 y (by simp)) (fun e => hne (keyL_inj e).symm)
      have ih := keepF_strict y r h1.2
      refine ⟨List.pairwise_cons.2 ⟨ih.2, ih.1⟩, fun x hx => ?_⟩
      rcases List.mem_cons.1 hx with rfl | hx
      · exact hlt
      · exact Nat.lt_trans hlt (ih.2 x hx)
theorem normF_strict (c : List Int) : (normF c).Pairwise fun x y => keyL x < keyL y := by
  have hs := sortK_sorted c
  unfold normF
  cases h : sortK c with
  | nil => simp [dedupF]
  | cons y r =>
    rw [h] at hs
    have := keepF_strict y r hs
    exact List.pairwise_cons.2 ⟨this.2, this.1⟩
theorem abs_strict : ∀ l : List Int, (∀ x ∈ l, x ≠ 0) → (l.Pairwise fun x y => keyL x < keyL y) → bothF l = false → l.Pairwise fun x y => x.natAbs < y.natAbs
  | [], _, _, _ => List.Pairwise.nil
  | [x], _, _, _ => by simp
  | x :: y :: r, h0, hp, hb => by
    have h1 := List.pairwise_cons.1 hp
    simp only [bothF, Bool.or_eq_false_iff] at hb
    have ih := abs_strict (y :: r) (fun z hz => h0 z (by simp [hz])) h1.2 hb.2
    have hy0 := h0 y (by simp)
    have hx0 := h0 x (by simp)
    have hxy : x.natAbs < y.natAbs := by
      have hk := h1.1 y (by simp)
      unfold keyL at hk
      rcases Nat.lt_or_ge x.natAbs y.natAbs with h | h
      · exact h
      · exfalso
        have hb1 := hb.1
        simp only [Bool.and_eq_false_iff, decide_eq_false_iff_not] at hb1
        split at hk <;> split at hk <;> omega
    refine List.pairwise_cons.2 ⟨fun z hz => ?_, ih⟩
    rcases List.mem_cons.1 hz with rfl | hz
    · exact hxy
    · exact Nat.lt_trans hxy ((List.pairwise_cons.1 ih).1 z hz)
theorem neg_not_mem {set : List Int} (hp : set.Pairwise fun x y => x.natAbs < y.natAbs) (i : Nat) (hi : i < set.length) : (-(set.getD i 0)).natAbs ∉ ((set.take i).map fun x => -x).map Int.natAbs := by
  intro hm
  obtain ⟨y, hy, e⟩ := List.mem_map.1 hm
  obtain ⟨z, hz, rfl⟩ := List.mem_map.1 hy
  obtain ⟨j, hj, hjz⟩ := List.mem_iff_getElem.1 hz
  have hjl : j < i := by simp at hj; omega
  have := List.pairwise_iff_getElem.1 hp j i (by omega) hi hjl
  rw [List.getElem_take] at hjz
  rw [List.getD_eq_getElem?_getD, List.getElem?_eq_getElem hi, Option.getD_some] at e
  omega

/-! ### what it means -/
/-- What a clause that is taken comes to. -/
def FolOk (D : Dt) (l : List Int) : Prop := (∀ μ, SatD μ D → SatC μ l) ∨ (l ≠ [] ∧ ∀ μ, SatD μ D → ∃ μ', SatD μ' D ∧ SatC μ' l)
theorem sv_flip (μ : Nat → Bool) (p x : Int) (hx : x ≠ 0) (hp : p ≠ 0) : sv (fun v => if v = p.natAbs then decide (0 < p) else μ v) x = if x = p then true else if x = -p then false else sv μ x := by
  unfold sv
  by_cases h : x.natAbs = p.natAbs
  · have : x = p ∨ x = -p := by omega
    rcases this with rfl | rfl
    · rcases Int.lt_or_gt_of_ne hp with h1 | h1
      · simp [h1, show ¬ 0 < x by omega]
      · simp [h1, show ¬ x < 0 by omega]
    · have h2 : ¬ (-p = p) := by omega
      rcases Int.lt_or_gt_of_ne hp with h1 | h1
      · simp [h2, show ¬ 0 < p by omega, show ¬ -p < 0 by omega]
      · simp [h2, h1]
  · have h1 : x ≠ p := fun e => h (by rw [e])
    have h2 : x ≠ -p := fun e => h (by rw [e]; simp)
    simp [h, h1, h2]
theorem satTr_neg {μ : Nat → Bool} {set : List Int} (h0 : ∀ x ∈ set, x ≠ 0) (hn : ¬ SatC μ set) : SatTr μ (set.map fun x => -x) := by
  intro x hx
  obtain ⟨y, hy, rfl⟩ := List.mem_map.1 hx
  rw [sv_neg _ _ (h0 y hy)]
  cases h : sv μ y with
  | true => exact absurd ⟨y, hy, h⟩ hn
  | false => rfl
theorem throughF_tr {μ : Nat → Bool} {D : Dt} (hD : ∀ x ∈ D, LitsOk x.2.set) (hd : SatD μ D) : ∀ (hints : List Int) (tr : List Int), SatTr μ tr → SatTr μ (throughF D tr hints).2
  | [], tr, ht => by simpa [throughF] using ht
  | id :: r, tr, ht => by
    have h1 := oneF_sound hD hd ht id
    unfold throughF
    split
    · exact throughF_tr hD hd r _ h1.2
    · exact h1.2
theorem fol_both {D : Dt} {l : List Int} (h0 : ∀ x ∈ l, x ≠ 0) (hb : bothF (normF l) = true) : FolOk D l := by
  obtain ⟨x, hx, hnx⟩ := both_mem _ hb
  have hx' := (normF_mem l x).1 hx
  refine .inl fun μ _ => ?_
  cases h : sv μ x with
  | true => exact ⟨x, hx', h⟩
  | false => exact ⟨-x, (normF_mem l _).1 hnx, by rw [sv_neg _ _ (h0 x hx'), h]; rfl⟩
theorem satC_norm {μ : Nat → Bool} {l : List Int} : SatC μ (normF l) ↔ SatC μ l := by
  unfold SatC
  simp only [normF_mem]
theorem fol_conflict {D : Dt} (hD : ∀ x ∈ D, LitsOk x.2.set) {l hints : List Int} (h0 : ∀ x ∈ l, x ≠ 0) (h : (throughF D ((normF l).map fun x => -x) hints).1 = 1) : FolOk D l := by
  refine .inl fun μ hμ => ?_
  apply Classical.byContradiction
  intro hn
  have h0' : ∀ x ∈ normF l, x ≠ 0 := fun x hx => h0 x ((normF_mem l x).1 hx)
  exact throughF_sound hD hμ hints _ (satTr_neg h0' fun h => hn (satC_norm.1 h)) h
theorem fol_groups {D : Dt} (hD : ∀ x ∈ D, LitsOk x.2.set) {l hints : List Int} (h0 : ∀ x ∈ l, x ≠ 0) (hl : l ≠ []) (h : RatAll D (throughF D ((normF l).map fun x => -x) hints).2 (l.getD 0 0)) : FolOk D l := by
  have h0' : ∀ x ∈ normF l, x ≠ 0 := fun x hx => h0 x ((normF_mem l x).1 hx)
  have hpm : l.getD 0 0 ∈ l := by cases l with
    | nil => exact absurd rfl hl
    | cons a r => simp
  have hp0 := h0 _ hpm
  generalize l.getD 0 0 = p at h hpm hp0
  refine .inr ⟨hl, fun μ hμ => ?_⟩
  by_cases hc : SatC μ l
  · exact ⟨μ, hμ, hc⟩
  · have ht := throughF_tr hD hμ hints _ (satTr_neg h0' fun h => hc (satC_norm.1 h))
    refine ⟨_, ?_, ⟨p, hpm, by rw [sv_flip μ p p hp0 hp0]; simp⟩⟩
    intro x hx
    by_cases hm : -p ∈ x.2.set
    · obtain ⟨y, hy, hyp, hyv⟩ := h x hx hm μ hμ ht
      refine ⟨y, hy, ?_⟩
      rw [sv_flip μ p y ((hD x hx).ok y hy).1 hp0]
      rcases hyv with hyv | rfl
      · by_cases e : y = p
        · simp [e]
        · simp [e, hyp, hyv]
      · simp
    · obtain ⟨y, hy, hyv⟩ := hμ x hx
      refine ⟨y, hy, ?_⟩
      rw [sv_flip μ p y ((hD x hx).ok y hy).1 hp0]
      have hyp : y ≠ -p := fun e => hm (e ▸ hy)
      by_cases e : y = p
      · simp [e]
      · simp [e, hyp, hyv]

/-! ### the walk -/
theorem TriD.pre {P : Program} {g : FuncId} {args : Array Value} {Post : Value → World → Prop} {L L' : List HP} (T : TriD P m g args L Post) (h : ∀ w, Sat m L' w → Sat m L w) : TriD P m g args L' Post := fun u w hw => T u w (h w hw)
theorem follows1_trid (b mb bx tb : Nat) (last lits : Int) (done : Bool) (tr : List Int) :
    TriD Try.prog m 35 #[.pointer (some ⟨bx, 0, none⟩)] (HP.ck b (.map (some mb)) last lits done tr :: HP.cells bx tb [.pointer (some ⟨b, 0, none⟩)] :: L) fun v w => Sat m (HP.ck b (.map (some mb)) last lits done [] :: L) w := by
  refine trid_enter (n := _) Try.func35 rfl Try.ntmps35 rfl ?_; simp only [argEnv, Nat.reduceAdd]
  repeat' (first | ((with_reducible first | refine wl_rd ?_ ?_ | refine ar_rd rfl ?_ ?_ | refine wl_rdN ?_ ?_ | refine wl_st ?_ ?_ | refine wl_rdS ?_ ?_ | refine ar_rdS rfl ?_ ?_); focus (first | exact trivial | omega | assumption)) | (with_reducible first  | (refine cs_seq ?_; intro _ hK) | apply cs_region | apply cs_block | apply cs_skip | apply cs_ret | apply cs_exit | apply cs_label | apply wl_nil | (apply ar_end; simp only [Made.all, List.map_cons, List.map_nil, List.cons_append, List.nil_append]) | (refine ks_then (by assumption) ?_)  | apply ks_thenRet | apply ks_thenExit | apply ks_blkRet | apply ks_blkNormal | apply ks_block | (apply ks_block' <;> (first | decide | skip))) | (first | ((with_reducible first | apply wl_guard | apply ar_guard); (focus rfl); (focus rfl); (focus decide); (focus exact lk_); all_goals ((intro hgd; (try simp only [decide_eq_true_eq, decide_eq_false_iff_not, Bool.not_true, Bool.not_false, Bool.not_eq_true', Bool.not_eq_false', Bool.and_eq_true, Bool.or_eq_true, Int.not_lt, Int.not_le, reduceCtorEq] at hgd); (try (exfalso; first | exact hgd | omega | contradiction | exact (nomatch (hgd.symm.trans (by assumption) : true = false)) | exact (nomatch (hgd.symm.trans (by assumption) : false = true))))); try simp only [updO_some, updO_none, List.cons_append, List.nil_append])) | ((with_reducible first | apply wl_guardU | apply ar_guardU); (focus rfl); (focus rfl); (focus decide); (focus exact lk_); all_goals (try simp only [updO_some, updO_none, List.cons_append, List.nil_append]))) | ((with_reducible refine cs_if ?_ ?_) <;> (intro hif; (try simp only [decide_eq_true_eq, decide_eq_false_iff_not, Bool.not_true, Bool.not_false, Bool.not_eq_true', Bool.not_eq_false', Bool.and_eq_true, Bool.or_eq_true, Int.not_lt, Int.not_le, reduceCtorEq] at hif); (try (exfalso; first | exact hif | omega | contradiction | exact (nomatch (hif.symm.trans (by assumption) : true = false)) | exact (nomatch (hif.symm.trans (by assumption) : false = true)))))) | ((with_reducible first | refine wl_pick ?_ ?_ | refine ar_pick rfl ?_ ?_) <;> (intro hpk; (try simp only [decide_eq_true_eq, decide_eq_false_iff_not, Bool.not_true, Bool.not_false, Bool.not_eq_true', Bool.not_eq_false', Bool.and_eq_true, Bool.or_eq_true, Int.not_lt, Int.not_le, reduceCtorEq] at hpk); (try (exfalso; first | exact hpk | omega | contradiction | exact (nomatch (hpk.symm.trans (by assumption) : true = false)) | exact (nomatch (hpk.symm.trans (by assumption) : false = true)))))) | (with_reducible first | refine wl_mapSet ?_ | (refine wl_mkMap ?_; intro bm) | (refine wl_boxC ?_; intro bx) | (refine wl_allocC ?_; intro ba)))
  (refine wl_callM (back_tri b _ last lits done tr 0 (by simp)) rfl ?_; simp only [updO_some, updO_none, List.cons_append, List.nil_append])
  repeat' (first | ((with_reducible first | refine wl_rd ?_ ?_ | refine ar_rd rfl ?_ ?_ | refine wl_rdN ?_ ?_ | refine wl_st ?_ ?_ | refine wl_rdS ?_ ?_ | refine ar_rdS rfl ?_ ?_); focus (first | exact trivial | omega | assumption)) | (with_reducible first  | (refine cs_seq ?_; intro _ hK) | apply cs_region | apply cs_block | apply cs_skip | apply cs_ret | apply cs_exit | apply cs_label | apply wl_nil | (apply ar_end; simp only [Made.all, List.map_cons, List.map_nil, List.cons_append, List.nil_append]) | (refine ks_then (by assumption) ?_)  | apply ks_thenRet | apply ks_thenExit | apply ks_blkRet | apply ks_blkNormal | apply ks_block | (apply ks_block' <;> (first | decide | skip))) | (first | ((with_reducible first | apply wl_guard | apply ar_guard); (focus rfl); (focus rfl); (focus decide); (focus exact lk_); all_goals ((intro hgd; (try simp only [decide_eq_true_eq, decide_eq_false_iff_not, Bool.not_true, Bool.not_false, Bool.not_eq_true', Bool.not_eq_false', Bool.and_eq_true, Bool.or_eq_true, Int.not_lt, Int.not_le, reduceCtorEq] at hgd); (try (exfalso; first | exact hgd | omega | contradiction | exact (nomatch (hgd.symm.trans (by assumption) : true = false)) | exact (nomatch (hgd.symm.trans (by assumption) : false = true))))); try simp only [updO_some, updO_none, List.cons_append, List.nil_append])) | ((with_reducible first | apply wl_guardU | apply ar_guardU); (focus rfl); (focus rfl); (focus decide); (focus exact lk_); all_goals (try simp only [updO_some, updO_none, List.cons_append, List.nil_append]))) | ((with_reducible refine cs_if ?_ ?_) <;> (intro hif; (try simp only [decide_eq_true_eq, decide_eq_false_iff_not, Bool.not_true, Bool.not_false, Bool.not_eq_true', Bool.not_eq_false', Bool.and_eq_true, Bool.or_eq_true, Int.not_lt, Int.not_le, reduceCtorEq] at hif); (try (exfalso; first | exact hif | omega | contradiction | exact (nomatch (hif.symm.trans (by assumption) : true = false)) | exact (nomatch (hif.symm.trans (by assumption) : false = true)))))) | ((with_reducible first | refine wl_pick ?_ ?_ | refine ar_pick rfl ?_ ?_) <;> (intro hpk; (try simp only [decide_eq_true_eq, decide_eq_false_iff_not, Bool.not_true, Bool.not_false, Bool.not_eq_true', Bool.not_eq_false', Bool.and_eq_true, Bool.or_eq_true, Int.not_lt, Int.not_le, reduceCtorEq] at hpk); (try (exfalso; first | exact hpk | omega | contradiction | exact (nomatch (hpk.symm.trans (by assumption) : true = false)) | exact (nomatch (hpk.symm.trans (by assumption) : false = true)))))) | (with_reducible first | refine wl_mapSet ?_ | (refine wl_mkMap ?_; intro bm) | (refine wl_boxC ?_; intro bx) | (refine wl_allocC ?_; intro ba)))
  exact fp_end rfl fun w h => h.pk 1 |>.drop
theorem follows1_trid' (b mb bx tb : Nat) (last lits : Int) (done : Bool) (tr : List Int) {R : List HP} [h : Sub L [HP.ck b (.map (some mb)) last lits done tr, HP.cells bx tb [.pointer (some ⟨b, 0, none⟩)]] R] :
    TriD Try.prog m 35 #[.pointer (some ⟨bx, 0, none⟩)] L fun v w => Sat m (HP.ck b (.map (some mb)) last lits done [] :: R) w :=
  (follows1_trid (L := R) b mb bx tb last lits done tr).pre fun w hw => h.sat hw
theorem head_X (A : Option Addr) (c : Nat) (hints : List Int) (hlen : hints.length ≤ 16777216) (hs : Ent m L fun H => SlR H (.slice A hints.length c) (i64s hints)) :
    Tri Try.prog m 38 #[.slice A hints.length c] L fun v w => ∃ x : Option Addr × Nat × Option Addr × Nat, v = .tuple #[.slice x.1 (hints.take (firstNeg hints)).length x.2.1, .slice x.2.2.1 (hints.drop (firstNeg hints)).length x.2.2.2] ∧
      ((∀ H, SlR H (.slice A hints.length c) (i64s hints) → SlR H (.slice x.1 (hints.take (firstNeg hints)).length x.2.1) (i64s (hints.take (firstNeg hints)))) ∧
        (∀ H, SlR H (.slice A hints.length c) (i64s hints) → SlR H (.slice x.2.2.1 (hints.drop (firstNeg hints)).length x.2.2.2) (i64s (hints.drop (firstNeg hints))))) ∧ Sat m L w :=
  (head_tri2 A c hints hlen hs).mono fun v w ⟨⟨A1, c1, A2, c2, e, h1, h2⟩, h⟩ => ⟨(A1, c1, A2, c2), e, ⟨h1, h2⟩, h⟩
theorem groups_X (b mb : Nat) (last lits : Int) (done : Bool) (tr : List Int) (D : Dt) (hD : ∀ x ∈ D, LitsOk x.2.set) (p : Int) (hp : p ≠ 0 ∧ p.natAbs ≤ 1048576) (A : Option Addr) (c : Nat) (hints : List Int)
    (hlen : hints.length ≤ 16777216) (hint : ∀ x ∈ hints, x.natAbs ≤ 4611686018427387904) (hs : Ent m L fun H => SlR H (.slice A hints.length c) (i64s hints)) :
    Tri Try.prog m 40 #[.pointer (some ⟨b, 0, none⟩), .int .i32 p, .slice A hints.length c] (ckL b mb last lits done tr D ++ L)
      fun v w => ∃ e : Int, v = .int .i64 e ∧ (e = 0 → RatAll D tr p) ∧ Sat m (ckL b mb last lits done tr D ++ L) w :=
  (groups_tri b mb last lits done tr D hD p hp A c hints hlen hint hs).mono fun v w ⟨⟨e, h1, h2⟩, h3⟩ => ⟨e, h1, h2, h3⟩
set_option maxRecDepth 10000 in
theorem follows_tri (b mb : Nat) (last lits : Int) (done : Bool) (D : Dt) (hD : ∀ x ∈ D, LitsOk x.2.set) (A : Option Addr) (c : Nat) (l : List Int) (A2 : Option Addr) (c2 : Nat) (hints : List Int) (hl : ∀ x ∈ l, x ≠ 0 ∧ x.natAbs ≤ 1048576) (hlen : l.length ≤ 16777216)
    (hlen2 : hints.length ≤ 16777216) (hint : ∀ x ∈ hints, x.natAbs ≤ 4611686018427387904) [hs : RowA L A l.length c (l32 l)] [hs2 : RowA L A2 hints.length c2 (i64s hints)] :
    Tri Try.prog m 27 #[.pointer (some ⟨b, 0, none⟩), .slice A l.length c, .slice A2 hints.length c2] (ckL b mb last lits done [] D ++ L)
      fun v w => ∃ e : Int, v = .int .i64 e ∧ ((e = 0 → FolOk D l) ∧ (bothF (normF l) = false → (throughF D ((normF l).map fun x => -x) (hints.take (firstNeg hints))).1 = 1 → e = 0)) ∧ Sat m (ckL b mb last lits done [] D ++ L) w := by
  refine tri_enterD (n := _) Try.func27 rfl Try.ntmps27 rfl ?_; simp only [argEnv, Nat.reduceAdd]
  simp only [ckL, List.cons_append, List.nil_append]
  repeat' (first | ((with_reducible first | refine wl_rd ?_ ?_ | refine ar_rd rfl ?_ ?_ | refine wl_rdN ?_ ?_ | refine wl_st ?_ ?_ | refine wl_rdS ?_ ?_ | refine ar_rdS rfl ?_ ?_); focus (first | exact trivial | omega | assumption)) | (with_reducible first  | (refine cs_seq ?_; intro _ hK) | apply cs_region | apply cs_block | apply cs_skip | apply cs_ret | apply cs_exit | apply cs_label | apply wl_nil | (apply ar_end; simp only [Made.all, List.map_cons, List.map_nil, List.cons_append, List.nil_append]) | (refine ks_then (by assumption) ?_)  | apply ks_thenRet | apply ks_thenExit | apply ks_blkRet | apply ks_blkNormal | apply ks_block | (apply ks_block' <;> (first | decide | skip))) | (first | ((with_reducible first | apply wl_guard | apply ar_guard); (focus rfl); (focus rfl); (focus decide); (focus exact lk_); all_goals ((intro hgd; (try simp only [decide_eq_true_eq, decide_eq_false_iff_not, Bool.not_true, Bool.not_false, Bool.not_eq_true', Bool.not_eq_false', Bool.and_eq_true, Bool.or_eq_true, Int.not_lt, Int.not_le, reduceCtorEq] at hgd); (try (exfalso; first | exact hgd | omega | contradiction | exact (nomatch (hgd.symm.trans (by assumption) : true = false)) | exact (nomatch (hgd.symm.trans (by assumption) : false = true))))); try simp only [updO_some, updO_none, List.cons_append, List.nil_append])) | ((with_reducible first | apply wl_guardU | apply ar_guardU); (focus rfl); (focus rfl); (focus decide); (focus exact lk_); all_goals (try simp only [updO_some, updO_none, List.cons_append, List.nil_append]))) | ((with_reducible refine cs_if ?_ ?_) <;> (intro hif; (try simp only [decide_eq_true_eq, decide_eq_false_iff_not, Bool.not_true, Bool.not_false, Bool.not_eq_true', Bool.not_eq_false', Bool.and_eq_true, Bool.or_eq_true, Int.not_lt, Int.not_le, reduceCtorEq] at hif); (try (exfalso; first | exact hif | omega | contradiction | exact (nomatch (hif.symm.trans (by assumption) : true = false)) | exact (nomatch (hif.symm.trans (by assumption) : false = true)))))) | ((with_reducible first | refine wl_pick ?_ ?_ | refine ar_pick rfl ?_ ?_) <;> (intro hpk; (try simp only [decide_eq_true_eq, decide_eq_false_iff_not, Bool.not_true, Bool.not_false, Bool.not_eq_true', Bool.not_eq_false', Bool.and_eq_true, Bool.or_eq_true, Int.not_lt, Int.not_le, reduceCtorEq] at hpk); (try (exfalso; first | exact hpk | omega | contradiction | exact (nomatch (hpk.symm.trans (by assumption) : true = false)) | exact (nomatch (hpk.symm.trans (by assumption) : false = true)))))) | (with_reducible first | refine wl_mapSet ?_ | (refine wl_mkMap ?_; intro bm) | (refine wl_boxC ?_; intro bx) | (refine wl_allocC ?_; intro ba)))
  (refine wl_callL (normal_tri A c l (fun x hx => (hl x hx).2) hlen rows_) rfl ?_)
  rintro sA -
  simp only [updO_some, updO_none, List.cons_append, List.nil_append]
  obtain ⟨both, hb⟩ : ∃ y, bothF (normF l) = y := ⟨_, rfl⟩
  obtain ⟨set, hset⟩ : ∃ y, normF l = y := ⟨_, rfl⟩
  have hset0 : ∀ x ∈ set, x ≠ 0 ∧ x.natAbs ≤ 1048576 := fun x hx => hl x ((normF_mem l x).1 (hset ▸ hx))
  have hsl : set.length ≤ 16777216 := by rw [← hset]; exact Nat.le_trans (normF_len l) hlen
  have hl0 : ∀ x ∈ l, x ≠ 0 := fun x hx => (hl x hx).1
  have hstr := normF_strict l
  simp only [hb]
  simp only [hset] at hstr ⊢
  repeat' (first | ((with_reducible first | refine wl_rd ?_ ?_ | refine ar_rd rfl ?_ ?_ | refine wl_rdN ?_ ?_ | refine wl_st ?_ ?_ | refine wl_rdS ?_ ?_ | refine ar_rdS rfl ?_ ?_); focus (first | exact trivial | omega | assumption)) | (with_reducible first  | (refine cs_seq ?_; intro _ hK) | apply cs_region | apply cs_block | apply cs_skip | apply cs_ret | apply cs_exit | apply cs_label | apply wl_nil | (apply ar_end; simp only [Made.all, List.map_cons, List.map_nil, List.cons_append, List.nil_append]) | (refine ks_then (by assumption) ?_)  | apply ks_thenRet | apply ks_thenExit | apply ks_blkRet | apply ks_blkNormal | apply ks_block | (apply ks_block' <;> (first | decide | skip))) | (first | ((with_reducible first | apply wl_guard | apply ar_guard); (focus rfl); (focus rfl); (focus decide); (focus exact lk_); all_goals ((intro hgd; (try simp only [decide_eq_true_eq, decide_eq_false_iff_not, Bool.not_true, Bool.not_false, Bool.not_eq_true', Bool.not_eq_false', Bool.and_eq_true, Bool.or_eq_true, Int.not_lt, Int.not_le, reduceCtorEq] at hgd); (try (exfalso; first | exact hgd | omega | contradiction | exact (nomatch (hgd.symm.trans (by assumption) : true = false)) | exact (nomatch (hgd.symm.trans (by assumption) : false = true))))); try simp only [updO_some, updO_none, List.cons_append, List.nil_append])) | ((with_reducible first | apply wl_guardU | apply ar_guardU); (focus rfl); (focus rfl); (focus decide); (focus exact lk_); all_goals (try simp only [updO_some, updO_none, List.cons_append, List.nil_append]))) | ((with_reducible refine cs_if ?_ ?_) <;> (intro hif; (try simp only [decide_eq_true_eq, decide_eq_false_iff_not, Bool.not_true, Bool.not_false, Bool.not_eq_true', Bool.not_eq_false', Bool.and_eq_true, Bool.or_eq_true, Int.not_lt, Int.not_le, reduceCtorEq] at hif); (try (exfalso; first | exact hif | omega | contradiction | exact (nomatch (hif.symm.trans (by assumption) : true = false)) | exact (nomatch (hif.symm.trans (by assumption) : false = true)))))) | ((with_reducible first | refine wl_pick ?_ ?_ | refine ar_pick rfl ?_ ?_) <;> (intro hpk; (try simp only [decide_eq_true_eq, decide_eq_false_iff_not, Bool.not_true, Bool.not_false, Bool.not_eq_true', Bool.not_eq_false', Bool.and_eq_true, Bool.or_eq_true, Int.not_lt, Int.not_le, reduceCtorEq] at hpk); (try (exfalso; first | exact hpk | omega | contradiction | exact (nomatch (hpk.symm.trans (by assumption) : true = false)) | exact (nomatch (hpk.symm.trans (by assumption) : false = true)))))) | (with_reducible first | refine wl_mapSet ?_ | (refine wl_mkMap ?_; intro bm) | (refine wl_boxC ?_; intro bx) | (refine wl_allocC ?_; intro ba)))
  · exact leave0 (.inl rfl) rfl get_ (fun w h => ⟨0, rfl, ⟨fun _ => fol_both hl0 (hb.trans hif), fun _ _ => rfl⟩, sub_ w h⟩)
  · subst hif
    have hnd := abs_strict set (fun x hx => (hset0 x hx).1) hstr (by rw [← hset]; exact hb)
    refine wl_defer ev_ evl_ ?_
    simp only [Array.append_empty, List.nil_append]
    repeat' (first | ((with_reducible first | refine wl_rd ?_ ?_ | refine ar_rd rfl ?_ ?_ | refine wl_rdN ?_ ?_ | refine wl_st ?_ ?_ | refine wl_rdS ?_ ?_ | refine ar_rdS rfl ?_ ?_); focus (first | exact trivial | omega | assumption)) | (with_reducible first  | (refine cs_seq ?_; intro _ hK) | apply cs_region | apply cs_block | apply cs_skip | apply cs_ret | apply cs_exit | apply cs_label | apply wl_nil | (apply ar_end; simp only [Made.all, List.map_cons, List.map_nil, List.cons_append, List.nil_append]) | (refine ks_then (by assumption) ?_)  | apply ks_thenRet | apply ks_thenExit | apply ks_blkRet | apply ks_blkNormal | apply ks_block | (apply ks_block' <;> (first | decide | skip))) | (first | ((with_reducible first | apply wl_guard | apply ar_guard); (focus rfl); (focus rfl); (focus decide); (focus exact lk_); all_goals ((intro hgd; (try simp only [decide_eq_true_eq, decide_eq_false_iff_not, Bool.not_true, Bool.not_false, Bool.not_eq_true', Bool.not_eq_false', Bool.and_eq_true, Bool.or_eq_true, Int.not_lt, Int.not_le, reduceCtorEq] at hgd); (try (exfalso; first | exact hgd | omega | contradiction | exact (nomatch (hgd.symm.trans (by assumption) : true = false)) | exact (nomatch (hgd.symm.trans (by assumption) : false = true))))); try simp only [updO_some, updO_none, List.cons_append, List.nil_append])) | ((with_reducible first | apply wl_guardU | apply ar_guardU); (focus rfl); (focus rfl); (focus decide); (focus exact lk_); all_goals (try simp only [updO_some, updO_none, List.cons_append, List.nil_append]))) | ((with_reducible refine cs_if ?_ ?_) <;> (intro hif; (try simp only [decide_eq_true_eq, decide_eq_false_iff_not, Bool.not_true, Bool.not_false, Bool.not_eq_true', Bool.not_eq_false', Bool.and_eq_true, Bool.or_eq_true, Int.not_lt, Int.not_le, reduceCtorEq] at hif); (try (exfalso; first | exact hif | omega | contradiction | exact (nomatch (hif.symm.trans (by assumption) : true = false)) | exact (nomatch (hif.symm.trans (by assumption) : false = true)))))) | ((with_reducible first | refine wl_pick ?_ ?_ | refine ar_pick rfl ?_ ?_) <;> (intro hpk; (try simp only [decide_eq_true_eq, decide_eq_false_iff_not, Bool.not_true, Bool.not_false, Bool.not_eq_true', Bool.not_eq_false', Bool.and_eq_true, Bool.or_eq_true, Int.not_lt, Int.not_le, reduceCtorEq] at hpk); (try (exfalso; first | exact hpk | omega | contradiction | exact (nomatch (hpk.symm.trans (by assumption) : true = false)) | exact (nomatch (hpk.symm.trans (by assumption) : false = true)))))) | (with_reducible first | refine wl_mapSet ?_ | (refine wl_mkMap ?_; intro bm) | (refine wl_boxC ?_; intro bx) | (refine wl_allocC ?_; intro ba)))
    refine cs_loopH (α := Nat) 0x7fc00400 (fun i => [(22, .int .i64 i)]) (fun i => HP.ck b (.map (some mb)) last lits done ((set.take i).map fun x => -x) :: HP.rd (.slice sA set.length set.length) (l32 set) :: HP.cells bx 28 [.pointer (some ⟨b, 0, none⟩)] :: HP.imap mb .i64 (DM D) :: HP.helds D :: L) (fun i => i ≤ set.length) (fun i => set.length - i) 0 (Nat.zero_le _) (by (simp only [Slots, acts_tmp, acts_const, acts_func, acts_get, upd_apply, Nat.reduceEqDiff, Nat.reduceLT, Nat.reduceAdd, ↓reduceIte, and_self]; try simp)) (fun w h => by simp only [List.take_zero, List.map_nil]; exact sub_ w h) ?_
    intro i j hi
    simp only [upds]
    have hri := fun h : i < set.length => hset0 _ (getD_mem set i h)
    repeat' (first | ((with_reducible first | refine wl_rd ?_ ?_ | refine ar_rd rfl ?_ ?_ | refine wl_rdN ?_ ?_ | refine wl_st ?_ ?_ | refine wl_rdS ?_ ?_ | refine ar_rdS rfl ?_ ?_); focus (first | exact trivial | omega | assumption)) | (with_reducible first  | (refine cs_seq ?_; intro _ hK) | apply cs_region | apply cs_block | apply cs_skip | apply cs_ret | apply cs_exit | apply cs_label | apply wl_nil | (apply ar_end; simp only [Made.all, List.map_cons, List.map_nil, List.cons_append, List.nil_append]) | (refine ks_then (by assumption) ?_)  | apply ks_thenRet | apply ks_thenExit | apply ks_blkRet | apply ks_blkNormal | apply ks_block | (apply ks_block' <;> (first | decide | skip))) | (first | ((with_reducible first | apply wl_guard | apply ar_guard); (focus rfl); (focus rfl); (focus decide); (focus exact lk_); all_goals ((intro hgd; (try simp only [decide_eq_true_eq, decide_eq_false_iff_not, Bool.not_true, Bool.not_false, Bool.not_eq_true', Bool.not_eq_false', Bool.and_eq_true, Bool.or_eq_true, Int.not_lt, Int.not_le, reduceCtorEq] at hgd); (try (exfalso; first | exact hgd | omega | contradiction | exact (nomatch (hgd.symm.trans (by assumption) : true = false)) | exact (nomatch (hgd.symm.trans (by assumption) : false = true))))); try simp only [updO_some, updO_none, List.cons_append, List.nil_append])) | ((with_reducible first | apply wl_guardU | apply ar_guardU); (focus rfl); (focus rfl); (focus decide); (focus exact lk_); all_goals (try simp only [updO_some, updO_none, List.cons_append, List.nil_append]))) | ((with_reducible refine cs_if ?_ ?_) <;> (intro hif; (try simp only [decide_eq_true_eq, decide_eq_false_iff_not, Bool.not_true, Bool.not_false, Bool.not_eq_true', Bool.not_eq_false', Bool.and_eq_true, Bool.or_eq_true, Int.not_lt, Int.not_le, reduceCtorEq] at hif); (try (exfalso; first | exact hif | omega | contradiction | exact (nomatch (hif.symm.trans (by assumption) : true = false)) | exact (nomatch (hif.symm.trans (by assumption) : false = true)))))) | ((with_reducible first | refine wl_pick ?_ ?_ | refine ar_pick rfl ?_ ?_) <;> (intro hpk; (try simp only [decide_eq_true_eq, decide_eq_false_iff_not, Bool.not_true, Bool.not_false, Bool.not_eq_true', Bool.not_eq_false', Bool.and_eq_true, Bool.or_eq_true, Int.not_lt, Int.not_le, reduceCtorEq] at hpk); (try (exfalso; first | exact hpk | omega | contradiction | exact (nomatch (hpk.symm.trans (by assumption) : true = false)) | exact (nomatch (hpk.symm.trans (by assumption) : false = true)))))) | (with_reducible first | refine wl_mapSet ?_ | (refine wl_mkMap ?_; intro bm) | (refine wl_boxC ?_; intro bx) | (refine wl_allocC ?_; intro ba)))
    · (refine wl_callM (set_tri b _ last lits done _ (-(set.getD i 0)) (by omega) (by omega) (neg_not_mem hnd i (by omega))) rfl ?_; simp only [updO_some, updO_none, List.cons_append, List.nil_append])
      repeat' (first | ((with_reducible first | refine wl_rd ?_ ?_ | refine ar_rd rfl ?_ ?_ | refine wl_rdN ?_ ?_ | refine wl_st ?_ ?_ | refine wl_rdS ?_ ?_ | refine ar_rdS rfl ?_ ?_); focus (first | exact trivial | omega | assumption)) | (with_reducible first  | (refine cs_seq ?_; intro _ hK) | apply cs_region | apply cs_block | apply cs_skip | apply cs_ret | apply cs_exit | apply cs_label | apply wl_nil | (apply ar_end; simp only [Made.all, List.map_cons, List.map_nil, List.cons_append, List.nil_append]) | (refine ks_then (by assumption) ?_)  | apply ks_thenRet | apply ks_thenExit | apply ks_blkRet | apply ks_blkNormal | apply ks_block | (apply ks_block' <;> (first | decide | skip))) | (first | ((with_reducible first | apply wl_guard | apply ar_guard); (focus rfl); (focus rfl); (focus decide); (focus exact lk_); all_goals ((intro hgd; (try simp only [decide_eq_true_eq, decide_eq_false_iff_not, Bool.not_true, Bool.not_false, Bool.not_eq_true', Bool.not_eq_false', Bool.and_eq_true, Bool.or_eq_true, Int.not_lt, Int.not_le, reduceCtorEq] at hgd); (try (exfalso; first | exact hgd | omega | contradiction | exact (nomatch (hgd.symm.trans (by assumption) : true = false)) | exact (nomatch (hgd.symm.trans (by assumption) : false = true))))); try simp only [updO_some, updO_none, List.cons_append, List.nil_append])) | ((with_reducible first | apply wl_guardU | apply ar_guardU); (focus rfl); (focus rfl); (focus decide); (focus exact lk_); all_goals (try simp only [updO_some, updO_none, List.cons_append, List.nil_append]))) | ((with_reducible refine cs_if ?_ ?_) <;> (intro hif; (try simp only [decide_eq_true_eq, decide_eq_false_iff_not, Bool.not_true, Bool.not_false, Bool.not_eq_true', Bool.not_eq_false', Bool.and_eq_true, Bool.or_eq_true, Int.not_lt, Int.not_le, reduceCtorEq] at hif); (try (exfalso; first | exact hif | omega | contradiction | exact (nomatch (hif.symm.trans (by assumption) : true = false)) | exact (nomatch (hif.symm.trans (by assumption) : false = true)))))) | ((with_reducible first | refine wl_pick ?_ ?_ | refine ar_pick rfl ?_ ?_) <;> (intro hpk; (try simp only [decide_eq_true_eq, decide_eq_false_iff_not, Bool.not_true, Bool.not_false, Bool.not_eq_true', Bool.not_eq_false', Bool.and_eq_true, Bool.or_eq_true, Int.not_lt, Int.not_le, reduceCtorEq] at hpk); (try (exfalso; first | exact hpk | omega | contradiction | exact (nomatch (hpk.symm.trans (by assumption) : true = false)) | exact (nomatch (hpk.symm.trans (by assumption) : false = true)))))) | (with_reducible first | refine wl_mapSet ?_ | (refine wl_mkMap ?_; intro bm) | (refine wl_boxC ?_; intro bx) | (refine wl_allocC ?_; intro ba)))
      refine ks_endsH (i + 1) ⟨by omega, by omega⟩ (by (simp only [Slots, acts_tmp, acts_const, acts_func, acts_get, upd_apply, Nat.reduceEqDiff, Nat.reduceLT, Nat.reduceAdd, ↓reduceIte, and_self]; try simp)) (fun w h => ?_)
      rw [take_getD_succ set i (by omega), List.map_append]
      exact h
    · rw [List.take_of_length_le (by omega)]
      (refine wl_callL (head_X A2 c2 hints hlen2 rows_) rfl ?_)
      rintro ⟨A3, c3, A4, c4⟩ ⟨hh1, hh2⟩
      have hfn := firstNeg_le hints
      simp only [updO_some, updO_none, List.cons_append, List.nil_append]
      repeat' (first | ((with_reducible first | refine wl_rd ?_ ?_ | refine ar_rd rfl ?_ ?_ | refine wl_rdN ?_ ?_ | refine wl_st ?_ ?_ | refine wl_rdS ?_ ?_ | refine ar_rdS rfl ?_ ?_); focus (first | exact trivial | omega | assumption)) | (with_reducible first  | (refine cs_seq ?_; intro _ hK) | apply cs_region | apply cs_block | apply cs_skip | apply cs_ret | apply cs_exit | apply cs_label | apply wl_nil | (apply ar_end; simp only [Made.all, List.map_cons, List.map_nil, List.cons_append, List.nil_append]) | (refine ks_then (by assumption) ?_)  | apply ks_thenRet | apply ks_thenExit | apply ks_blkRet | apply ks_blkNormal | apply ks_block | (apply ks_block' <;> (first | decide | skip))) | (first | ((with_reducible first | apply wl_guard | apply ar_guard); (focus rfl); (focus rfl); (focus decide); (focus exact lk_); all_goals ((intro hgd; (try simp only [decide_eq_true_eq, decide_eq_false_iff_not, Bool.not_true, Bool.not_false, Bool.not_eq_true', Bool.not_eq_false', Bool.and_eq_true, Bool.or_eq_true, Int.not_lt, Int.not_le, reduceCtorEq] at hgd); (try (exfalso; first | exact hgd | omega | contradiction | exact (nomatch (hgd.symm.trans (by assumption) : true = false)) | exact (nomatch (hgd.symm.trans (by assumption) : false = true))))); try simp only [updO_some, updO_none, List.cons_append, List.nil_append])) | ((with_reducible first | apply wl_guardU | apply ar_guardU); (focus rfl); (focus rfl); (focus decide); (focus exact lk_); all_goals (try simp only [updO_some, updO_none, List.cons_append, List.nil_append]))) | ((with_reducible refine cs_if ?_ ?_) <;> (intro hif; (try simp only [decide_eq_true_eq, decide_eq_false_iff_not, Bool.not_true, Bool.not_false, Bool.not_eq_true', Bool.not_eq_false', Bool.and_eq_true, Bool.or_eq_true, Int.not_lt, Int.not_le, reduceCtorEq] at hif); (try (exfalso; first | exact hif | omega | contradiction | exact (nomatch (hif.symm.trans (by assumption) : true = false)) | exact (nomatch (hif.symm.trans (by assumption) : false = true)))))) | ((with_reducible first | refine wl_pick ?_ ?_ | refine ar_pick rfl ?_ ?_) <;> (intro hpk; (try simp only [decide_eq_true_eq, decide_eq_false_iff_not, Bool.not_true, Bool.not_false, Bool.not_eq_true', Bool.not_eq_false', Bool.and_eq_true, Bool.or_eq_true, Int.not_lt, Int.not_le, reduceCtorEq] at hpk); (try (exfalso; first | exact hpk | omega | contradiction | exact (nomatch (hpk.symm.trans (by assumption) : true = false)) | exact (nomatch (hpk.symm.trans (by assumption) : false = true)))))) | (with_reducible first | refine wl_mapSet ?_ | (refine wl_mkMap ?_; intro bm) | (refine wl_boxC ?_; intro bx) | (refine wl_allocC ?_; intro ba)))
      refine wl_front 4 (wl_front 4 (wl_front 2 ?_))
      (refine wl_callM (through_tri b mb last lits done (set.map fun x => -x) D hD A3 c3 (hints.take (firstNeg hints)) (by simp; omega) (rows_.imp hh1)) rfl ?_; simp only [updO_some, updO_none, List.cons_append, List.nil_append])
      have hE := throughF_end D (hints.take (firstNeg hints)) (set.map fun x => -x)
      obtain ⟨e, he⟩ : ∃ e, (throughF D (set.map fun x => -x) (hints.take (firstNeg hints))).1 = e := ⟨_, rfl⟩
      obtain ⟨tr2, htr⟩ : ∃ e, (throughF D (set.map fun x => -x) (hints.take (firstNeg hints))).2 = e := ⟨_, rfl⟩
      simp only [he, htr, ckL, List.cons_append, List.nil_append] at hE ⊢
      repeat' (first | ((with_reducible first | refine wl_rd ?_ ?_ | refine ar_rd rfl ?_ ?_ | refine wl_rdN ?_ ?_ | refine wl_st ?_ ?_ | refine wl_rdS ?_ ?_ | refine ar_rdS rfl ?_ ?_); focus (first | exact trivial | omega | assumption)) | (with_reducible first  | (refine cs_seq ?_; intro _ hK) | apply cs_region | apply cs_block | apply cs_skip | apply cs_ret | apply cs_exit | apply cs_label | apply wl_nil | (apply ar_end; simp only [Made.all, List.map_cons, List.map_nil, List.cons_append, List.nil_append]) | (refine ks_then (by assumption) ?_)  | apply ks_thenRet | apply ks_thenExit | apply ks_blkRet | apply ks_blkNormal | apply ks_block | (apply ks_block' <;> (first | decide | skip))) | (first | ((with_reducible first | apply wl_guard | apply ar_guard); (focus rfl); (focus rfl); (focus decide); (focus exact lk_); all_goals ((intro hgd; (try simp only [decide_eq_true_eq, decide_eq_false_iff_not, Bool.not_true, Bool.not_false, Bool.not_eq_true', Bool.not_eq_false', Bool.and_eq_true, Bool.or_eq_true, Int.not_lt, Int.not_le, reduceCtorEq] at hgd); (try (exfalso; first | exact hgd | omega | contradiction | exact (nomatch (hgd.symm.trans (by assumption) : true = false)) | exact (nomatch (hgd.symm.trans (by assumption) : false = true))))); try simp only [updO_some, updO_none, List.cons_append, List.nil_append])) | ((with_reducible first | apply wl_guardU | apply ar_guardU); (focus rfl); (focus rfl); (focus decide); (focus exact lk_); all_goals (try simp only [updO_some, updO_none, List.cons_append, List.nil_append]))) | ((with_reducible refine cs_if ?_ ?_) <;> (intro hif; (try simp only [decide_eq_true_eq, decide_eq_false_iff_not, Bool.not_true, Bool.not_false, Bool.not_eq_true', Bool.not_eq_false', Bool.and_eq_true, Bool.or_eq_true, Int.not_lt, Int.not_le, reduceCtorEq] at hif); (try (exfalso; first | exact hif | omega | contradiction | exact (nomatch (hif.symm.trans (by assumption) : true = false)) | exact (nomatch (hif.symm.trans (by assumption) : false = true)))))) | ((with_reducible first | refine wl_pick ?_ ?_ | refine ar_pick rfl ?_ ?_) <;> (intro hpk; (try simp only [decide_eq_true_eq, decide_eq_false_iff_not, Bool.not_true, Bool.not_false, Bool.not_eq_true', Bool.not_eq_false', Bool.and_eq_true, Bool.or_eq_true, Int.not_lt, Int.not_le, reduceCtorEq] at hpk); (try (exfalso; first | exact hpk | omega | contradiction | exact (nomatch (hpk.symm.trans (by assumption) : true = false)) | exact (nomatch (hpk.symm.trans (by assumption) : false = true)))))) | (with_reducible first | refine wl_mapSet ?_ | (refine wl_mkMap ?_; intro bm) | (refine wl_boxC ?_; intro bx) | (refine wl_allocC ?_; intro ba)))
      · exact leave1 (.inl rfl) rfl get_ rfl (follows1_trid' b mb bx 28 last lits done tr2) (fun u w H => ⟨0, rfl, ⟨fun _ => fol_conflict hD (hints := hints.take (firstNeg hints)) hl0 (by rw [hset, he]; assumption), fun _ _ => rfl⟩, sub_ w H⟩)
      · exact leave1 (.inl rfl) rfl get_ rfl (follows1_trid' b mb bx 28 last lits done tr2) (fun u w H => ⟨60, rfl, ⟨fun h => by omega, fun _ h => by rw [hset, he] at h; omega⟩, sub_ w H⟩)
      · exact leave1 (.inl rfl) rfl get_ rfl (follows1_trid' b mb bx 28 last lits done tr2) (fun u w H => ⟨61, rfl, ⟨fun h => by omega, fun _ h => by rw [hset, he] at h; omega⟩, sub_ w H⟩)
      · have hlp : 0 < l.length := by omega
        have hp := hl _ (getD_mem l 0 hlp)
        (refine cs_draw [0, 1, 2, 3, 4] [5, 6] [] mixed (by kernel_rfl) (fun w h => h) ?_); (try simp only [List.eraseIdx_cons_zero, List.eraseIdx_cons_succ]); simp only [List.filterMap_cons, List.filterMap_nil, List.getElem?_toArray, List.getElem?_cons_zero, List.getElem?_cons_succ, Option.map_some]
        repeat' (first | ((with_reducible first | refine wl_rd ?_ ?_ | refine ar_rd rfl ?_ ?_ | refine wl_rdN ?_ ?_ | refine wl_st ?_ ?_ | refine wl_rdS ?_ ?_ | refine ar_rdS rfl ?_ ?_); focus (first | exact trivial | omega | assumption)) | (with_reducible first  | (refine cs_seq ?_; intro _ hK) | apply cs_region | apply cs_block | apply cs_skip | apply cs_ret | apply cs_exit | apply cs_label | apply wl_nil | (apply ar_end; simp only [Made.all, List.map_cons, List.map_nil, List.cons_append, List.nil_append]) | (refine ks_then (by assumption) ?_)  | apply ks_thenRet | apply ks_thenExit | apply ks_blkRet | apply ks_blkNormal | apply ks_block | (apply ks_block' <;> (first | decide | skip))) | (first | ((with_reducible first | apply wl_guard | apply ar_guard); (focus rfl); (focus rfl); (focus decide); (focus exact lk_); all_goals ((intro hgd; (try simp only [decide_eq_true_eq, decide_eq_false_iff_not, Bool.not_true, Bool.not_false, Bool.not_eq_true', Bool.not_eq_false', Bool.and_eq_true, Bool.or_eq_true, Int.not_lt, Int.not_le, reduceCtorEq] at hgd); (try (exfalso; first | exact hgd | omega | contradiction | exact (nomatch (hgd.symm.trans (by assumption) : true = false)) | exact (nomatch (hgd.symm.trans (by assumption) : false = true))))); try simp only [updO_some, updO_none, List.cons_append, List.nil_append])) | ((with_reducible first | apply wl_guardU | apply ar_guardU); (focus rfl); (focus rfl); (focus decide); (focus exact lk_); all_goals (try simp only [updO_some, updO_none, List.cons_append, List.nil_append]))) | ((with_reducible refine cs_if ?_ ?_) <;> (intro hif; (try simp only [decide_eq_true_eq, decide_eq_false_iff_not, Bool.not_true, Bool.not_false, Bool.not_eq_true', Bool.not_eq_false', Bool.and_eq_true, Bool.or_eq_true, Int.not_lt, Int.not_le, reduceCtorEq] at hif); (try (exfalso; first | exact hif | omega | contradiction | exact (nomatch (hif.symm.trans (by assumption) : true = false)) | exact (nomatch (hif.symm.trans (by assumption) : false = true)))))) | ((with_reducible first | refine wl_pick ?_ ?_ | refine ar_pick rfl ?_ ?_) <;> (intro hpk; (try simp only [decide_eq_true_eq, decide_eq_false_iff_not, Bool.not_true, Bool.not_false, Bool.not_eq_true', Bool.not_eq_false', Bool.and_eq_true, Bool.or_eq_true, Int.not_lt, Int.not_le, reduceCtorEq] at hpk); (try (exfalso; first | exact hpk | omega | contradiction | exact (nomatch (hpk.symm.trans (by assumption) : true = false)) | exact (nomatch (hpk.symm.trans (by assumption) : false = true)))))) | (with_reducible first | refine wl_mapSet ?_ | (refine wl_mkMap ?_; intro bm) | (refine wl_boxC ?_; intro bx) | (refine wl_allocC ?_; intro ba)))
        (refine wl_callL (groups_X b mb last lits done tr2 D hD (l.getD 0 0) hp A4 c4 (hints.drop (firstNeg hints)) (by simp; omega) (fun x hx => hint x (List.mem_of_mem_drop hx)) (rows_.imp hh2)) rfl ?_)
        rintro e3 he3
        simp only [updO_some, updO_none, ckL, List.cons_append, List.nil_append]
        repeat' (first | ((with_reducible first | refine wl_rd ?_ ?_ | refine ar_rd rfl ?_ ?_ | refine wl_rdN ?_ ?_ | refine wl_st ?_ ?_ | refine wl_rdS ?_ ?_ | refine ar_rdS rfl ?_ ?_); focus (first | exact trivial | omega | assumption)) | (with_reducible first  | (refine cs_seq ?_; intro _ hK) | apply cs_region | apply cs_block | apply cs_skip | apply cs_ret | apply cs_exit | apply cs_label | apply wl_nil | (apply ar_end; simp only [Made.all, List.map_cons, List.map_nil, List.cons_append, List.nil_append]) | (refine ks_then (by assumption) ?_)  | apply ks_thenRet | apply ks_thenExit | apply ks_blkRet | apply ks_blkNormal | apply ks_block | (apply ks_block' <;> (first | decide | skip))) | (first | ((with_reducible first | apply wl_guard | apply ar_guard); (focus rfl); (focus rfl); (focus decide); (focus exact lk_); all_goals ((intro hgd; (try simp only [decide_eq_true_eq, decide_eq_false_iff_not, Bool.not_true, Bool.not_false, Bool.not_eq_true', Bool.not_eq_false', Bool.and_eq_true, Bool.or_eq_true, Int.not_lt, Int.not_le, reduceCtorEq] at hgd); (try (exfalso; first | exact hgd | omega | contradiction | exact (nomatch (hgd.symm.trans (by assumption) : true = false)) | exact (nomatch (hgd.symm.trans (by assumption) : false = true))))); try simp only [updO_some, updO_none, List.cons_append, List.nil_append])) | ((with_reducible first | apply wl_guardU | apply ar_guardU); (focus rfl); (focus rfl); (focus decide); (focus exact lk_); all_goals (try simp only [updO_some, updO_none, List.cons_append, List.nil_append]))) | ((with_reducible refine cs_if ?_ ?_) <;> (intro hif; (try simp only [decide_eq_true_eq, decide_eq_false_iff_not, Bool.not_true, Bool.not_false, Bool.not_eq_true', Bool.not_eq_false', Bool.and_eq_true, Bool.or_eq_true, Int.not_lt, Int.not_le, reduceCtorEq] at hif); (try (exfalso; first | exact hif | omega | contradiction | exact (nomatch (hif.symm.trans (by assumption) : true = false)) | exact (nomatch (hif.symm.trans (by assumption) : false = true)))))) | ((with_reducible first | refine wl_pick ?_ ?_ | refine ar_pick rfl ?_ ?_) <;> (intro hpk; (try simp only [decide_eq_true_eq, decide_eq_false_iff_not, Bool.not_true, Bool.not_false, Bool.not_eq_true', Bool.not_eq_false', Bool.and_eq_true, Bool.or_eq_true, Int.not_lt, Int.not_le, reduceCtorEq] at hpk); (try (exfalso; first | exact hpk | omega | contradiction | exact (nomatch (hpk.symm.trans (by assumption) : true = false)) | exact (nomatch (hpk.symm.trans (by assumption) : false = true)))))) | (with_reducible first | refine wl_mapSet ?_ | (refine wl_mkMap ?_; intro bm) | (refine wl_boxC ?_; intro bx) | (refine wl_allocC ?_; intro ba)))
        exact leave1 (.inl rfl) rfl get_ rfl (follows1_trid' b mb bx 28 last lits done tr2) (fun u w H => ⟨e3, rfl, ⟨fun h => fol_groups hD (hints := hints.take (firstNeg hints)) hl0 (by rintro rfl; simp at hlp) (by rw [hset, htr]; exact he3 h), fun _ h => by rw [hset, he] at h; omega⟩, sub_ w H⟩)
end Go.Proofs.Ytkpkehfoilchaaa
