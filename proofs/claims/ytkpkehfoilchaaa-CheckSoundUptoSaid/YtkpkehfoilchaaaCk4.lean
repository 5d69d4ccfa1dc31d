/- The checker's clauses; going through hints. -/
import Derived.Test.YtkpkehfoilchaaaCk3
namespace Go.Proofs.Ytkpkehfoilchaaa
open Go.RowKit
set_option linter.unusedSimpArgs false
set_option linter.unusedVariables false
set_option maxHeartbeats 4000000
attribute [local irreducible] WL AR CS KS
variable {m : Meta} {L : List HP}
theorem get32 (xs : List Int) (i : Nat) (h : i < xs.length) : (l32 xs)[i]? = some (.int .i32 (xs.getD i 0)) := getm _ xs i h
/-- A clause that is held: where its block and rows lie, and what they hold. -/
structure Ht where
  p : Nat
  lA : Option Addr
  lc : Nat
  sA : Option Addr
  sc : Nat
  lits : List Int
  set : List Int
  both : Bool
def Ht.lv (h : Ht) : Value := .slice h.lA h.lits.length h.lc
def Ht.sv (h : Ht) : Value := .slice h.sA h.set.length h.sc
def HP.held (h : Ht) : HP := HP.star (HP.cells h.p 69 [h.lv, h.sv, .bool h.both]) (HP.star (fun H => SlR H h.lv (l32 h.lits)) (fun H => SlR H h.sv (l32 h.set)))
abbrev Dt := List (Int × Ht)
def HP.helds (D : Dt) : HP := Stars (D.map fun x => HP.held x.2)
def DM (D : Dt) : List (Int × Value) := D.map fun x => (x.1, .pointer (some ⟨x.2.p, 0, none⟩))
def dlook : Dt → Int → Option Ht
  | [], _ => none
  | (a, h) :: D, k => if k = a then some h else dlook D k
theorem alook_DM (k : Int) : ∀ D : Dt, alook (DM D) k = (dlook D k).map fun h => .pointer (some ⟨h.p, 0, none⟩)
  | [] => rfl
  | (a, h) :: D => by
    have := alook_DM k D
    unfold alook at this ⊢
    simp only [DM, List.map_cons, afind, dlook] at this ⊢
    split
    · rfl
    · rw [← this, Option.map_map]; rfl
theorem dlook_mem {k : Int} {h : Ht} : ∀ {D : Dt}, dlook D k = some h → (k, h) ∈ D
  | [], e => by simp [dlook] at e
  | (a, h') :: D, e => by
    unfold dlook at e
    split at e
    · cases e; subst k; exact List.mem_cons_self ..
    · exact List.mem_cons_of_mem _ (dlook_mem e)
/-- What is read of a held clause. -/
structure HeldR (H : PH) (h : Ht) : Prop where
  c0 : H.cell ⟨h.p, 0, none⟩ = some h.lv
  c1 : H.cell ⟨h.p, 1, none⟩ = some h.sv
  c2 : H.cell ⟨h.p, 2, none⟩ = some (.bool h.both)
  lits : SlR H h.lv (l32 h.lits)
  set : SlR H h.sv (l32 h.set)
theorem HeldR.le {H H' : PH} {h : Ht} (hl : H.le H') (r : HeldR H h) : HeldR H' h :=
  ⟨PH.cell_le hl r.c0, PH.cell_le hl r.c1, PH.cell_le hl r.c2, r.lits.le hl, r.set.le hl⟩
theorem held_reads {H : PH} {h : Ht} (hh : HP.held h H) : HeldR H h := by
  obtain ⟨a, b, dj, rfl, rfl, a2, b2, dj2, rfl, h1, h2⟩ := hh
  have hl : (a2.un b2).le ((PH.one h.p (.cells #[h.lv, h.sv, .bool h.both] 69 (0, 0))).un (a2.un b2)) := PH.le_un_r dj
  have h0 := PH.le_un_l (PH.one h.p (.cells #[h.lv, h.sv, .bool h.both] 69 (0, 0))) (a2.un b2)
  refine ⟨PH.cell_le h0 ?_, PH.cell_le h0 ?_, PH.cell_le h0 ?_, SlR.le (PH.le_trans (PH.le_un_l _ _) hl) h1, SlR.le (PH.le_trans (PH.le_un_r dj2) hl) h2⟩ <;> rw [PH.one_cell] <;> rfl
theorem helds_reads {D : Dt} {k : Int} {h : Ht} (hm : (k, h) ∈ D) (H : PH) (hh : HP.helds D H) : HeldR H h := by
  obtain ⟨a, ha, pa⟩ := Stars.mem (P := HP.held h) (List.mem_map_of_mem (f := fun x : Int × Ht => HP.held x.2) hm) hh
  exact (held_reads pa).le ha
theorem Ent.held {D : Dt} {k : Int} {h : Ht} (i : Nat) (hi : L[i]? = some (HP.helds D)) (hd : dlook D k = some h) : Ent m L fun H => HeldR H h :=
  Ent.at_ i hi (helds_reads (dlook_mem hd)) (fun _ _ => HeldR.le)
theorem Ent.imp {φ ψ : PH → Prop} (h : Ent m L φ) (hp : ∀ H, φ H → ψ H) : Ent m L ψ := fun w hw => hp _ (h w hw)

/-! ### the checker's block, read -/
theorem ck_mp {b : Nat} {mp : Value} {last lits : Int} {done : Bool} {tr : List Int} {H : PH} (h : HP.ck b mp last lits done tr H) :
    H.cell ⟨b, 0, none⟩ = some mp ∧ H.cell ⟨b, 1, none⟩ = some (.int .i64 last) ∧ H.cell ⟨b, 2, none⟩ = some (.int .i64 lits) ∧ H.cell ⟨b, 3, none⟩ = some (.bool done) ∧ ∃ A c, H.cell ⟨b, 5, none⟩ = some (.slice A tr.length c) := by
  obtain ⟨vals, vv, tv, x, y, dj, rfl, ⟨ok, rfl⟩, x2, y2, dj2, rfl, rfl, x3, y3, dj3, rfl, o1, o2⟩ := h
  rw [PH.nil_un]
  have h0 := PH.le_un_l (PH.one b (.cells #[mp, .int .i64 last, .int .i64 lits, .bool done, vv, tv] 55 (0, 0))) (x3.un y3)
  refine ⟨PH.cell_le h0 ?_, PH.cell_le h0 ?_, PH.cell_le h0 ?_, PH.cell_le h0 ?_, ?_⟩
  · rw [PH.one_cell]; rfl
  · rw [PH.one_cell]; rfl
  · rw [PH.one_cell]; rfl
  · rw [PH.one_cell]; rfl
  · obtain ⟨_, ⟨rfl, hz, _⟩ | ⟨g, cap, cur, rfl, _⟩⟩ := o2
    · refine ⟨none, 0, PH.cell_le h0 ?_⟩
      rw [PH.one_cell, hz]; rfl
    · exact ⟨some ⟨g, 0, none⟩, cap, PH.cell_le h0 (by rw [PH.one_cell]; rfl)⟩
theorem ck_cell {b : Nat} {mp : Value} {last lits : Int} {done : Bool} {tr : List Int} (i : Nat) (hi : L[i]? = some (HP.ck b mp last lits done tr)) (w : World) (h : Sat m L w) :
    w.cell? ⟨b, 0, none⟩ = some mp ∧ w.cell? ⟨b, 1, none⟩ = some (.int .i64 last) ∧ w.cell? ⟨b, 2, none⟩ = some (.int .i64 lits) ∧ w.cell? ⟨b, 3, none⟩ = some (.bool done) ∧ ∃ A c, w.cell? ⟨b, 5, none⟩ = some (.slice A tr.length c) := by
  obtain ⟨a, ha, pa⟩ := h.mem (List.mem_of_getElem? hi)
  obtain ⟨h1, h2, h3, h4, A, c, h5⟩ := ck_mp pa
  exact ⟨PH.cell_le ha h1, PH.cell_le ha h2, PH.cell_le ha h3, PH.cell_le ha h4, A, c, PH.cell_le ha h5⟩
theorem of_ck (b : Nat) (mp : Value) (last lits : Int) (done : Bool) (tr : List Int) (l : Int) (h0 : l ≠ 0) (h1 : l.natAbs ≤ 1048576) :
    Tri Try.prog m 53 #[.pointer (some ⟨b, 0, none⟩), .int .i32 l] (HP.ck b mp last lits done tr :: L) fun v w => v = .int .i8 (valOf tr l) ∧ Sat m (HP.ck b mp last lits done tr :: L) w := by
  intro w0 H0
  obtain ⟨vals, vv, tv, ok, H0⟩ := H0.ck
  obtain ⟨A, c, rfl⟩ := own_slice' (H0.front 1 rfl)
  refine (Tri.mono (of_tri b A vals.length c vals l (by omega) (by omega) rfl ok.small ?_ ?_) ?_) w0 H0
  · exact fun w h => cell_at 0 rfl rfl w h
  · exact Ent.at_ 1 rfl (fun h => own_reads) (fun _ _ => SlR.le)
  · rintro v w ⟨rfl, h⟩
    exact ⟨by rw [ok.ofLit l h0], Sat.mkCk ok rfl rfl h⟩

/-! ### one hint -/
def leftF (tr : List Int) : List Int → Int → Option Int
  | [], left => some left
  | l :: r, left => if valOf tr l = 1 ∨ (valOf tr l = 0 ∧ left ≠ 0) then none else leftF tr r (if valOf tr l = 0 then l else left)
def oneF (D : Dt) (tr : List Int) (id : Int) : Int × List Int :=
  match dlook D id with
  | none => (2, tr)
  | some h => match leftF tr h.set 0 with
    | none => (2, tr)
    | some l => if l = 0 then (1, tr) else (0, tr ++ [l])
structure LitsOk (l : List Int) : Prop where
  ok : ∀ x ∈ l, x ≠ 0 ∧ x.natAbs ≤ 1048576
  len : l.length ≤ 16777216
/-- The clauses that stand, with the checker. -/
abbrev ckL (b mb : Nat) (last lits : Int) (done : Bool) (tr : List Int) (D : Dt) : List HP := [HP.ck b (.map (some mb)) last lits done tr, HP.imap mb .i64 (DM D), HP.helds D]
theorem one_tri (b mb bx tb : Nat) (last lits : Int) (done : Bool) (tr : List Int) (D : Dt) (hD : ∀ x ∈ D, LitsOk x.2.set) (id : Int) :
    Tri Try.prog m 52 #[.int .i64 id, .pointer (some ⟨bx, 0, none⟩)] (ckL b mb last lits done tr D ++ HP.cells bx tb [.pointer (some ⟨b, 0, none⟩)] :: L)
      fun v w => v = .int .i64 (oneF D tr id).1 ∧ Sat m (ckL b mb last lits done (oneF D tr id).2 D ++ HP.cells bx tb [.pointer (some ⟨b, 0, none⟩)] :: L) w := by
  refine tri_enter (n := _) Try.func52 rfl Try.ntmps52 rfl ?_; simp only [argEnv, Nat.reduceAdd]
  simp only [ckL, List.cons_append, List.nil_append]
  repeat' (first | (((first | (with_reducible apply wl_read) | ((with_reducible apply ar_read); focus rfl)); focus (first | (first | ((with_reducible apply rd_load) <;> (first | (first | (with_reducible first | exact ev_ | exact lk_ | exact get_ | exact evl_ | exact evp_) | exact rfl) | exact cell_at 3 rfl rfl)) | ((with_reducible apply rd_load) <;> (first | (first | (with_reducible first | exact ev_ | exact lk_ | exact get_ | exact evl_ | exact evp_) | exact rfl) | exact fun w h => (ck_cell 0 rfl w h).1)) | ((with_reducible apply rd_lookupOk 1 rfl) <;> (first | (with_reducible first | exact ev_ | exact lk_ | exact get_ | exact evl_ | exact evp_) | exact rfl))))); simp only [updO_some, updO_none, List.cons_append, List.nil_append]) | ((with_reducible first | refine wl_rd ?_ ?_ | refine ar_rd rfl ?_ ?_ | refine wl_rdN ?_ ?_); focus (first | exact trivial | omega | assumption)) | (with_reducible first  | (refine cs_seq ?_; intro _ hK) | apply cs_region | apply cs_block | apply cs_skip | apply cs_ret | apply cs_exit | apply cs_label | apply wl_nil | (apply ar_end; simp only [Made.all, List.map_cons, List.map_nil, List.cons_append, List.nil_append]) | (refine ks_then (by assumption) ?_)  | apply ks_thenRet | apply ks_thenExit | apply ks_blkRet | apply ks_blkNormal | apply ks_block | (apply ks_block' <;> (first | decide | skip))) | (first | ((with_reducible first | apply wl_guard | apply ar_guard); (focus rfl); (focus rfl); (focus decide); (focus exact lk_); all_goals ((intro hgd; (try simp only [decide_eq_true_eq, decide_eq_false_iff_not, Bool.not_true, Bool.not_false, Bool.not_eq_true', Bool.not_eq_false', Bool.and_eq_true, Bool.or_eq_true, Int.not_lt, Int.not_le, reduceCtorEq] at hgd); (try (exfalso; first | exact hgd | omega | contradiction | exact (nomatch (hgd.symm.trans (by assumption) : true = false)) | exact (nomatch (hgd.symm.trans (by assumption) : false = true))))); try simp only [updO_some, updO_none, List.cons_append, List.nil_append])) | ((with_reducible first | apply wl_guardU | apply ar_guardU); (focus rfl); (focus rfl); (focus decide); (focus exact lk_); all_goals (try simp only [updO_some, updO_none, List.cons_append, List.nil_append]))) | ((with_reducible refine cs_if ?_ ?_) <;> (intro hif; (try simp only [decide_eq_true_eq, decide_eq_false_iff_not, Bool.not_true, Bool.not_false, Bool.not_eq_true', Bool.not_eq_false', Bool.and_eq_true, Bool.or_eq_true, Int.not_lt, Int.not_le, reduceCtorEq] at hif); (try (exfalso; first | exact hif | omega | contradiction | exact (nomatch (hif.symm.trans (by assumption) : true = false)) | exact (nomatch (hif.symm.trans (by assumption) : false = true)))))) | ((with_reducible first | refine wl_pick ?_ ?_ | refine ar_pick rfl ?_ ?_) <;> (intro hpk; (try simp only [decide_eq_true_eq, decide_eq_false_iff_not, Bool.not_true, Bool.not_false, Bool.not_eq_true', Bool.not_eq_false', Bool.and_eq_true, Bool.or_eq_true, Int.not_lt, Int.not_le, reduceCtorEq] at hpk); (try (exfalso; first | exact hpk | omega | contradiction | exact (nomatch (hpk.symm.trans (by assumption) : true = false)) | exact (nomatch (hpk.symm.trans (by assumption) : false = true)))))))
  · rw [alook_DM] at hif
    have hn : dlook D id = none := by
      cases h : dlook D id with
      | none => rfl
      | some h => rw [h] at hif; simp at hif
    (refine fp_ret1 rfl get_ ?_)
    exact fun w h => by simpa [oneF, hn] using h
  · rw [alook_DM] at hif ⊢
    obtain ⟨h, hd⟩ : ∃ h, dlook D id = some h := by
      cases e : dlook D id with
      | none => rw [e] at hif; simp at hif
      | some h => exact ⟨h, rfl⟩
    rw [hd]
    simp only [Option.map_some, Option.getD_some]
    have hR : Ent m (HP.ck b (.map (some mb)) last lits done tr :: HP.imap mb .i64 (DM D) :: HP.helds D :: HP.cells bx tb [.pointer (some ⟨b, 0, none⟩)] :: L) fun H => HeldR H h := Ent.held 2 rfl hd
    have hS : Ent m (HP.ck b (.map (some mb)) last lits done tr :: HP.imap mb .i64 (DM D) :: HP.helds D :: HP.cells bx tb [.pointer (some ⟨b, 0, none⟩)] :: L) fun H => SlR H (.slice h.sA h.set.length h.sc) (l32 h.set) := hR.imp fun H r => r.set
    have hc1 : ∀ w, Sat m (HP.ck b (.map (some mb)) last lits done tr :: HP.imap mb .i64 (DM D) :: HP.helds D :: HP.cells bx tb [.pointer (some ⟨b, 0, none⟩)] :: L) w → w.cell? ⟨h.p, 1, none⟩ = some (.slice h.sA h.set.length h.sc) := fun w hh => (hR w hh).c1
    have hok : LitsOk h.set := hD _ (dlook_mem hd)
    repeat' (first | (((first | (with_reducible apply wl_read) | ((with_reducible apply ar_read); focus rfl)); focus (first | (first | ((with_reducible apply rd_load) <;> (first | (first | (with_reducible first | exact ev_ | exact lk_ | exact get_ | exact evl_ | exact evp_) | exact rfl) | exact hc1))))); simp only [updO_some, updO_none, List.cons_append, List.nil_append]) | ((with_reducible first | refine wl_rd ?_ ?_ | refine ar_rd rfl ?_ ?_ | refine wl_rdN ?_ ?_); focus (first | exact trivial | omega | assumption)) | (with_reducible first  | (refine cs_seq ?_; intro _ hK) | apply cs_region | apply cs_block | apply cs_skip | apply cs_ret | apply cs_exit | apply cs_label | apply wl_nil | (apply ar_end; simp only [Made.all, List.map_cons, List.map_nil, List.cons_append, List.nil_append]) | (refine ks_then (by assumption) ?_)  | apply ks_thenRet | apply ks_thenExit | apply ks_blkRet | apply ks_blkNormal | apply ks_block | (apply ks_block' <;> (first | decide | skip))) | (first | ((with_reducible first | apply wl_guard | apply ar_guard); (focus rfl); (focus rfl); (focus decide); (focus exact lk_); all_goals ((intro hgd; (try simp only [decide_eq_true_eq, decide_eq_false_iff_not, Bool.not_true, Bool.not_false, Bool.not_eq_true', Bool.not_eq_false', Bool.and_eq_true, Bool.or_eq_true, Int.not_lt, Int.not_le, reduceCtorEq] at hgd); (try (exfalso; first | exact hgd | omega | contradiction | exact (nomatch (hgd.symm.trans (by assumption) : true = false)) | exact (nomatch (hgd.symm.trans (by assumption) : false = true))))); try simp only [updO_some, updO_none, List.cons_append, List.nil_append])) | ((with_reducible first | apply wl_guardU | apply ar_guardU); (focus rfl); (focus rfl); (focus decide); (focus exact lk_); all_goals (try simp only [updO_some, updO_none, List.cons_append, List.nil_append]))) | ((with_reducible refine cs_if ?_ ?_) <;> (intro hif; (try simp only [decide_eq_true_eq, decide_eq_false_iff_not, Bool.not_true, Bool.not_false, Bool.not_eq_true', Bool.not_eq_false', Bool.and_eq_true, Bool.or_eq_true, Int.not_lt, Int.not_le, reduceCtorEq] at hif); (try (exfalso; first | exact hif | omega | contradiction | exact (nomatch (hif.symm.trans (by assumption) : true = false)) | exact (nomatch (hif.symm.trans (by assumption) : false = true)))))) | ((with_reducible first | refine wl_pick ?_ ?_ | refine ar_pick rfl ?_ ?_) <;> (intro hpk; (try simp only [decide_eq_true_eq, decide_eq_false_iff_not, Bool.not_true, Bool.not_false, Bool.not_eq_true', Bool.not_eq_false', Bool.and_eq_true, Bool.or_eq_true, Int.not_lt, Int.not_le, reduceCtorEq] at hpk); (try (exfalso; first | exact hpk | omega | contradiction | exact (nomatch (hpk.symm.trans (by assumption) : true = false)) | exact (nomatch (hpk.symm.trans (by assumption) : false = true)))))))
    refine cs_loopS (α := Nat × Int) (fun x => [(1, .pointer (some ⟨bx, 0, none⟩)), (6, .int .i32 x.2), (24, .slice h.sA h.set.length h.sc), (25, .int .i64 h.set.length), (26, .int .i64 x.1)])
      (fun x => (HP.ck b (.map (some mb)) last lits done tr :: HP.imap mb .i64 (DM D) :: HP.helds D :: HP.cells bx tb [.pointer (some ⟨b, 0, none⟩)] :: L))
      (fun x => x.1 ≤ h.set.length ∧ leftF tr h.set 0 = leftF tr (h.set.drop x.1) x.2 ∧ (x.2 = 0 ∨ (x.2 ∈ h.set ∧ valOf tr x.2 = 0))) (fun x => h.set.length - x.1) (0, 0) ⟨Nat.zero_le _, rfl, .inl rfl⟩ (by (simp only [Slots, acts_tmp, acts_const, acts_func, acts_get, upd_apply, Nat.reduceEqDiff, Nat.reduceLT, Nat.reduceAdd, ↓reduceIte, and_self]; try simp)) (fun w h => h) ?_
    rintro ⟨i, left⟩ g ⟨hi, hlf, hle⟩
    simp only [upds] at hi hlf hle ⊢
    have hlen := hok.len
    repeat' (first | (((first | (with_reducible apply wl_read) | ((with_reducible apply ar_read); focus rfl)); focus (first | (first | ((with_reducible apply rd_load) <;> (first | (first | (with_reducible first | exact ev_ | exact lk_ | exact get_ | exact evl_ | exact evp_) | exact rfl) | exact cell_at 3 rfl rfl)) | ((with_reducible apply rd_ix) <;> (first | (first | (with_reducible first | exact ev_ | exact lk_ | exact get_ | exact evl_ | exact evp_) | exact rfl) | omega | exact hS)) | ((with_reducible apply rd_ldx); (focus (first | (with_reducible first | exact ev_ | exact lk_ | exact get_ | exact evl_ | exact evp_) | exact rfl)); (focus exact hS); (focus exact get32 _ _ (by omega)))))); simp only [updO_some, updO_none, List.cons_append, List.nil_append]) | ((with_reducible first | refine wl_rd ?_ ?_ | refine ar_rd rfl ?_ ?_ | refine wl_rdN ?_ ?_); focus (first | exact trivial | omega | assumption)) | (with_reducible first  | (refine cs_seq ?_; intro _ hK) | apply cs_region | apply cs_block | apply cs_skip | apply cs_ret | apply cs_exit | apply cs_label | apply wl_nil | (apply ar_end; simp only [Made.all, List.map_cons, List.map_nil, List.cons_append, List.nil_append]) | (refine ks_then (by assumption) ?_)  | apply ks_thenRet | apply ks_thenExit | apply ks_blkRet | apply ks_blkNormal | apply ks_block | (apply ks_block' <;> (first | decide | skip))) | (first | ((with_reducible first | apply wl_guard | apply ar_guard); (focus rfl); (focus rfl); (focus decide); (focus exact lk_); all_goals ((intro hgd; (try simp only [decide_eq_true_eq, decide_eq_false_iff_not, Bool.not_true, Bool.not_false, Bool.not_eq_true', Bool.not_eq_false', Bool.and_eq_true, Bool.or_eq_true, Int.not_lt, Int.not_le, reduceCtorEq] at hgd); (try (exfalso; first | exact hgd | omega | contradiction | exact (nomatch (hgd.symm.trans (by assumption) : true = false)) | exact (nomatch (hgd.symm.trans (by assumption) : false = true))))); try simp only [updO_some, updO_none, List.cons_append, List.nil_append])) | ((with_reducible first | apply wl_guardU | apply ar_guardU); (focus rfl); (focus rfl); (focus decide); (focus exact lk_); all_goals (try simp only [updO_some, updO_none, List.cons_append, List.nil_append]))) | ((with_reducible refine cs_if ?_ ?_) <;> (intro hif; (try simp only [decide_eq_true_eq, decide_eq_false_iff_not, Bool.not_true, Bool.not_false, Bool.not_eq_true', Bool.not_eq_false', Bool.and_eq_true, Bool.or_eq_true, Int.not_lt, Int.not_le, reduceCtorEq] at hif); (try (exfalso; first | exact hif | omega | contradiction | exact (nomatch (hif.symm.trans (by assumption) : true = false)) | exact (nomatch (hif.symm.trans (by assumption) : false = true)))))) | ((with_reducible first | refine wl_pick ?_ ?_ | refine ar_pick rfl ?_ ?_) <;> (intro hpk; (try simp only [decide_eq_true_eq, decide_eq_false_iff_not, Bool.not_true, Bool.not_false, Bool.not_eq_true', Bool.not_eq_false', Bool.and_eq_true, Bool.or_eq_true, Int.not_lt, Int.not_le, reduceCtorEq] at hpk); (try (exfalso; first | exact hpk | omega | contradiction | exact (nomatch (hpk.symm.trans (by assumption) : true = false)) | exact (nomatch (hpk.symm.trans (by assumption) : false = true)))))))
    · have hil : i < h.set.length := by omega
      have hx : h.set.getD i 0 ∈ h.set := by rw [List.getD_eq_getElem?_getD, List.getElem?_eq_getElem hil]; exact List.getElem_mem _
      have hdr : h.set.drop i = h.set.getD i 0 :: h.set.drop (i + 1) := by
        rw [List.drop_eq_getElem_cons hil, List.getD_eq_getElem?_getD, List.getElem?_eq_getElem hil]; rfl
      rw [hdr] at hlf
      simp only [Int.toNat_natCast]
      generalize h.set.getD i 0 = x at hx hdr hlf ⊢
      have hxo := hok.ok x hx
      (refine wl_call (of_ck b _ last lits done tr x hxo.1 hxo.2) ev_ evl_ rfl ?_)
      rintro v w ⟨rfl, H⟩
      refine wl_go H ?_
      clear H w
      simp only [updO_some, updO_none, List.cons_append, List.nil_append]
      generalize hv : valOf tr x = v
      repeat' (first | ((with_reducible first | refine wl_rd ?_ ?_ | refine ar_rd rfl ?_ ?_ | refine wl_rdN ?_ ?_); focus (first | exact trivial | omega | assumption)) | (with_reducible first  | (refine cs_seq ?_; intro _ hK) | apply cs_region | apply cs_block | apply cs_skip | apply cs_ret | apply cs_exit | apply cs_label | apply wl_nil | (apply ar_end; simp only [Made.all, List.map_cons, List.map_nil, List.cons_append, List.nil_append]) | (refine ks_then (by assumption) ?_)  | apply ks_thenRet | apply ks_thenExit | apply ks_blkRet | apply ks_blkNormal | apply ks_block | (apply ks_block' <;> (first | decide | skip))) | (first | ((with_reducible first | apply wl_guard | apply ar_guard); (focus rfl); (focus rfl); (focus decide); (focus exact lk_); all_goals ((intro hgd; (try simp only [decide_eq_true_eq, decide_eq_false_iff_not, Bool.not_true, Bool.not_false, Bool.not_eq_true', Bool.not_eq_false', Bool.and_eq_true, Bool.or_eq_true, Int.not_lt, Int.not_le, reduceCtorEq] at hgd); (try (exfalso; first | exact hgd | omega | contradiction | exact (nomatch (hgd.symm.trans (by assumption) : true = false)) | exact (nomatch (hgd.symm.trans (by assumption) : false = true))))); try simp only [updO_some, updO_none, List.cons_append, List.nil_append])) | ((with_reducible first | apply wl_guardU | apply ar_guardU); (focus rfl); (focus rfl); (focus decide); (focus exact lk_); all_goals (try simp only [updO_some, updO_none, List.cons_append, List.nil_append]))) | ((with_reducible refine cs_if ?_ ?_) <;> (intro hif; (try simp only [decide_eq_true_eq, decide_eq_false_iff_not, Bool.not_true, Bool.not_false, Bool.not_eq_true', Bool.not_eq_false', Bool.and_eq_true, Bool.or_eq_true, Int.not_lt, Int.not_le, reduceCtorEq] at hif); (try (exfalso; first | exact hif | omega | contradiction | exact (nomatch (hif.symm.trans (by assumption) : true = false)) | exact (nomatch (hif.symm.trans (by assumption) : false = true)))))) | ((with_reducible first | refine wl_pick ?_ ?_ | refine ar_pick rfl ?_ ?_) <;> (intro hpk; (try simp only [decide_eq_true_eq, decide_eq_false_iff_not, Bool.not_true, Bool.not_false, Bool.not_eq_true', Bool.not_eq_false', Bool.and_eq_true, Bool.or_eq_true, Int.not_lt, Int.not_le, reduceCtorEq] at hpk); (try (exfalso; first | exact hpk | omega | contradiction | exact (nomatch (hpk.symm.trans (by assumption) : true = false)) | exact (nomatch (hpk.symm.trans (by assumption) : false = true)))))))
      · (refine fp_ret1 rfl get_ ?_)
        exact fun w hw => by
          have e : leftF tr h.set 0 = none := by rw [hlf, leftF, if_pos (.inl (by rw [hv]; assumption))]
          simpa [oneF, hd, e] using hw
      · (refine fp_ret1 rfl get_ ?_)
        exact fun w hw => by
          have e : leftF tr h.set 0 = none := by rw [hlf, leftF, if_pos (.inr ⟨by rw [hv]; assumption, by assumption⟩)]
          simpa [oneF, hd, e] using hw
      · refine ks_ends (i + 1, x) ⟨⟨by show i + 1 ≤ _; omega, ?_, .inr ⟨hx, by rw [hv]; assumption⟩⟩, by show h.set.length - (i + 1) < _; omega⟩ (by (simp only [Slots, acts_tmp, acts_const, acts_func, acts_get, upd_apply, Nat.reduceEqDiff, Nat.reduceLT, Nat.reduceAdd, ↓reduceIte, and_self]; try simp)) (fun w h => h)
        show leftF tr h.set 0 = leftF tr (h.set.drop (i + 1)) x
        rw [hlf, leftF, if_neg (by rw [hv]; rintro (h | ⟨_, h⟩) <;> contradiction), if_pos (by rw [hv]; assumption)]
      · refine ks_ends (i + 1, left) ⟨⟨by show i + 1 ≤ _; omega, ?_, hle⟩, by show h.set.length - (i + 1) < _; omega⟩ (by (simp only [Slots, acts_tmp, acts_const, acts_func, acts_get, upd_apply, Nat.reduceEqDiff, Nat.reduceLT, Nat.reduceAdd, ↓reduceIte, and_self]; try simp)) (fun w h => h)
        show leftF tr h.set 0 = leftF tr (h.set.drop (i + 1)) left
        rw [hlf, leftF, if_neg (by rw [hv]; rintro (h | ⟨h, _⟩) <;> contradiction), if_neg (by rw [hv]; assumption)]
    · (refine fp_ret1 rfl get_ ?_)
      have e : leftF tr h.set 0 = some left := by rw [hlf, List.drop_eq_nil_of_le (by omega)]; rfl
      exact fun w hw => by simpa [oneF, hd, e, hif] using hw
    · have e : leftF tr h.set 0 = some left := by rw [hlf, List.drop_eq_nil_of_le (by omega)]; rfl
      rcases hle with hle | ⟨hm, hv⟩
      · exact absurd hle hif
      have hok' := hok.ok left hm
      have hnn : left.natAbs ∉ tr.map Int.natAbs := by
        intro hmm
        obtain ⟨y, hy, he⟩ := List.mem_map.1 hmm
        unfold valOf at hv
        have : y = left ∨ y = -left := by omega
        rcases this with rfl | rfl
        · rw [if_pos hy] at hv; omega
        · split at hv
          · omega
          · first | omega | (rw [if_pos hy] at hv; omega)
      (refine wl_call (set_tri b _ last lits done tr left hif hok'.2 hnn) ev_ evl_ rfl ?_)
      rintro v w ⟨rfl, H⟩
      refine wl_go H ?_
      clear H w
      simp only [updO_some, updO_none, List.cons_append, List.nil_append]
      repeat' (first | ((with_reducible first | refine wl_rd ?_ ?_ | refine ar_rd rfl ?_ ?_ | refine wl_rdN ?_ ?_); focus (first | exact trivial | omega | assumption)) | (with_reducible first  | (refine cs_seq ?_; intro _ hK) | apply cs_region | apply cs_block | apply cs_skip | apply cs_ret | apply cs_exit | apply cs_label | apply wl_nil | (apply ar_end; simp only [Made.all, List.map_cons, List.map_nil, List.cons_append, List.nil_append]) | (refine ks_then (by assumption) ?_)  | apply ks_thenRet | apply ks_thenExit | apply ks_blkRet | apply ks_blkNormal | apply ks_block | (apply ks_block' <;> (first | decide | skip))) | (first | ((with_reducible first | apply wl_guard | apply ar_guard); (focus rfl); (focus rfl); (focus decide); (focus exact lk_); all_goals ((intro hgd; (try simp only [decide_eq_true_eq, decide_eq_false_iff_not, Bool.not_true, Bool.not_false, Bool.not_eq_true', Bool.not_eq_false', Bool.and_eq_true, Bool.or_eq_true, Int.not_lt, Int.not_le, reduceCtorEq] at hgd); (try (exfalso; first | exact hgd | omega | contradiction | exact (nomatch (hgd.symm.trans (by assumption) : true = false)) | exact (nomatch (hgd.symm.trans (by assumption) : false = true))))); try simp only [updO_some, updO_none, List.cons_append, List.nil_append])) | ((with_reducible first | apply wl_guardU | apply ar_guardU); (focus rfl); (focus rfl); (focus decide); (focus exact lk_); all_goals (try simp only [updO_some, updO_none, List.cons_append, List.nil_append]))) | ((with_reducible refine cs_if ?_ ?_) <;> (intro hif; (try simp only [decide_eq_true_eq, decide_eq_false_iff_not, Bool.not_true, Bool.not_false, Bool.not_eq_true', Bool.not_eq_false', Bool.and_eq_true, Bool.or_eq_true, Int.not_lt, Int.not_le, reduceCtorEq] at hif); (try (exfalso; first | exact hif | omega | contradiction | exact (nomatch (hif.symm.trans (by assumption) : true = false)) | exact (nomatch (hif.symm.trans (by assumption) : false = true)))))) | ((with_reducible first | refine wl_pick ?_ ?_ | refine ar_pick rfl ?_ ?_) <;> (intro hpk; (try simp only [decide_eq_true_eq, decide_eq_false_iff_not, Bool.not_true, Bool.not_false, Bool.not_eq_true', Bool.not_eq_false', Bool.and_eq_true, Bool.or_eq_true, Int.not_lt, Int.not_le, reduceCtorEq] at hpk); (try (exfalso; first | exact hpk | omega | contradiction | exact (nomatch (hpk.symm.trans (by assumption) : true = false)) | exact (nomatch (hpk.symm.trans (by assumption) : false = true)))))))
      (refine fp_ret1 rfl get_ ?_)
      exact fun w hw => by simpa [oneF, hd, e, hif] using hw
end Go.Proofs.Ytkpkehfoilchaaa
