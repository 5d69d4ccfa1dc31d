/- Law 6, 'CheckSound': what comes in as rows that stay, the walk, the row. -/
import Derived.Test.YtkpkehfoilchaaaRow0
import Derived.Test.YtkpkehfoilchaaaLw5
import Derived.Test.YtkpkehfoilchaaaRows
import Derived.WalkKit
import Derived.ProofKit
import Derived.OpenShut
import Derived.JoinedCond
namespace Go.Proofs.Ytkpkehfoilchaaa
open Go.RowKit Go.ChangeShapes Go.WideShapes Go.Deep Go.ChangeAt Go.Joins
set_option linter.unusedVariables false
set_option maxHeartbeats 1000000
section
variable {H : Type} {enc : TypeId × Value → H} {w : World}
theorem lits_bulk {k : IntKind} : ∀ l : List Int, Rows.uptoBulkAll (lits (H := H) k l) = l.length
  | [] => rfl
  | x :: r => by
    have := lits_bulk (k := k) r
    simp only [lits, List.map_cons, Rows.uptoBulkAll, Rows.uptoBulk, List.length_cons] at this ⊢
    omega
theorem bulk_pos (d : DataW H) : 1 ≤ Rows.uptoBulk d := by
  cases d with
  | lit l => cases l <;> simp [Rows.uptoBulk]
  | _ => simp [Rows.uptoBulk]
theorem bulk_mem {d : DataW H} : ∀ {l : List (DataW H)}, d ∈ l → Rows.uptoBulk d ≤ Rows.uptoBulkAll l
  | x :: r, h => by
    simp only [Rows.uptoBulkAll]
    rcases List.mem_cons.1 h with rfl | h
    · omega
    · have := bulk_mem h; omega
theorem bulk_len : ∀ l : List (DataW H), l.length ≤ Rows.uptoBulkAll l
  | [] => by simp
  | x :: r => by
    have := bulk_len r
    have := bulk_pos x
    simp only [Rows.uptoBulkAll, List.length_cons]; omega
theorem ints_open {t e : TypeId} {k : IntKind} {n : Nat} {v : Value} {y : DataW H × List MemPlace} (ht : Try.prog.underlying t = some (.slice e)) (he : Try.prog.underlying e = some (.int k)) (hc : Try.prog.cellsOf e = 1)
    (h : DataW.trod enc Try.prog w 0 (fun _ => true) true n t [v] = some y) :
    ∃ (A : Option Addr) (c : Nat) (zs : List Int), v = .slice A zs.length c ∧ SlR (wph w) (.slice A zs.length c) (zs.map (Value.int k)) ∧ (∀ z ∈ zs, (Lit.int k z).wf = true) ∧ zs.length + 1 ≤ Rows.uptoBulk y.1 := by
  rcases open_ints ht he hc h with ⟨hv, hy⟩ | ⟨a, len, cap, zs, hcs, _, hl, hm, hz, hy, hcell, hwz⟩
  · cases hv; subst hy
    exact ⟨none, 0, [], rfl, SlR.nil _, by simp, by simp [Rows.uptoBulk]⟩
  · simp only [if_true] at hz
    cases hcs; subst hy
    have hlen : (zs.take len).length = len := by simp; omega
    refine ⟨some a, cap, zs.take len, by rw [hlen], ?_, fun z hzm => hwz z (List.mem_of_mem_take hzm), ?_⟩
    · rw [hlen]
      refine ⟨some a, len, cap, rfl, by simp; omega, hl, hm, fun i x hx => ⟨a, rfl, ?_⟩⟩
      rw [List.getElem?_map] at hx
      by_cases hi : i < len
      · rw [List.getElem?_take_of_lt hi, List.getElem?_eq_getElem (by omega)] at hx
        cases hx
        have := hcell i (by omega)
        rw [List.getD_eq_getElem?_getD, List.getElem?_eq_getElem (by omega)] at this
        exact this
      · rw [List.getElem?_eq_none (by omega)] at hx
        cases hx
    · simp only [Rows.uptoBulk, lits_bulk, hlen]; omega
theorem l32_of {zs : List Int} (h : ∀ z ∈ zs, (Lit.int .i32 z).wf = true) : L32 zs := fun z hz => by
  have := h z hz
  simpa [Lit.wf, IntKind.min, IntKind.max, IntKind.signed, IntKind.bits] using this
theorem tot_le {f : Nat → ClV} {D : Nat → DataW H} : ∀ l : List Nat, (∀ i ∈ l, (f i).lits.length + 1 ≤ Rows.uptoBulk (D i)) → totN (l.map f) + l.length ≤ Rows.uptoBulkAll (l.map D)
  | [], _ => by simp [totN]
  | x :: r, h => by
    have h1 := tot_le r fun i hi => h i (List.mem_cons_of_mem _ hi)
    have h2 := h x (List.mem_cons_self ..)
    simp only [List.map_cons, totN, Rows.uptoBulkAll, List.length_cons]; omega
theorem form_open {n : Nat} {v : Value} {y : DataW H × List MemPlace} (h : DataW.trod enc Try.prog w 0 (fun _ => true) true n 22 [v] = some y) :
    ∃ (fA : Option Addr) (fc : Nat) (cls : List ClV), v = .slice fA cls.length fc ∧ FormR [HP.ro (wph w)] fA fc cls ∧ (∀ x ∈ cls, L32 x.lits) ∧ totN cls + cls.length + 1 ≤ Rows.uptoBulk y.1 := by
  rcases open_slice1 Try.underlying22 (by kernel_rfl) h with ⟨hv, hy⟩ | ⟨a, len, cap, m, n, V, D, Pl, hcs, _, hl, hm, hmm, hy, hx⟩
  · cases hv; subst hy
    exact ⟨none, 0, [], rfl, ⟨row_nil, by simp⟩, by simp, by simp [totN, Rows.uptoBulk]⟩
  · simp only [if_true] at hmm
    subst hmm; cases hcs; subst hy
    obtain ⟨f, hf⟩ := choose_lt (α := ClV) (n := len) (p := fun i x => V i = x.val ∧ SlR (wph w) x.val (l32 x.lits) ∧ L32 x.lits ∧ x.lits.length + 1 ≤ Rows.uptoBulk (D i)) (fun i hi => by
      obtain ⟨A, c, zs, h1, h2, h3, h4⟩ := ints_open Try.underlying39 Try.underlying46 (by kernel_rfl) (hx i (by omega)).2
      exact ⟨⟨A, c, zs⟩, h1, h2, l32_of h3, h4⟩)
    have hV : (List.range len).map V = ((List.range len).map f).map ClV.val := by
      rw [List.map_map]
      exact List.map_congr_left fun i hi => (hf i (List.mem_range.1 hi)).1
    have hlen : ((List.range len).map f).length = len := by simp
    refine ⟨some a, m, (List.range len).map f, by rw [hlen], ⟨?_, fun x hxm => ?_⟩, fun x hxm => ?_, ?_⟩
    · rw [hlen, ← hV]
      exact row_sl (slr_of hl hm fun i hi => (hx i (by omega)).1)
    · obtain ⟨i, hi, rfl⟩ := List.mem_map.1 hxm
      exact row_sl (hf i (List.mem_range.1 hi)).2.1
    · obtain ⟨i, hi, rfl⟩ := List.mem_map.1 hxm
      exact (hf i (List.mem_range.1 hi)).2.2.1
    · have := tot_le (f := f) (D := D) (List.range len) fun i hi => (hf i (List.mem_range.1 hi)).2.2.2
      simp only [Rows.uptoBulk, List.length_map]; omega
theorem list4 {α : Type} {l : List α} (h : l.length = 4) : ∃ c0 c1 c2 c3, l = [c0, c1, c2, c3] := by
  match l, h with
  | [c0, c1, c2, c3], _ => exact ⟨c0, c1, c2, c3, rfl⟩
theorem steps_open {n : Nat} {v : Value} {y : DataW H × List MemPlace} (h : DataW.trod enc Try.prog w 0 (fun _ => true) true n 25 [v] = some y) :
    ∃ (A : Option Addr) (c : Nat) (l : List StV), v = .slice A l.length c ∧ StepsR [HP.ro (wph w)] A c l ∧ (∀ x ∈ l, L32 x.lits) ∧ (∀ x ∈ l, x.lits.length + x.hints.length ≤ Rows.uptoBulk y.1) ∧ l.length ≤ Rows.uptoBulk y.1 := by
  rcases open_slice Try.underlying25 h with ⟨hv, hy⟩ | ⟨a, len, cap, m, n, D, Pl, hcs, _, hl, hm, hmm, hy, hx⟩
  · cases hv; subst hy
    exact ⟨none, 0, [], rfl, ⟨row_slz slz_nil, by simp, by simp⟩, by simp, by simp, by simp⟩
  · simp only [if_true] at hmm
    subst hmm; cases hcs; subst hy
    have h4 : Try.prog.cellsOf 42 = 4 := by kernel_rfl
    obtain ⟨f, hf⟩ := choose_lt (α := StV) (n := len) (p := fun i x => (∀ (j : Nat) (v : Value), x.cells[j]? = some v → w.cell? (a.add (i * 4 + j)) = some v) ∧ SlR (wph w) (.slice x.A x.lits.length x.c) (l32 x.lits) ∧ SlR (wph w) (.slice x.A2 x.hints.length x.c2) (i64s x.hints) ∧ L32 x.lits ∧
        x.lits.length + x.hints.length ≤ Rows.uptoBulk (D i)) (fun i hi => by
      obtain ⟨cs', hc, hd⟩ := hx i (by omega)
      rw [h4] at hc
      obtain ⟨_, hl4, hcell⟩ := World.cells?_some hc
      obtain ⟨y0, y1, y2, y3, n', hD, _, r0, r1, r2, r3⟩ := trod_struct4 Try.underlying42 hd
      obtain ⟨c0, c1, c2, c3, rfl⟩ : ∃ c0 c1 c2 c3, cs' = [c0, c1, c2, c3] := list4 hl4
      have k0 : Try.prog.cellsOf 5 = 1 := by kernel_rfl
      have k1 : Try.prog.cellsOf 2 = 1 := by kernel_rfl
      have k2 : Try.prog.cellsOf 39 = 1 := by kernel_rfl
      have k3 : Try.prog.cellsOf 40 = 1 := by kernel_rfl
      simp only [k0, List.drop_zero, List.take_succ_cons, List.take_zero] at r0
      simp only [k1, List.drop_succ_cons, List.drop_zero, List.take_succ_cons, List.take_zero] at r1
      simp only [k2, List.drop_succ_cons, List.drop_zero, List.take_succ_cons, List.take_zero] at r2
      simp only [k3, List.drop_succ_cons, List.drop_zero, List.take_succ_cons, List.take_zero] at r3
      obtain ⟨z0, e0, -, -⟩ := DataW.trod_int Try.underlying5 r0
      obtain ⟨z1, e1, -, -⟩ := DataW.trod_int Try.underlying2 r1
      obtain ⟨A, c, zs, e2, s2, w2, b2⟩ := ints_open Try.underlying39 Try.underlying46 (by kernel_rfl) r2
      obtain ⟨A2, cc2, zs2, e3, s3, w3, b3⟩ := ints_open Try.underlying40 Try.underlying2 (by kernel_rfl) r3
      cases e0; cases e1; subst e2; subst e3
      refine ⟨⟨z0, z1, A, c, zs, A2, cc2, zs2⟩, fun j v hj => ?_, s2, s3, l32_of w2, ?_⟩
      · have hj4 : j < 4 := by
          rcases Nat.lt_or_ge j 4 with h | h
          · exact h
          · rw [List.getElem?_eq_none (by simpa using h)] at hj; cases hj
        have := hcell j hj4
        rw [Deep.add_add] at this
        rw [this]; exact hj
      · simp only [Prod.mk.injEq] at hD
        rw [hD.1]
        simp only [Rows.uptoBulk, Rows.uptoBulkAll]; omega)
    have hlen : ((List.range len).map f).length = len := by simp
    have hb : ∀ i, i < len → Rows.uptoBulk (D i) ≤ Rows.uptoBulkAll ((List.range len).map D) := fun i hi => bulk_mem (List.mem_map.2 ⟨i, List.mem_range.2 hi, rfl⟩)
    refine ⟨some a, m, (List.range len).map f, by rw [hlen], ⟨?_, fun x hxm => ?_, fun x hxm => ?_⟩, fun x hxm => ?_, fun x hxm => ?_, ?_⟩
    · rw [hlen]
      refine row_slz ⟨by simp, hl, fun i cs hi => ?_⟩
      rw [List.getElem?_map, List.getElem?_map] at hi
      by_cases hil : i < len
      · rw [List.getElem?_range hil] at hi
        cases hi
        exact ⟨rfl, a, rfl, fun j x hj => (hf i hil).1 j x hj⟩
      · rw [List.getElem?_eq_none (by simpa using hil)] at hi
        cases hi
    · obtain ⟨i, hi, rfl⟩ := List.mem_map.1 hxm
      exact row_sl (hf i (List.mem_range.1 hi)).2.1
    · obtain ⟨i, hi, rfl⟩ := List.mem_map.1 hxm
      exact row_sl (hf i (List.mem_range.1 hi)).2.2.1
    · obtain ⟨i, hi, rfl⟩ := List.mem_map.1 hxm
      exact (hf i (List.mem_range.1 hi)).2.2.2.1
    · obtain ⟨i, hi, rfl⟩ := List.mem_map.1 hxm
      have h1 := (hf i (List.mem_range.1 hi)).2.2.2.2
      have h2 := hb i (List.mem_range.1 hi)
      simp only [Rows.uptoBulk]; omega
    · have := bulk_len ((List.range len).map D)
      rw [List.length_map, List.length_range] at this
      simp only [Rows.uptoBulk, hlen]; omega
end
theorem own : ownKnob Try.prog.godebug = none := by kernel_rfl
def reads : List TypeId := [2, 3, 5, 46, 40, 39, 22, 24, 42, 25]
theorem reads_ok : okT Try.prog reads = true := by kernel_rfl
theorem params_in : ∀ t ∈ Try.f3.params.toList, t ∈ reads := by rw [Try.params3]; decide
theorem cells_form : Try.prog.cellsOf 24 = 2 := by kernel_rfl
set_option maxRecDepth 20000 in
theorem contract (H : Type) (enc : TypeId × Value → H) (W : World) (base : Nat) (args : Array Value) (ds gs : List (DataW H)) (before : List MemPlace)
    (hval : ∀ (j : Nat) t v, Try.f3.params[j]? = some t → args[j]? = some v → Value.okWide Try.prog W .any base t v)
    (hW : DataW.Whole enc Try.prog Try.f3.params.toList Rows.checkSoundSpec.vars false W args.toList ds gs before) (hk : Rows.uptoSmall H (ds ++ gs) = true) :
    Calls Try.prog 3 args W fun e W' => ∃ v, e = .returned v ∧ Rows.checkSoundSpec.post enc Try.prog Try.f3 false true false false W args v W' := by
  have hW' := hW
  obtain ⟨p, q, hA0, hV, rfl, hfz, hnd⟩ := hW
  have hA : DataW.TrodAll enc Try.prog W 0 (fun _ => true) true Try.f3.params.toList args.toList ds p := hA0
  rw [Try.params3] at hA hval
  obtain ⟨v0, vs0, d0, ds0, p0, q0, hargs, rfl, rfl, h0, r0⟩ := trodAll_cons hA
  obtain ⟨v1, vs1, d1, ds1, p1, q1, rfl, rfl, rfl, h1, r1⟩ := trodAll_cons r0
  obtain ⟨rfl, rfl, rfl⟩ := trodAll_nil r1
  obtain rfl : args = #[v0, v1] := by cases args; simp_all
  obtain ⟨rfl, rfl⟩ := trodVars_none hV
  obtain ⟨x0, x1, y0, y1, n0, rfl, rfl, rfl, g0, g1⟩ := open_agg2 Try.underlying24 (by kernel_rfl) cells_form (hval 0 24 v0 rfl rfl) h0
  obtain ⟨a1, len1, cap1, rfl⟩ := okWide_slice Try.underlying25 (hval 1 25 v1 rfl rfl)
  obtain ⟨fuel, h1⟩ := h1
  obtain ⟨vars, hx0, -, -⟩ := DataW.trod_int Try.underlying3 g0
  obtain ⟨fA, fc, cls, hx1, hF, hc32, hct⟩ := form_open g1
  obtain ⟨A, c, l, hx2, hS, hs32, hsb, hsl⟩ := steps_open h1
  cases hx0; subst hx1; cases hx2
  simp only [List.append_nil] at hk hW'
  simp only at hsb hsl
  have hb : Rows.uptoBulkAll [DataW.agg [y0.1, y1.1], d1] ≤ 1048576 := of_decide_eq_true hk
  simp only [Rows.uptoBulkAll, Rows.uptoBulk] at hb
  have T := law_tri (m := meta0 W) vars fA fc cls ⟨hc32, fun x hx => by have := totN_mem hx; omega, by omega⟩ (by omega) hF a1 cap1 l ⟨hs32, fun x hx => by have := hsb x hx; omega, fun x hx => by have := hsb x hx; omega, by omega⟩ hS W (sat_ro W)
  refine T.mono fun e W' ⟨v, he, hv, hs⟩ => ?_
  subst he; subst hv
  have hres : ∀ (b : Nat) (sp : Nat → Bool) (hd : Bool), DataW.TrodAll enc Try.prog W' b sp hd Try.f3.resultTypes.toList ((Value.bool true).resultList Try.f3.resultTypes.size) (Rows.checkSoundSpec.fn H [DataW.agg [y0.1, y1.1], d1]).results [] := fun _ _ _ => trodAll_cons_mk (shut_bool Try.underlying4 _) trodAll_mk0
  have hok : ∀ (j : Nat) (t : TypeId) (r : Value), Try.f3.resultTypes[j]? = some t → ((Value.bool true).resultList Try.f3.resultTypes.size)[j]? = some r → Value.okWide Try.prog W' .any 0 t r := ok_one (by kernel_rfl) rfl (okWide_bool_mk Try.underlying4 _)
  exact ⟨_, rfl, post_of_old reads_ok params_in rfl hW' (sat_old hs) hs.1.1 hs.1.2.2.1 hres rfl rfl hok⟩
set_option maxRecDepth 100000 in
theorem lifted (os : Os) (started : os.Started) (H : Type) (enc : TypeId × Value → H) (F : Stop.Interp) :
    ReturnsInHanded {} Try.checked os 3 .any ((Rows.OpenSpec.upto Rows.checkSoundSpec).pre6 enc Try.prog Try.f3 Rows.checkSoundUptoRow.domain false) (((Rows.OpenSpec.upto Rows.checkSoundSpec).at F).post enc Try.prog Try.f3 false true false false) := by
  refine returnsInHanded_of_cond (C := Try.checked) (s := Rows.OpenSpec.upto Rows.checkSoundSpec) (k := Rows.uptoSmall) rfl own started (by kernel_rfl) Try.func3
    (OpenSpec.witness (enc := enc) (C := Try.checked) (s := Rows.OpenSpec.upto Rows.checkSoundSpec) (k := Rows.uptoSmall) rfl false ⟨#[], #[.agg #[.int .i64 0, .slice none 0 0], .slice none 0 0], []⟩ 8 (by kernel_rfl) (by kernel_rfl) (by kernel_rfl)
      (x := ([.agg [.lit (.int .i64 0), .nil], .nil], [], [])) (by kernel_rfl) rfl (by kernel_rfl)) ?_
  intro W base args ds gs before hval hW _ hk _
  exact contract H enc W base args ds gs before hval hW hk
theorem proved : Rows.CheckSoundUptoSaid :=
  OpenClaim.holds_of_cond 3 Try.f3 rfl rfl rfl rfl rfl rfl rfl ⟨rfl, rfl, rfl, rfl, rfl⟩ rfl rfl rfl rfl rfl (by kernel_rfl) Try.func3 (by kernel_rfl)
    (of_decide_eq_true (by kernel_rfl)) (by unfold Func.isWrapper; first | (rw [if_pos (by decide +kernel)]; kernel_rfl) | (rw [if_neg (by decide +kernel)]; exact ⟨rfl, rfl⟩))
    (fun os started H enc _ F => lifted os started H enc F)
end Go.Proofs.Ytkpkehfoilchaaa
