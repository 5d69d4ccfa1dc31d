/- From a law's walk to its row: a reading goes on where the old blocks stand; the world has only grown; arguments as rows that stay. -/
import Derived.Test.YtkpkehfoilchaaaAut4
import Derived.Test.YtkpkehfoilchaaaKeys
import Derived.Lib.SmallJoins
import Derived.RowKit3
namespace Go.Proofs.Ytkpkehfoilchaaa
open Go.RowKit Go.ChangeShapes Go.WideShapes Go.Deep
set_option linter.unusedVariables false
theorem mapM_up {α β : Type} {f f' : α → Option β} : ∀ {l : List α} {r : List β}, l.mapM f = some r → (∀ a y, y ∈ r → f a = some y → f' a = some y) → l.mapM f' = some r
  | [], r, h, _ => by simpa using h
  | a :: l, r, h, hu => by
    rw [List.mapM_cons] at h ⊢
    cases ha : f a with
    | none => simp [ha] at h
    | some b =>
      cases hl : l.mapM f with
      | none => simp [ha, hl] at h
      | some bs =>
        simp [ha, hl] at h
        subst h
        simp [hu a b (by simp) ha, mapM_up hl (fun a y hy => hu a y (List.mem_cons_of_mem _ hy))]
theorem mapM_upM {α β : Type} {f f' : α → Option β} : ∀ {l : List α} {r : List β}, l.mapM f = some r → (∀ a ∈ l, ∀ y, y ∈ r → f a = some y → f' a = some y) → l.mapM f' = some r
  | [], r, h, _ => by simpa using h
  | a :: l, r, h, hu => by
    rw [List.mapM_cons] at h ⊢
    cases ha : f a with
    | none => simp [ha] at h
    | some b =>
      cases hl : l.mapM f with
      | none => simp [ha, hl] at h
      | some bs =>
        simp [ha, hl] at h
        subst h
        simp [hu a (List.mem_cons_self ..) b (by simp) ha, mapM_upM hl (fun a hm y hy => hu a (List.mem_cons_of_mem _ hm) y (List.mem_cons_of_mem _ hy))]
section
variable {H : Type} {enc : TypeId × Value → H} {P : Program} {w w' : World} {base : Nat} {held : Bool}
/-- All old blocks stand. -/
def Old (w w' : World) : Prop := ∀ (i : Nat) (o : Obj), w.heap[i]? = some o → w'.heap[i]? = some o
theorem Old.cell (h : Old w w') {a : Addr} {v : Value} (hc : w.cell? a = some v) : w'.cell? a = some v := by
  unfold World.cell? at hc ⊢
  cases hb : w.heap[a.block]? with
  | none => simp [hb] at hc
  | some o => rw [hb] at hc; rw [h _ _ hb]; exact hc
theorem Old.cells (h : Old w w') {a : Addr} {n : Nat} {cs : List Value} (hc : w.cells? base a n = some cs) : w'.cells? base a n = some cs := by
  unfold World.cells? at hc ⊢
  split at hc
  · rename_i hb
    rw [if_pos hb]
    exact mapM_up hc fun i y _ hy => h.cell hy
  · cases hc
/-- Of these types: what they are made of is among them, every slice's element has a cell. -/
def partOk (P : Program) (T : List TypeId) : Option TypeDesc → Bool
  | some (.pointer e) => T.contains e
  | some (.slice e) => T.contains e && decide (0 < P.cellsOf e)
  | some (.struct fs) => fs.toList.all fun f => T.contains f.type
  | some (.array _ e) => T.contains e
  | some (.map _ e) => T.contains e
  | _ => true
def okT (P : Program) (T : List TypeId) : Bool := T.all fun t => partOk P T (P.underlying t)
theorem okT_at {T : List TypeId} (h : okT P T = true) {t : TypeId} (ht : t ∈ T) : partOk P T (P.underlying t) = true := List.all_eq_true.1 h t ht
theorem step_kept {T : List TypeId} (hz : okT P T = true) (ho : Old w w') {sp : Nat → Bool} {r r' : TypeId → List Value → Option (DataW H × List MemPlace)}
    (hr : ∀ t cs x, t ∈ T → r t cs = some x → (∀ p ∈ x.2, sp p.block = true) → r' t cs = some x) {t : TypeId} (ht : t ∈ T) {cs : List Value} {x : DataW H × List MemPlace}
    (h : DataW.trodStep enc P w base (fun _ => true) true r t cs = some x) (hs : ∀ p ∈ x.2, sp p.block = true) : DataW.trodStep enc P w' base sp true r' t cs = some x := by
  have hT := okT_at hz ht
  unfold DataW.trodStep at h ⊢
  split at h
  case h_6 e a hu =>
    rw [hu] at hT
    have hT : e ∈ T := by simpa [partOk] using hT
    simp only [Option.map_eq_some_iff, Option.bind_eq_some_iff] at h ⊢
    obtain ⟨y, ⟨cs', hc, hy⟩, rfl⟩ := h
    exact ⟨y, ⟨cs', ho.cells hc, hr _ _ _ hT hy fun p hp => hs p (List.mem_append_right _ hp)⟩, rfl⟩
  case h_8 e a len cap hu =>
    rw [hu] at hT
    have hT : e ∈ T ∧ 0 < P.cellsOf e := by simpa [partOk] using hT
    simp only
    simp only at h
    split at h
    · rename_i hb
      rw [if_pos hb]
      simp only [Option.map_eq_some_iff, Option.bind_eq_some_iff, if_true] at h ⊢
      obtain ⟨elems, he, rest, hrest, rfl⟩ := h
      have up : ∀ i y, y ∈ elems ++ rest → (w.cells? base (a.add (i * P.cellsOf e)) (P.cellsOf e)).bind (r e) = some y → (w'.cells? base (a.add (i * P.cellsOf e)) (P.cellsOf e)).bind (r' e) = some y := fun i y hy hi => by
        simp only [Option.bind_eq_some_iff] at hi ⊢
        obtain ⟨cs', hc, hy'⟩ := hi
        exact ⟨cs', ho.cells hc, hr _ _ _ hT.1 hy' fun p hp => hs p (List.mem_append_right _ (List.mem_flatMap.2 ⟨y, hy, hp⟩))⟩
      refine ⟨elems, mapM_up he fun i y hy => up i y (List.mem_append_left _ hy), rest, ?_, rfl⟩
      split
      · exact mapM_up hrest fun j y hy => up (len + j) y (List.mem_append_right _ hy)
      · rename_i hn
        cases rest with
        | nil => rfl
        | cons y ys =>
          exfalso; apply hn
          have hpos := hT.2
          have := hs (.cell a.block (a.off + 0)) (List.mem_append_left _ (MemPlace.mem_row.2 ⟨0, Nat.mul_pos (by simp; omega) hpos, rfl⟩))
          exact this
    · cases h
  case h_9 cs fs hu =>
    rw [hu] at hT
    have hT : ∀ f ∈ fs.toList, f.type ∈ T := fun f hf => by simpa using List.all_eq_true.1 hT f hf
    split at h
    · rename_i hl
      rw [if_pos hl]
      simp only [Option.map_eq_some_iff] at h ⊢
      obtain ⟨xs, hx, rfl⟩ := h
      exact ⟨xs, mapM_upM hx fun f hm y hy hf => hr _ _ _ (hT f hm) hf fun p hp => hs p (List.mem_flatMap.2 ⟨y, hy, hp⟩), rfl⟩
    · cases h
  case h_10 cs n e hu =>
    rw [hu] at hT
    have hT : e ∈ T := by simpa [partOk] using hT
    split at h
    · rename_i hl
      rw [if_pos hl]
      simp only [Option.map_eq_some_iff] at h ⊢
      obtain ⟨xs, hx, rfl⟩ := h
      exact ⟨xs, mapM_up hx fun f y hy hf => hr _ _ _ hT hf fun p hp => hs p (List.mem_flatMap.2 ⟨y, hy, hp⟩), rfl⟩
    · cases h
  case h_14 k e b hu =>
    rw [hu] at hT
    have hT : e ∈ T := by simpa [partOk] using hT
    split at h
    · rename_i es clock hb
      rw [ho _ _ hb]
      simp only
      split at h
      · rename_i hc
        rw [if_pos hc]
        simp only [Option.bind_eq_some_iff] at h ⊢
        obtain ⟨entries, he, hd⟩ := h
        refine ⟨entries, mapM_up he fun x y hy hx => ?_, hd⟩
        split at hd
        · have hx' := Option.some.inj hd
          subst hx'
          simp only [Option.bind_eq_some_iff] at hx ⊢
          obtain ⟨key, hk, hz'⟩ := hx
          refine ⟨key, hk, ?_⟩
          split at hz'
          · rename_i hf
            rw [if_pos hf]
            simp only [Option.map_eq_some_iff] at hz' ⊢
            obtain ⟨q, hq, rfl⟩ := hz'
            exact ⟨q, hr _ _ _ hT hq fun p hp => hs p (List.mem_cons_of_mem _ (List.mem_flatMap.2 ⟨_, hy, hp⟩)), rfl⟩
          · cases hz'
        · cases hd
      · cases h
    · cases h
  all_goals first | (cases h; done) | (simp_all; done)
theorem trod_kept {T : List TypeId} (hz : okT P T = true) (ho : Old w w') {sp : Nat → Bool} : ∀ (n : Nat) (t : TypeId) (cs : List Value) (x : DataW H × List MemPlace), t ∈ T → DataW.trod enc P w base (fun _ => true) true n t cs = some x → (∀ p ∈ x.2, sp p.block = true) → DataW.trod enc P w' base sp true n t cs = some x
  | 0, t, cs, x, _, h, _ => by simp [DataW.trod] at h
  | n + 1, t, cs, x, ht, h, hs => by
    rw [DataW.trod_step] at h ⊢
    exact step_kept hz ho (trod_kept hz ho n) ht h hs
theorem trodAll_kept {T : List TypeId} (hz : okT P T = true) (ho : Old w w') {sp : Nat → Bool} : ∀ {ts : List TypeId} {vs : List Value} {ds : List (DataW H)} {ps : List MemPlace}, (∀ t ∈ ts, t ∈ T) → DataW.TrodAll enc P w base (fun _ => true) true ts vs ds ps → (∀ p ∈ ps, sp p.block = true) → DataW.TrodAll enc P w' base sp true ts vs ds ps
  | [], [], [], _, _, h, _ => h
  | _ :: _, _ :: _, _ :: _, _, ht, ⟨a, b, ⟨n, h1⟩, h2, e⟩, hs => by
    subst e
    exact ⟨a, b, ⟨n, trod_kept hz ho n _ _ _ (ht _ (List.mem_cons_self ..)) h1 fun p hp => hs p (List.mem_append_left _ hp)⟩, trodAll_kept hz ho (fun t h => ht t (List.mem_cons_of_mem _ h)) h2 fun p hp => hs p (List.mem_append_right _ hp), rfl⟩
end
/-! ### a world whose blocks stay -/
def meta0 (w : World) : Meta := { Meta.of w with drawn := 0 }
instance m0_meta0 {w : World} : M0 (meta0 w) := ⟨rfl⟩
theorem sat_ro (w : World) : Sat (meta0 w) [HP.ro (wph w)] w :=
  ⟨⟨rfl, rfl, rfl, Nat.zero_le _⟩, wph w, ⟨wph w, PH.nil, fun i => .inr rfl, (PH.un_nil _).symm, rfl, rfl⟩, fun _ _ e => e⟩
theorem sat_old {m : Meta} {w w' : World} (h : Sat m [HP.ro (wph w)] w') : Old w w' := by
  obtain ⟨_, hp, ⟨h1, h2, hd, rfl, e1, e2⟩, hle⟩ := h
  intro i o hi
  refine hle i o ?_
  have e1' : h1 = wph w := e1
  subst e1'
  simp only [PH.un, wph, hi]
theorem old_kept {w w' : World} (h : Old w w') (h1 : w'.os = w.os) (h2 : w'.output = w.output) (may : MemPlace → Prop) : w.keptBut w' may := by
  refine ⟨h1, h2, fun i hi => ?_⟩
  have hw : w.heap[i]? = some w.heap[i] := Array.getElem?_eq_getElem hi
  rw [hw, h _ _ hw]
  cases w.heap[i] with
  | cells c t fr => exact ⟨rfl, rfl, rfl, fun _ _ => rfl⟩
  | map es clock => exact .inr ⟨rfl, rfl⟩
  | _ => rfl
theorem post_of_old {H : Type} {enc : TypeId × Value → H} {P : Program} {f : Func} {s : ChangeSpec} {apart fresh handsOn again : Bool} {W W' : World} {args : Array Value} {v : Value} {ds : List (DataW H)} {before : List MemPlace}
    {T : List TypeId} (hz : okT P T = true) (hT : ∀ t ∈ f.params.toList, t ∈ T) (hv : s.vars = []) (hW : DataW.Whole enc P f.params.toList s.vars apart W args.toList ds [] before)
    (ho : Old W W') (hos : W'.os = W.os) (hout : W'.output = W.output)
    (hres : ∀ (b : Nat) (sp : Nat → Bool) (hd : Bool), DataW.TrodAll enc P W' b sp hd f.resultTypes.toList (v.resultList f.resultTypes.size) (s.fn H ds).results [])
    (ha : (s.fn H ds).args = ds) (hvs : (s.fn H ds).vars = [])
    (hok : ∀ (j : Nat) (t : TypeId) (r : Value), f.resultTypes[j]? = some t → (v.resultList f.resultTypes.size)[j]? = some r → Value.okWide P W' .any 0 t r) :
    s.post enc P f apart fresh handsOn again W args v W' := by
  have hold : ∀ p ∈ before, (fun b => decide (b < W.heap.size)) p.block = true := fun p hp => by simpa using hW.lt p hp
  have hW' := hW
  obtain ⟨pa, pv, hA, hV, rfl, hfz, hnd⟩ := hW'
  rw [hv] at hV
  have hpv : pv = [] := hV
  subst hpv
  have hargs : ∀ sp : Nat → Bool, (∀ p ∈ pa ++ [], sp p.block = true) → DataW.TrodAll enc P W' 0 sp true f.params.toList args.toList (s.fn H (ds ++ [])).args pa := fun sp hsp => by
    rw [List.append_nil, ha]
    exact trodAll_kept hz ho hT hA fun p hp => hsp p (by simpa using hp)
  have hvars : ∀ sp : Nat → Bool, DataW.TrodVars enc P W' sp s.vars (s.fn H (ds ++ [])).vars [] := fun sp => by
    rw [hv, List.append_nil, hvs]
    exact rfl
  have hr : ∀ (b : Nat) (sp : Nat → Bool) (hd : Bool), DataW.TrodAll enc P W' b sp hd f.resultTypes.toList (v.resultList f.resultTypes.size) (s.fn H (ds ++ [])).results [] := fun b sp hd => by rw [List.append_nil]; exact hres b sp hd
  refine ⟨ds, [], pa ++ [], [], pa, [], hW, hr _ _ _, hargs _ hold, hvars _, World.keptBut_mono (fun p hp => ⟨hp, ?_⟩) (old_kept ho hos hout (· ∈ pa ++ [])), fun _ => ?_⟩
  · simpa using hp
  · refine ⟨hok, _, _, ([] ++ pa) ++ [], ⟨[] ++ pa, [], trodAll_append (hargs _ (fun _ _ => rfl)) (hr _ _ _), hvars _, rfl, ?_, ?_⟩, ?_⟩
    · intro b off hp
      have hp' : MemPlace.cell b off ∈ pa ++ [] := by simpa using hp
      have hlt : b < W.heap.size := hW.lt _ hp'
      have hw : W.heap[b]? = some W.heap[b] := Array.getElem?_eq_getElem hlt
      have := hfz b off hp'
      simp only [World.frozen?, hw] at this
      simp only [World.frozen?, ho _ _ hw]
      exact this
    · intro ha
      simpa using hnd ha
    · intro p hp _
      simpa using hp
/-! ### what comes in, as rows that stay -/
section
variable {H : Type} {enc : TypeId × Value → H} {P : Program} {w : World} {held : Bool}
theorem slr_of {a : Addr} {len cap : Nat} {V : Nat → Value} (hl : len ≤ cap) (hm : cap ≤ maxLen) (hc : ∀ i, i < len → w.cell? (a.add i) = some (V i)) : SlR (wph w) (.slice (some a) len cap) ((List.range len).map V) :=
  ⟨some a, len, cap, rfl, by simp, hl, hm, fun i x hx => ⟨a, rfl, by
    rw [List.getElem?_map] at hx
    by_cases hi : i < len
    · rw [List.getElem?_range hi] at hx
      cases hx
      exact hc i hi
    · rw [List.getElem?_eq_none (by simpa using hi)] at hx
      cases hx⟩⟩
theorem row_sl {A : Option Addr} {len c : Nat} {xs : List Value} (h : SlR (wph w) (.slice A len c) xs) : RowA [HP.ro (wph w)] A len c xs := @row_ro _ _ _ _ _ _ ⟨h⟩
theorem row_slz {A : Option Addr} {sz len c : Nat} {xs : List (List Value)} (h : SlZ (wph w) sz A len c xs) : RowZ [HP.ro (wph w)] A sz len c xs := @rowz_ro _ _ _ _ _ _ _ ⟨h⟩
theorem slz_nil {h : PH} {sz : Nat} : SlZ h sz none 0 0 [] := ⟨rfl, Nat.le_refl _, fun i cs hi => by simp at hi⟩
end
end Go.Proofs.Ytkpkehfoilchaaa
