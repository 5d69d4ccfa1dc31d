/- More laws for the walk: deleting from a map, how many it holds, going through it; the least of two. -/
import Derived.Test.YtkpkehfoilchaaaTypes
namespace Go.Proofs.Ytkpkehfoilchaaa
open Go.RowKit
set_option linter.unusedVariables false
variable {P : Program} {m : Meta} {L L' : List HP} {ops : Array Oper} {Q : Exit → Act → World → Prop} {n : Nat} {f : Env} {ds : List Deferred} {rest : List Oper}
  {d : Option Tmp} {ty : TypeId} {pos : String} {aft : Array Edge} {g : Option (Nat × Bool)}

theorem adel_erase {D : List (Int × Value)} {k : Int} {i : Nat} {v : Value} (hn : (D.map (·.1)).Nodup) (h : D[i]? = some (k, v)) : adel D k = D.eraseIdx i := by
  induction D generalizing i with
  | nil => simp at h
  | cons x D ih =>
    have hn' := List.nodup_cons.1 (by simpa using hn : (x.1 :: D.map (·.1)).Nodup)
    cases i with
    | zero =>
      simp only [List.getElem?_cons_zero, Option.some.injEq] at h
      subst h
      unfold adel
      rw [List.filter_cons]
      simp only [bne_self_eq_false, Bool.false_eq_true, if_false, List.eraseIdx_cons_zero]
      refine List.filter_eq_self.2 fun p hp => ?_
      have : p.1 ≠ k := fun e => hn'.1 (e ▸ List.mem_map_of_mem (f := (·.1)) hp)
      simpa using this
    | succ i =>
      simp only [List.getElem?_cons_succ] at h
      have hm : (k, v) ∈ D := List.mem_of_getElem? h
      have hne : x.1 ≠ k := fun e => hn'.1 (e ▸ List.mem_map_of_mem (f := (·.1)) hm)
      have := ih hn'.2 h
      unfold adel at this ⊢
      rw [List.filter_cons]
      simp only [bne_iff_ne, ne_eq, hne, not_false_eq_true, if_true, List.eraseIdx_cons_succ, this]
theorem adel_none {D : List (Int × Value)} {k : Int} (h : afind D k = none) : adel D k = D := by
  have := afind_none.1 h
  refine List.filter_eq_self.2 fun p hp => ?_
  have : p.1 ≠ k := fun e => this (e ▸ List.mem_map_of_mem (f := (·.1)) hp)
  simpa using this
theorem map_eraseIdx' {α β : Type _} (g : α → β) : ∀ (l : List α) (i : Nat), (l.eraseIdx i).map g = (l.map g).eraseIdx i
  | [], _ => rfl
  | _ :: _, 0 => rfl
  | x :: l, i + 1 => by simp [map_eraseIdx' g l i]
theorem MapOk.erase {kk : IntKind} {D : List (Int × Value)} {es : List MapEntry} {clock i : Nat} {k : Int} {v : Value} (h : MapOk kk D es clock) (hf : D[i]? = some (k, v)) : MapOk kk (adel D k) (es.eraseIdx i) clock := by
  rw [adel_erase h.nodup hf]
  refine ⟨?_, ?_, fun e he => h.old e (List.mem_of_mem_eraseIdx he), ?_⟩
  · rw [map_eraseIdx', map_eraseIdx', h.reads]
  · rw [map_eraseIdx']; exact h.nodup.eraseIdx i
  · rw [map_eraseIdx']; exact h.born.eraseIdx i
theorem Sat.imapDel {w : World} {b : Nat} {kk : IntKind} {D : List (Int × Value)} {k : Int} {t t2 kt et : TypeId} [ht : TMap P t kt et] [hk : TInt P kt kk] (h : Sat m (HP.imap b kk D :: L) w) :
    ∃ w', (Builtin.delete_ #[t, t2] ty #[.map (some b), .int kk k]).run P w = .ok (.tuple #[]) w' ∧ Sat m (HP.imap b kk (adel D k) :: L) w' := by
  obtain ⟨es, clock, hb, ho⟩ := imap_at h (List.mem_cons_self ..)
  have hf := run_findKey (P := P) (kt := kt) (k := k) ho.reads w
  have hc := run_checkKey (P := P) (kt := kt) (kk := kk) (k := k) es.isEmpty w
  have hput : ∀ (es' : Array MapEntry) (clock' : Nat), MapOk kk (adel D k) es'.toList clock' → Sat m (HP.imap b kk (adel D k) :: L) { w with heap := w.heap.setIfInBounds b (.map es' clock') } := by
    intro es' clock' hok
    obtain ⟨h0, a, ⟨x, y, dj, rfl, ⟨es0, clock0, rfl, _⟩, hy⟩, h2⟩ := h
    have hblk : Sat m (HP.blk b (.map es0 clock0) :: L) w := ⟨h0, _, ⟨_, y, dj, rfl, rfl, hy⟩, h2⟩
    have hlt : b < w.heap.size := (Array.getElem?_eq_some_iff.1 hb).1
    have := Sat.put (o' := .map es' clock') (w' := { w with heap := w.heap.setIfInBounds b (.map es' clock') }) hblk h0 (by simp [hlt]) (fun i hi => by simp [Ne.symm hi])
    exact this.mono fun hh e => ⟨es', clock', e, hok⟩
  simp only [Builtin.delete_]
  cases hfi : afind D k with
  | none =>
    refine ⟨_, by simp [run_underlying ht.is, getObj, setObj, Sem.run, hb, hc, hf, hfi]; rfl, ?_⟩
    refine hput _ _ ?_
    rw [adel_none hfi]; exact ho
  | some p =>
    obtain ⟨i, u⟩ := p
    have hlt := afind_lt hfi
    refine ⟨_, by simp [run_underlying ht.is, getObj, setObj, Sem.run, hb, hc, hf, hfi]; rfl, ?_⟩
    refine hput _ _ ?_
    have hp := ho.erase hlt.2
    have hsz : i < es.size := by have := congrArg List.length ho.reads; simp at this; omega
    simpa [Array.eraseIdxIfInBounds, hsz] using hp
theorem wl_delete {t t2 kt et : TypeId} {kk : IntKind} {x y : Operand} {b : Nat} {k : Int} {D : List (Int × Value)} [ht : TMap P t kt et] [hk : TInt P kt kk] [hx : Ev n f x (.map (some b))] [hy : Ev n f y (.int kk k)] [hm : MapE L b kk D] [hp : PutE L (HP.imap b kk D) (HP.imap b kk (adel D k)) L']
    (c : WL P ops m L' Q rest n (updO f d (.tuple #[])) ds) : WL P ops m L Q (⟨d, .call { callee := .builtin .delete, args := #[x, y], argTypes := #[t, t2] }, ty, pos, aft, none⟩ :: rest) n f ds := by
  obtain ⟨k0, h0, rfl⟩ := hp.put
  refine wl_upon (Kv := fun v w => v = .tuple #[] ∧ Sat m (L.set k0 (HP.imap b kk (adel D k))) w) (fun w hw => ?_) fun v w ⟨e, h⟩ => by subst e; exact c w h
  obtain ⟨w', hr, hs⟩ := Sat.imapDel (P := P) (ty := ty) (t := t) (t2 := t2) (k := k) (hw.front k0 h0)
  have : (execOp (acts n f ds).eval ⟨d, .call { callee := .builtin .delete, args := #[x, y], argTypes := #[t, t2] }, ty, pos, aft, none⟩).run P w = .ok (.value (.tuple #[])) w' := by
    simp [execOp, resolve, invoke, builtin, hx.ev ds, hy.ev ds, hr]
  rw [this]
  exact ⟨rfl, Sat.back k0 (List.getElem?_eq_some_iff.1 h0).1 hs⟩
instance rd1_lenMap {t kt et : TypeId} {kk : IntKind} {x : Operand} {b : Nat} {D : List (Int × Value)} [ht : TMap P t kt et] [hx : Ev n f x (.map (some b))] [hm : MapE L b kk D] : Rd P L n f ⟨d, .call { callee := .builtin .len, args := #[x], argTypes := #[t] }, ty, pos, aft, g⟩ (.int .i64 D.length) True := ⟨fun _ m ds w hw => by
  obtain ⟨k0, h0⟩ := hm.mp
  obtain ⟨es, clock, hb, ho⟩ := imap_at hw (List.mem_of_getElem? h0)
  have hl : es.size = D.length := by simpa using congrArg List.length ho.reads
  simp [execOp, resolve, invoke, builtin, hx.ev ds, Builtin.len_, run_underlying ht.is, getObj, Sem.run, hb, goInt, hl]⟩
theorem run_min2 {k : IntKind} {a b : Int} (w : World) : (Builtin.min2 (.int k a) (.int k b)).run P w = .ok (.int k (min a b)) w := by
  simp only [Builtin.min2, Sem.run_pure, Result.ok.injEq, Value.int.injEq, true_and, and_true]
  by_cases h : b < a
  · rw [if_pos h]; omega
  · rw [if_neg h]; omega
instance rd1_min {k : IntKind} {x y : Operand} {a b : Int} {ts : Array TypeId} [hx : Ev n f x (.int k a)] [hy : Ev n f y (.int k b)] : Rd P L n f ⟨d, .call { callee := .builtin .min, args := #[x, y], argTypes := ts }, ty, pos, aft, g⟩ (.int k (min a b)) True := ⟨fun _ m ds w hw => by
  have := run_min2 (P := P) (k := k) (a := a) (b := b) w
  simp [execOp, resolve, invoke, builtin, hx.ev ds, hy.ev ds, Builtin.min_, List.foldlM, this]⟩
instance cells_hd2 {b t k : Nat} {cs : List Value} {L : List HP} [hl : LenE cs k] : CellsE (HP.cells b t cs :: L) ⟨b, 0, none⟩ k cs True := ⟨fun _ => ⟨hl.len, fun m w hw j v hv => by
  have := hw.blk (List.mem_cons_self ..)
  rw [addr_add, Nat.zero_add]
  simp [World.cell?, this, hv]⟩⟩
/-! ### going through a map -/
class IterE (L : List HP) (r : Nat) (b : outParam Nat) (kk : outParam IntKind) (D : outParam (List (Int × Value))) (S : outParam (List Int)) (F : outParam (HP → List HP)) : Prop where it : ∃ k : Nat, L[k]? = some (HP.iter b r kk D S) ∧ ∀ p, F p = L.set k p
instance iter_hd {b r : Nat} {kk : IntKind} {D : List (Int × Value)} {S : List Int} {L : List HP} : IterE (HP.iter b r kk D S :: L) r b kk D S (fun p => p :: L) := ⟨0, rfl, fun _ => rfl⟩
instance (priority := low) iter_skip {p : HP} {r b : Nat} {kk : IntKind} {D : List (Int × Value)} {S : List Int} {L : List HP} {F : HP → List HP} [h : IterE L r b kk D S F] : IterE (p :: L) r b kk D S (fun q => p :: F q) := ⟨let ⟨k, h1, h2⟩ := h.it; ⟨k + 1, by simpa using h1, fun q => by simp [h2]⟩⟩
class MapF (L : List HP) (b : Nat) (kk : outParam IntKind) (D : outParam (List (Int × Value))) (F : outParam (HP → List HP)) : Prop where mp : ∃ k : Nat, L[k]? = some (HP.imap b kk D) ∧ ∀ p, F p = L.set k p
instance mapf_hd {b : Nat} {kk : IntKind} {D : List (Int × Value)} {L : List HP} : MapF (HP.imap b kk D :: L) b kk D (fun p => p :: L) := ⟨0, rfl, fun _ => rfl⟩
instance (priority := low) mapf_skip {p : HP} {b : Nat} {kk : IntKind} {D : List (Int × Value)} {L : List HP} {F : HP → List HP} [h : MapF L b kk D F] : MapF (p :: L) b kk D (fun q => p :: F q) := ⟨let ⟨k, h1, h2⟩ := h.mp; ⟨k + 1, by simpa using h1, fun q => by simp [h2]⟩⟩
theorem wl_rangeC {t kt et : TypeId} {kk : IntKind} {x : Operand} {b d : Nat} {D : List (Int × Value)} {F : HP → List HP} [ht : TMap P t kt et] [hx : Ev n f x (.map (some b))] [hm : MapF L b kk D F]
    (c : ∀ r, WL P ops m (F (HP.iter b r kk D [])) Q rest n (upd f d (.pointer (some ⟨r, 0, none⟩))) ds) : WL P ops m L Q (⟨some d, .range t x, ty, pos, aft, none⟩ :: rest) n f ds := by
  obtain ⟨k0, h0, hF⟩ := hm.mp
  exact wl_range k0 h0 (hx.ev ds) fun r => by rw [← hF]; exact c r
theorem wl_nextC {x : Operand} {b r d : Nat} {kk : IntKind} {D : List (Int × Value)} {S : List Int} {F : HP → List HP} [hx : Ev n f x (.pointer (some ⟨r, 0, none⟩))] [hi : IterE L r b kk D S F]
    (c0 : (∀ p ∈ D, p.1 ∈ S) → WL P ops m L Q rest n (upd f d (.tuple #[.bool false])) ds)
    (c1 : ∀ p ∈ D, p.1 ∉ S → WL P ops m (F (HP.iter b r kk D (p.1 :: S))) Q rest n (upd f d (.tuple #[.bool true, .int kk p.1, p.2])) ds) :
    WL P ops m L Q (⟨some d, .next x false, ty, pos, aft, none⟩ :: rest) n f ds := by
  obtain ⟨k0, h0, hF⟩ := hi.it
  exact wl_next k0 h0 (hx.ev ds) c0 fun p hp hS => by rw [← hF]; exact c1 p hp hS
theorem wl_entryC {x : Operand} {b r d : Nat} {kk : IntKind} {D : List (Int × Value)} {S : List Int} {F : HP → List HP} {p : Int × Value} (hp : p ∈ D) [hx : Ev n f x (.pointer (some ⟨r, 0, none⟩))] [hi : IterE L r b kk D (p.1 :: S) F]
    (c : WL P ops m L Q rest n (upd f d (.tuple #[.int kk p.1, p.2])) ds) : WL P ops m L Q (⟨some d, .entry x, ty, pos, aft, none⟩ :: rest) n f ds := by
  obtain ⟨k0, h0, hF⟩ := hi.it
  exact wl_read (rd_entry k0 h0 hp (hx.ev ds)) c
theorem Sat.iterEnd {w : World} {b r : Nat} {kk : IntKind} {D : List (Int × Value)} {S : List Int} {F : HP → List HP} (hw : Sat m L w) (r : Nat) [hi : IterE L r b kk D S F] : Sat m (F (HP.imap b kk D)) w := by
  obtain ⟨k0, h0, hF⟩ := hi.it
  rw [hF]
  exact Sat.back k0 (List.getElem?_eq_some_iff.1 h0).1 (hw.front k0 h0).iter_end
/-- the rest of a list -/
class Suf (L pre : List HP) (R : outParam (List HP)) : Prop where suf : L.Perm (pre ++ R)
instance suf_refl {L : List HP} : Suf L L [] := ⟨by simp⟩
instance (priority := low) suf_skip {q : HP} {L ps R : List HP} [h : Suf L ps R] : Suf (q :: L) ps (q :: R) := ⟨(List.Perm.cons q h.suf).trans List.perm_middle.symm⟩
instance (priority := low) sub_suf {L ps R : List HP} [h : Suf L ps R] : Sub L ps R := ⟨h.suf⟩
end Go.Proofs.Ytkpkehfoilchaaa
