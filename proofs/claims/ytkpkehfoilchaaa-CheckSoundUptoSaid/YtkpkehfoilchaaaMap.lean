/- What is written: cells, new blocks, appends; maps with whole numbers as keys. -/
import Derived.Test.YtkpkehfoilchaaaMem
namespace Go.Proofs.Ytkpkehfoilchaaa
open Go.RowKit

variable {P : Program} {m : Meta} {L L' : List HP} {ops : Array Oper} {Q : Exit → Act → World → Prop} {n : Nat} {f : Env} {ds : List Deferred} {qs : List (Nat × QS)} {K : Act → Made → Prop} {R : Made} {rest : List Oper} {resta : List (Nat × Oper)}
  {d : Option Tmp} {ty : TypeId} {pos : String} {aft : Array Edge} {g : Option (Nat × Bool)} {ρ : Operand → Value}

/-! ### one part of the list for another -/
theorem eraseIdx_perm {α : Type _} : ∀ (l : List α) (k : Nat) (x : α), l[k]? = some x → (x :: l.eraseIdx k).Perm l
  | [], _, _, h => by simp at h
  | a :: l, 0, x, h => by simp at h; subst h; exact List.Perm.refl _
  | a :: l, k + 1, x, h => by
    have := eraseIdx_perm l k x (by simpa using h)
    exact (List.Perm.swap a x _).trans (List.Perm.cons a this)
theorem set_perm {α : Type _} : ∀ (l : List α) (k : Nat) (x : α), k < l.length → (l.set k x).Perm (x :: l.eraseIdx k)
  | [], _, _, h => by simp at h
  | a :: l, 0, x, h => List.Perm.refl _
  | a :: l, k + 1, x, h => by
    have := set_perm l k x (by simpa using h)
    exact (List.Perm.cons a this).trans (List.Perm.swap x a _)
theorem Sat.front {w : World} {p : HP} (h : Sat m L w) (k : Nat) (hk : L[k]? = some p) : Sat m (p :: L.eraseIdx k) w := by
  exact h.perm (eraseIdx_perm L k p hk).symm
theorem Sat.back {w : World} {p : HP} (k : Nat) (hk : k < L.length) (h : Sat m (p :: L.eraseIdx k) w) : Sat m (L.set k p) w :=
  h.perm (set_perm L k p hk).symm
theorem Sat.set {w w' : World} {p p' : HP} (h : Sat m L w) (k : Nat) (hk : L[k]? = some p) (hp : ∀ L', Sat m (p :: L') w → Sat m (p' :: L') w') : Sat m (L.set k p') w' :=
  Sat.back k (List.getElem?_eq_some_iff.1 hk).1 (hp _ (h.front k hk))

/-! ### a store into a block of one's own -/
theorem setCell_one {w : World} {b off : Nat} {cs : List Value} {e : TypeId} {v : Value} (hb : w.heap[b]? = some (.cells cs.toArray e (0, 0))) : (w.setCell ⟨b, off, none⟩ v).heap[b]? = some (.cells (cs.set off v).toArray e (0, 0)) := by
  simp [World.setCell, Array.getElem?_modify, hb]
theorem Sat.setCell {w : World} {b off : Nat} {cs : List Value} {e : TypeId} (v : Value) (h : Sat m (HP.cells b e cs :: L) w) : Sat m (HP.cells b e (cs.set off v) :: L) (w.setCell ⟨b, off, none⟩ v) :=
  Sat.put h h.1 (setCell_one (h.blk (List.mem_cons_self ..))) fun i hi => Below.heap_setCell w _ v i hi
theorem run_store_one {w : World} {b off : Nat} {cs : List Value} {e t : TypeId} {v : Value} [ht : TSize P t 1] (h1 : v.oneCell' = true) (hb : w.heap[b]? = some (.cells cs.toArray e (0, 0))) (ho : off < cs.length) :
    (storeVar t ⟨b, off, none⟩ v).run P w = .ok () (w.setCell ⟨b, off, none⟩ v) := by
  have hc : w.cell? ⟨b, off, none⟩ = some cs[off] := by simp [World.cell?, hb, ho]
  have hf : w.frozen? ⟨b, off, none⟩ = false := by simp [World.frozen?, hb]
  have hv : v.cells = #[v] := by cases v <;> simp_all [Value.oneCell', Value.cells]
  have hs := ht.size w
  have hst : (store ⟨b, off, none⟩ v).run P w = .ok () (w.setCell ⟨b, off, none⟩ v) := by
    cases v <;> simp_all [store, Sem.run, Value.oneCell']
  simp [storeVar, hv, hs, storeCells, addr_add, hst]
theorem wl_store {t b off e : Nat} {x y : Operand} {v : Value} {cs : List Value} [ht : TSize P t 1] (k : Nat) (hk : L[k]? = some (HP.cells b e cs)) (hx : (acts n f ds).eval x = .pointer (some ⟨b, off, none⟩)) (hy : (acts n f ds).eval y = v) (h1 : v.oneCell' = true) (ho : off < cs.length)
    (c : WL P ops m (L.set k (HP.cells b e (cs.set off v))) Q rest n f ds) : WL P ops m L Q (⟨none, .store t x y, ty, pos, aft, none⟩ :: rest) n f ds :=
  wl_upon (Kv := fun _ w => Sat m (L.set k (HP.cells b e (cs.set off v))) w) (fun w hw => by
    have hb := hw.blk (List.mem_of_getElem? hk)
    simp only [execOp, hx, hy, Instr.storeAt, Instr.sureAddr]
    simp only [Sem.run_bind, Sem.run_pure, Result.andThen_ok, run_store_one h1 hb ho, uponV]
    exact hw.set k hk fun L' h => h.setCell v) fun v w h => c w h

/-! ### new blocks -/
theorem Sat.newBlk {w : World} (h : Sat m L w) (o : Obj) : Sat m (HP.blk w.heap.size o :: L) (w.alloc o) := h.alloc o
def HP.boxOf (v : Value) (t : TypeId) (cs : List Value) : HP := HP.ex fun b => HP.star (HP.pure (v = .pointer (some ⟨b, 0, none⟩))) (HP.cells b t cs)
theorem Sat.boxOf {w : World} {v : Value} {t : TypeId} {cs : List Value} (h : Sat m (HP.boxOf v t cs :: L) w) : ∃ b, v = .pointer (some ⟨b, 0, none⟩) ∧ Sat m (HP.cells b t cs :: L) w := by
  obtain ⟨b, h⟩ := h.of_ex
  have := h.of_star.of_pure
  exact ⟨b, this.1, this.2⟩
theorem Sat.mkBox {w : World} {b : Nat} {t : TypeId} {cs : List Value} (h : Sat m (HP.cells b t cs :: L) w) : Sat m (HP.boxOf (.pointer (some ⟨b, 0, none⟩)) t cs :: L) w :=
  Sat.ex b (Sat.star (Sat.pure rfl h))
theorem run_newVar {w : World} (t : TypeId) (v : Value) : (newVar t v).run P w = .ok ⟨w.heap.size, 0, none⟩ (w.alloc (.cells v.cells t (0, 0))) := by
  simp [newVar, newRow, newObj, Sem.run]
theorem wl_alloc {t : TypeId} {z : Value} [hz : TZero P t z] (c : ∀ b, WL P ops m (HP.cells b t z.cells.toList :: L) Q rest n (updO f d (.pointer (some ⟨b, 0, none⟩))) ds) : WL P ops m L Q (⟨d, .alloc t, ty, pos, aft, none⟩ :: rest) n f ds :=
  wl_upon (Kv := fun v w => ∃ b, v = .pointer (some ⟨b, 0, none⟩) ∧ Sat m (HP.cells b t z.cells.toList :: L) w) (fun w hw => by
    simp only [execOp, Instr.alloc, Sem.run_bind, Sem.run_pure, Result.andThen_ok, hz.is, run_newVar, uponV]
    exact ⟨_, rfl, hw.alloc _⟩) fun v w ⟨b, e, h⟩ => by subst e; exact c b w h
theorem wl_box {t : TypeId} {x : Operand} {v : Value} (hx : (acts n f ds).eval x = v) (c : ∀ b, WL P ops m (HP.cells b t v.cells.toList :: L) Q rest n (updO f d (.pointer (some ⟨b, 0, none⟩))) ds) : WL P ops m L Q (⟨d, .box t x, ty, pos, aft, none⟩ :: rest) n f ds :=
  wl_upon (Kv := fun v' w => ∃ b, v' = .pointer (some ⟨b, 0, none⟩) ∧ Sat m (HP.cells b t v.cells.toList :: L) w) (fun w hw => by
    simp only [execOp, hx, Instr.box, Sem.run_bind, Sem.run_pure, Result.andThen_ok, run_newVar, uponV]
    exact ⟨_, rfl, hw.alloc _⟩) fun v w ⟨b, e, h⟩ => by subst e; exact c b w h
/-- what buildSlice leaves -/
theorem run_buildSlice {t e sz len : Nat} {parts : Array (Nat × Operand)} {ps : List (Nat × Value)} {z : Value} [ht : TSlice P t e] [hs : TSize P e sz] [hz : TZero P e z] {cs : List Value} (hp : parts.toList.map (fun x => (x.1, ρ x.2)) = ps)
    (hfill : Instr.fill (fun i => some (i * sz, sz)) ((Array.range (len * sz)).map fun i => z.cells[i % z.cells.size]!) ps = some cs.toArray) (h0 : len * sz ≠ 0 ∧ len * sz ≤ 16777216) (w : World) :
    (execOp ρ ⟨d, .buildSlice t len parts, ty, pos, aft, g⟩).run P w = .ok (.value (.slice (some ⟨w.heap.size, 0, none⟩) len len)) (w.alloc (.cells cs.toArray e (0, 0))) := by
  have h1 : ¬ len * sz > 2 ^ 24 := by omega
  have hp' : List.map (fun x => (x.fst, ρ x.snd)) parts.toList = ps := hp
  simp only [execOp, Instr.buildSlice, underlying, Sem.run_bind]
  simp [Sem.run, program, ht.is, hs.size, h1, h0.1, hz.is, newRow, newObj, hp', hfill]
/-- The row of a new slice: a block of its own, of which nothing more is asked than what it holds. -/
def HP.tmp (v : Value) (len : Nat) (e : TypeId) (cs : List Value) : HP := HP.ex fun b => HP.star (HP.pure (v = .slice (some ⟨b, 0, none⟩) len len)) (HP.cells b e cs)
theorem Sat.tmp {w : World} {v : Value} {len : Nat} {e : TypeId} {cs : List Value} (h : Sat m (HP.tmp v len e cs :: L) w) : ∃ b, v = .slice (some ⟨b, 0, none⟩) len len ∧ Sat m (HP.cells b e cs :: L) w := by
  obtain ⟨b, h⟩ := h.of_ex
  have := h.of_star.of_pure
  exact ⟨b, this.1, this.2⟩
theorem Sat.mkTmp {w : World} {b len : Nat} {e : TypeId} {cs : List Value} (h : Sat m (HP.cells b e cs :: L) w) : Sat m (HP.tmp (.slice (some ⟨b, 0, none⟩) len len) len e cs :: L) w :=
  Sat.ex b (Sat.star (Sat.pure rfl h))
theorem tmp_reads {v : Value} {len : Nat} {e : TypeId} {cs : List Value} (hl : cs.length = len) (h63 : len ≤ 1000000) (h : PH) (ht : HP.tmp v len e cs h) : SlR h v cs := by
  obtain ⟨b, x, y, dj, rfl, ⟨rfl, rfl⟩, rfl⟩ := ht
  rw [PH.nil_un]
  exact ⟨_, _, _, rfl, hl, Nat.le_refl _, by simp only [maxLen]; omega, fun i u hu => ⟨_, rfl, by rw [addr_add, PH.one_cell, Nat.zero_add]; simpa using hu⟩⟩
theorem wl_buildSlice {t e sz len : Nat} {parts : Array (Nat × Operand)} {ps : List (Nat × Value)} {z : Value} [ht : TSlice P t e] [hs : TSize P e sz] [hz : TZero P e z] (cs : List Value) (hp : parts.toList.map (fun x => (x.1, (acts n f ds).eval x.2)) = ps)
    (hfill : Instr.fill (fun i => some (i * sz, sz)) ((Array.range (len * sz)).map fun i => z.cells[i % z.cells.size]!) ps = some cs.toArray) (h0 : len * sz ≠ 0 ∧ len * sz ≤ 16777216)
    (c : ∀ b, WL P ops m (HP.cells b e cs :: L) Q rest n (updO f d (.slice (some ⟨b, 0, none⟩) len len)) ds) : WL P ops m L Q (⟨d, .buildSlice t len parts, ty, pos, aft, none⟩ :: rest) n f ds :=
  wl_upon (Kv := fun v w => ∃ b, v = .slice (some ⟨b, 0, none⟩) len len ∧ Sat m (HP.cells b e cs :: L) w) (fun w hw => by
    rw [run_buildSlice hp hfill h0 w]
    exact ⟨_, rfl, hw.alloc _⟩) fun v w ⟨b, e, h⟩ => by subst e; exact c b w h
/-- in a region that draws -/
def QS.new (p : Value → Prop) (q : Value → HP) : QS := ⟨[], HP.emp, fun _ => p, fun _ => q⟩
def QS.use (u : List Nat) (p : Value → Prop) (q : Value → HP) : QS := ⟨u, HP.emp, fun _ => p, fun _ => q⟩
/-- what is made is told by the values of other operations -/
def QS.dep (u : List Nat) (p : Value → Prop) (q : Rel → Value → HP) : QS := ⟨u, HP.emp, fun _ => p, q⟩
theorem Sat.of_emp {w : World} (h : Sat m (HP.emp :: L) w) : Sat m L w := h.drop
theorem ar_buildSlice {i : Nat} {t e sz len : Nat} {parts : Array (Nat × Operand)} {ps : List (Nat × Value)} {z : Value} [ht : TSlice P t e] [hs : TSize P e sz] [hz : TZero P e z] (cs : List Value)
    (hq : qsOf qs i = some (QS.new (fun v => ∃ b, v = .slice (some ⟨b, 0, none⟩) len len) (fun v => HP.tmp v len e cs))) (hp : parts.toList.map (fun x => (x.1, (acts n f ds).eval x.2)) = ps)
    (hfill : Instr.fill (fun i => some (i * sz, sz)) ((Array.range (len * sz)).map fun i => z.cells[i % z.cells.size]!) ps = some cs.toArray) (h0 : len * sz ≠ 0 ∧ len * sz ≤ 16777216)
    (c : ∀ b, AR P ops m L (qsOf qs) K resta n (updO f d (.slice (some ⟨b, 0, none⟩) len len)) ds ((i, .slice (some ⟨b, 0, none⟩) len len, HP.tmp (.slice (some ⟨b, 0, none⟩) len len) len e cs) :: R)) : AR P ops m L (qsOf qs) K ((i, ⟨d, .buildSlice t len parts, ty, pos, aft, none⟩) :: resta) n f ds R :=
  ar_make hq (fun S w hw => by
    rw [run_buildSlice hp hfill h0 w]
    exact ⟨⟨_, rfl⟩, (hw.of_emp.alloc _).mkTmp⟩) ⟨_, 0, rfl⟩ fun v ⟨b, e⟩ => by subst e; exact c b
theorem ar_alloc {i : Nat} {t : TypeId} {z : Value} [hz : TZero P t z] (hq : qsOf qs i = some (QS.new (fun v => ∃ b, v = .pointer (some ⟨b, 0, none⟩)) (fun v => HP.boxOf v t z.cells.toList)))
    (c : ∀ b, AR P ops m L (qsOf qs) K resta n (updO f d (.pointer (some ⟨b, 0, none⟩))) ds ((i, .pointer (some ⟨b, 0, none⟩), HP.boxOf (.pointer (some ⟨b, 0, none⟩)) t z.cells.toList) :: R)) : AR P ops m L (qsOf qs) K ((i, ⟨d, .alloc t, ty, pos, aft, none⟩) :: resta) n f ds R :=
  ar_make hq (fun S w hw => by
    simp only [execOp, Instr.alloc, Sem.run_bind, Sem.run_pure, Result.andThen_ok, hz.is, run_newVar, uponV]
    exact ⟨⟨_, rfl⟩, (hw.of_emp.alloc _).mkBox⟩) ⟨_, 0, rfl⟩ fun v ⟨b, e⟩ => by subst e; exact c b
theorem ar_box {i : Nat} {t : TypeId} {x : Operand} {v : Value} (hx : (acts n f ds).eval x = v) (hq : qsOf qs i = some (QS.new (fun v => ∃ b, v = .pointer (some ⟨b, 0, none⟩)) (fun p => HP.boxOf p t v.cells.toList)))
    (c : ∀ b, AR P ops m L (qsOf qs) K resta n (updO f d (.pointer (some ⟨b, 0, none⟩))) ds ((i, .pointer (some ⟨b, 0, none⟩), HP.boxOf (.pointer (some ⟨b, 0, none⟩)) t v.cells.toList) :: R)) : AR P ops m L (qsOf qs) K ((i, ⟨d, .box t x, ty, pos, aft, none⟩) :: resta) n f ds R :=
  ar_make hq (fun S w hw => by
    simp only [execOp, hx, Instr.box, Sem.run_bind, Sem.run_pure, Result.andThen_ok, run_newVar, uponV]
    exact ⟨⟨_, rfl⟩, (hw.of_emp.alloc _).mkBox⟩) ⟨_, 0, rfl⟩ fun v ⟨b, e⟩ => by subst e; exact c b

/-! ### append -/
/-- A slice's cells, elements of so many cells, as they are read. -/
def SlN (h : PH) (size : Nat) (A : Option Addr) (j : Nat) (xs : List Value) : Prop := xs.length = j * size ∧ (A = none → j = 0) ∧ ∀ i x, xs[i]? = some x → ∃ a, A = some a ∧ h.cell (a.add i) = some x
theorem SlN.le {h h' : PH} {size j : Nat} {A : Option Addr} {xs : List Value} (hl : h.le h') (hs : SlN h size A j xs) : SlN h' size A j xs :=
  ⟨hs.1, hs.2.1, fun i x hx => let ⟨a, ha, hc⟩ := hs.2.2 i x hx; ⟨a, ha, PH.cell_le hl hc⟩⟩
theorem SlR.toN {h : PH} {A : Option Addr} {j c : Nat} {xs : List Value} (hs : SlR h (.slice A j c) xs) : SlN h 1 A j xs := by
  obtain ⟨A', j', c', e, h1, h2, h3, h4⟩ := hs
  cases e
  refine ⟨by omega, fun e => ?_, h4⟩
  subst e
  cases xs with
  | nil => simpa using h1.symm
  | cons x xs => obtain ⟨a, ha, _⟩ := h4 0 x rfl; cases ha
theorem run_appendOp {t e size bytes : Nat} {z : Value} [ht : TElem P t e z size bytes] {x y : Operand} {v : Value} {k : Nat} {xs : List Value} {A : Option Addr} {j c : Nat} {news : List Value}
    (hx : ρ x = v) (hy : ρ y = .slice A j c) (hs : Ent m (HP.own e size v k xs :: L) fun h => SlN h size A j news) (h1 : ∀ u ∈ news, u.oneCell' = true)
    (hb : (k + j) * bytes ≤ 140737488355328) {w : World} (hw : Sat m (HP.own e size v k xs :: L) w) :
    ∃ v' w', (execOp ρ ⟨d, .call { callee := .builtin .append, args := #[x, y], argTypes := #[t, t] }, ty, pos, aft, g⟩).run P w = .ok (.value v') w' ∧ Sat m (HP.own e size v' (k + j) (xs ++ news) :: L) w' := by
  have h63 : k + j ≤ maxLen := by
    have := Nat.le_mul_of_pos_right (k + j) ht.posB
    simp only [maxLen]; omega
  obtain ⟨v', w', hr, h⟩ := up_append (P := P) (ty := ty) (t := t) (v := v) (k := k) (xs := xs) (A := A) (c := c) (hs w hw).1 (fun w hw i x hx => (hs w hw).2.2 i x hx) h1 hb h63 hw (hs w hw).2.1
  exact ⟨v', w', by simp [execOp, resolve, invoke, builtin, hx, hy, hr], h⟩
/-- 'x = append(x, y...)': the row of x is part number k0 of the list. -/
theorem wl_append {t e size bytes : Nat} {z : Value} [ht : TElem P t e z size bytes] {x y : Operand} {v : Value} {k : Nat} {xs : List Value} {A : Option Addr} {j c : Nat} (k0 : Nat) (news : List Value) (hk0 : L[k0]? = some (HP.own e size v k xs))
    (hx : (acts n f ds).eval x = v) (hy : (acts n f ds).eval y = .slice A j c) (hs : Ent m L fun h => SlN h size A j news) (h1 : ∀ u ∈ news, u.oneCell' = true)
    (hb : (k + j) * bytes ≤ 140737488355328) (cont : ∀ v', WL P ops m (L.set k0 (HP.own e size v' (k + j) (xs ++ news))) Q rest n (updO f d v') ds) :
    WL P ops m L Q (⟨d, .call { callee := .builtin .append, args := #[x, y], argTypes := #[t, t] }, ty, pos, aft, none⟩ :: rest) n f ds :=
  wl_upon (Kv := fun v' w => Sat m (L.set k0 (HP.own e size v' (k + j) (xs ++ news))) w) (fun w hw => by
    have hf := hw.front k0 hk0
    obtain ⟨v', w', hr, h⟩ := run_appendOp (P := P) (d := d) (ty := ty) (pos := pos) (aft := aft) (g := none) (t := t) hx hy (fun w' hw' => hs w' (by
      have := Sat.back (p := HP.own e size v k xs) k0 (List.getElem?_eq_some_iff.1 hk0).1 hw'
      rwa [show L.set k0 (HP.own e size v k xs) = L by
        obtain ⟨h, e⟩ := List.getElem?_eq_some_iff.1 hk0
        rw [← e]; simp] at this)) h1 hb hf
    rw [hr]
    exact Sat.back k0 (List.getElem?_eq_some_iff.1 hk0).1 h) fun v' w h => cont v' w h
/-- the same in a region that draws: the row of x is the part that the operation takes; what is appended is L's, or made by an operation that it waits for -/
def QS.app (u : List Nat) (e size : Nat) (v : Value) (k : Nat) (xs : List Value) (j : Nat) (news : List Value) : QS := ⟨u, HP.own e size v k xs, fun _ _ => True, fun _ v' => HP.own e size v' (k + j) (xs ++ news)⟩
theorem ar_append {i : Nat} {t e size bytes : Nat} {z : Value} [ht : TElem P t e z size bytes] {x y : Operand} {v : Value} {k : Nat} {xs : List Value} {A : Option Addr} {j c : Nat} {news : List Value} {u : List Nat}
    (hq : qsOf qs i = some (QS.app u e size v k xs j news)) (hx : (acts n f ds).eval x = v) (hy : (acts n f ds).eval y = .slice A j c) (hs : Ent m (R.used u ++ L) fun h => SlN h size A j news) (h1 : ∀ u ∈ news, u.oneCell' = true)
    (hb : (k + j) * bytes ≤ 140737488355328) (cont : ∀ v', AR P ops m L (qsOf qs) K resta n (updO f d v') ds ((i, v', HP.own e size v' (k + j) (xs ++ news)) :: R)) :
    AR P ops m L (qsOf qs) K ((i, ⟨d, .call { callee := .builtin .append, args := #[x, y], argTypes := #[t, t] }, ty, pos, aft, none⟩) :: resta) n f ds R :=
  ar_make hq (fun S w hw => by
    obtain ⟨v', w', hr, h⟩ := run_appendOp (P := P) (d := d) (ty := ty) (pos := pos) (aft := aft) (g := none) (t := t) hx hy (fun w' hw' => hs w' hw'.drop.app) h1 hb hw
    rw [hr]
    exact ⟨trivial, h⟩) ⟨.nilIface, trivial⟩ fun v' _ => cont v'

/-! ### maps whose keys are whole numbers -/
def afind : List (Int × Value) → Int → Option (Nat × Value)
  | [], _ => none
  | (a, v) :: D, k => if k = a then some (0, v) else (afind D k).map fun p => (p.1 + 1, p.2)
def alook (D : List (Int × Value)) (k : Int) : Option Value := (afind D k).map (·.2)
def aset (D : List (Int × Value)) (k : Int) (v : Value) : List (Int × Value) := match afind D k with
  | some (i, _) => D.set i (k, v)
  | none => D ++ [(k, v)]
def adel (D : List (Int × Value)) (k : Int) : List (Int × Value) := D.filter fun p => p.1 != k
/-- What the entries of a map read as, and that no two were born at once. -/
structure MapOk (kk : IntKind) (D : List (Int × Value)) (es : List MapEntry) (clock : Nat) : Prop where
  reads : es.map (fun e => (e.key, e.val)) = D.map fun p => (Value.int kk p.1, p.2)
  nodup : (D.map (·.1)).Nodup
  old : ∀ e ∈ es, e.born < clock
  born : (es.map (·.born)).Nodup
def HP.imap (b : Nat) (kk : IntKind) (D : List (Int × Value)) : HP := fun h => ∃ (es : Array MapEntry) (clock : Nat), h = PH.one b (.map es clock) ∧ MapOk kk D es.toList clock
theorem findNow_int {kk k0 : IntKind} {k : Int} : ∀ (D : List (Int × Value)) (es : List MapEntry) (i : Nat), es.map (fun e => (e.key, e.val)) = D.map (fun p => (Value.int kk p.1, p.2)) →
    Instr.findNow (.int k0) (.int kk k) es i = some ((afind D k).map fun p => (i + p.1, p.2))
  | [], [], _, _ => rfl
  | [], _ :: _, _, h => by simp at h
  | _ :: _, [], _, h => by simp at h
  | (a, v) :: D, e :: es, i, h => by
    simp only [List.map_cons, List.cons.injEq, Prod.mk.injEq] at h
    obtain ⟨⟨hk, hv⟩, ht⟩ := h
    have ih := findNow_int (k0 := k0) (k := k) D es (i + 1) ht
    unfold Instr.findNow
    rw [hk]
    simp only [Instr.sameNow, if_true]
    unfold afind
    by_cases h : k = a
    · subst h; simp [hv]
    · have hb : (k == a) = false := by simpa using h
      simp only [hb, if_neg h, ih]
      cases afind D k <;> simp [Nat.add_comm, Nat.add_left_comm]
theorem run_findKey {kk : IntKind} {k : Int} {kt : TypeId} [hk : TInt P kt kk] {D : List (Int × Value)} {es : List MapEntry} (h : es.map (fun e => (e.key, e.val)) = D.map fun p => (Value.int kk p.1, p.2)) (w : World) :
    (Instr.findKey kt (.int kk k) es).run P w = .ok (afind D k) w := by
  have := findNow_int (k0 := kk) (k := k) D es 0 h
  simp only [Instr.findKey, Sem.run_bind, run_underlying hk.is, Result.andThen_ok, this]
  cases afind D k <;> simp
theorem run_checkKey {kk : IntKind} {k : Int} {kt : TypeId} [hk : TInt P kt kk] (e : Bool) (w : World) : (Instr.checkKey e 10000 kt (.int kk k)).run P w = .ok () w := by
  rw [show (10000 : Nat) = 9999 + 1 from rfl, Instr.checkKey]
  simp only [Sem.run_bind, run_underlying hk.is, Result.andThen_ok, Sem.run_pure]
theorem imap_at {b : Nat} {kk : IntKind} {D : List (Int × Value)} {w : World} (h : Sat m L w) (hm : HP.imap b kk D ∈ L) : ∃ es clock, w.heap[b]? = some (.map es clock) ∧ MapOk kk D es.toList clock := by
  obtain ⟨a, ha, es, clock, rfl, ho⟩ := h.mem hm
  exact ⟨es, clock, PH.one_le.1 ha, ho⟩
theorem rd_lookup {t kt et : TypeId} {kk : IntKind} {z : Value} [ht : TMap P t kt et] [hk : TInt P kt kk] [hz : TZero P et z] {x y : Operand} {b : Nat} {k : Int} {D : List (Int × Value)} (k0 : Nat) (hk0 : L[k0]? = some (HP.imap b kk D))
    (hx : ρ x = .map (some b)) (hy : ρ y = .int kk k) : Reads P m L (execOp ρ ⟨d, .lookup t x y false, ty, pos, aft, g⟩) ((alook D k).getD z) := fun w hw => by
  obtain ⟨es, clock, hb, ho⟩ := imap_at hw (List.mem_of_getElem? hk0)
  have hf := run_findKey (P := P) (kt := kt) (k := k) ho.reads w
  have hc := run_checkKey (P := P) (kt := kt) (kk := kk) (k := k) es.isEmpty w
  simp only [execOp, hx, hy, Instr.lookup, Sem.run_bind, run_underlying ht.is, Result.andThen_ok]
  simp [getObj, Sem.run, hb, hc, hf, alook]
  cases afind D k <;> simp [hz.is]
theorem rd_lookupOk {t kt et : TypeId} {kk : IntKind} {z : Value} [ht : TMap P t kt et] [hk : TInt P kt kk] [hz : TZero P et z] {x y : Operand} {b : Nat} {k : Int} {D : List (Int × Value)} (k0 : Nat) (hk0 : L[k0]? = some (HP.imap b kk D))
    (hx : ρ x = .map (some b)) (hy : ρ y = .int kk k) : Reads P m L (execOp ρ ⟨d, .lookup t x y true, ty, pos, aft, g⟩) (.tuple #[(alook D k).getD z, .bool (alook D k).isSome]) := fun w hw => by
  obtain ⟨es, clock, hb, ho⟩ := imap_at hw (List.mem_of_getElem? hk0)
  have hf := run_findKey (P := P) (kt := kt) (k := k) ho.reads w
  have hc := run_checkKey (P := P) (kt := kt) (kk := kk) (k := k) es.isEmpty w
  simp only [execOp, hx, hy, Instr.lookup, Sem.run_bind, run_underlying ht.is, Result.andThen_ok]
  simp [getObj, Sem.run, hb, hc, hf, alook]
  cases afind D k <;> simp [hz.is]
theorem afind_lt {D : List (Int × Value)} {k : Int} {i : Nat} {v : Value} (h : afind D k = some (i, v)) : i < D.length ∧ D[i]? = some (k, v) := by
  induction D generalizing i with
  | nil => simp [afind] at h
  | cons x D ih =>
    obtain ⟨a, u⟩ := x
    unfold afind at h
    split at h
    · rename_i hk; subst hk; simp only [Option.some.injEq, Prod.mk.injEq] at h; obtain ⟨rfl, rfl⟩ := h; simp
    · cases hf : afind D k with
      | none => rw [hf] at h; simp at h
      | some p =>
        rw [hf] at h
        simp only [Option.map_some, Option.some.injEq, Prod.mk.injEq] at h
        obtain ⟨rfl, rfl⟩ := h
        have := ih (i := p.1) (by rw [hf])
        simpa using this
theorem afind_none {D : List (Int × Value)} {k : Int} : afind D k = none ↔ k ∉ D.map (·.1) := by
  induction D with
  | nil => simp [afind]
  | cons x D ih =>
    obtain ⟨a, u⟩ := x
    unfold afind
    by_cases h : k = a
    · subst h; simp
    · simp [h, ih]
theorem MapOk.set {kk : IntKind} {D : List (Int × Value)} {es : List MapEntry} {clock i : Nat} {k : Int} {v v0 : Value} (h : MapOk kk D es clock) (hf : D[i]? = some (k, v0)) :
    MapOk kk (D.set i (k, v)) (es.modify i fun e => { e with key := .int kk k, val := v }) clock := by
  have hl : es.length = D.length := by simpa using congrArg List.length h.reads
  refine ⟨?_, ?_, ?_, ?_⟩
  · apply List.ext_getElem?
    intro j
    have hj := congrArg (·[j]?) h.reads
    simp only [List.getElem?_map, List.getElem?_modify, List.getElem?_set] at hj ⊢
    by_cases e : i = j
    · subst e
      have hi : i < D.length := (List.getElem?_eq_some_iff.1 hf).1
      simp [hi, List.getElem?_eq_getElem (show i < es.length by omega)]
    · simp only [e, if_false]
      rw [← hj]
      cases es[j]? <;> simp
  · have : (D.set i (k, v)).map (·.1) = D.map (·.1) := by
      apply List.ext_getElem?
      intro j
      simp only [List.getElem?_map, List.getElem?_set]
      by_cases e : i = j
      · subst e
        obtain ⟨hi, he⟩ := List.getElem?_eq_some_iff.1 hf
        simp [hi, he]
      · simp [e]
    rw [this]; exact h.nodup
  · intro e he
    obtain ⟨j, hj⟩ := List.mem_iff_getElem?.1 he
    rw [List.getElem?_modify] at hj
    cases hx : es[j]? with
    | none => rw [hx] at hj; simp at hj
    | some x =>
      rw [hx] at hj
      have := h.old x (List.mem_of_getElem? hx)
      simp only [Option.map_eq_map, Option.map_some, Option.some.injEq] at hj
      subst hj
      split <;> exact this
  · have : (es.modify i fun e => { e with key := .int kk k, val := v }).map (·.born) = es.map (·.born) := by
      apply List.ext_getElem?
      intro j
      simp only [List.getElem?_map, List.getElem?_modify]
      cases es[j]? <;> simp
      split <;> rfl
    rw [this]; exact h.born
theorem MapOk.push {kk : IntKind} {D : List (Int × Value)} {es : List MapEntry} {clock : Nat} {k : Int} {v : Value} (h : MapOk kk D es clock) (hf : k ∉ D.map (·.1)) :
    MapOk kk (D ++ [(k, v)]) (es ++ [{ key := .int kk k, val := v, born := clock }]) (clock + 1) := by
  refine ⟨by simp [h.reads], ?_, fun e he => ?_, ?_⟩
  · rw [List.map_append, List.nodup_append]
    refine ⟨h.nodup, by simp, fun a ha b hb => ?_⟩
    simp only [List.map_cons, List.map_nil, List.mem_singleton] at hb
    subst hb
    exact fun e => hf (e ▸ ha)
  · rcases List.mem_append.1 he with he | he
    · exact Nat.lt_succ_of_lt (h.old e he)
    · simp only [List.mem_singleton] at he; subst he; exact Nat.lt_succ_self _
  · rw [List.map_append, List.nodup_append]
    refine ⟨h.born, by simp, fun a ha b hb => ?_⟩
    simp only [List.map_cons, List.map_nil, List.mem_singleton] at hb
    subst hb
    obtain ⟨e, he, rfl⟩ := List.mem_map.1 ha
    have := h.old e he
    omega
theorem Sat.imapSet {w : World} {b : Nat} {kk : IntKind} {D : List (Int × Value)} {k : Int} {v : Value} {t kt et : TypeId} [ht : TMap P t kt et] [hk : TInt P kt kk] (h : Sat m (HP.imap b kk D :: L) w) :
    ∃ w', (Instr.mapUpdate t (.map (some b)) (.int kk k) v).run P w = .ok () w' ∧ Sat m (HP.imap b kk (aset D k v) :: L) w' := by
  obtain ⟨es, clock, hb, ho⟩ := imap_at h (List.mem_cons_self ..)
  have hf := run_findKey (P := P) (kt := kt) (k := k) ho.reads w
  have hc := run_checkKey (P := P) (kt := kt) (kk := kk) (k := k) false w
  have hput : ∀ (es' : Array MapEntry) (clock' : Nat), MapOk kk (aset D k v) es'.toList clock' → Sat m (HP.imap b kk (aset D k v) :: L) { w with heap := w.heap.setIfInBounds b (.map es' clock') } := by
    intro es' clock' hok
    obtain ⟨h0, a, ⟨x, y, dj, rfl, ⟨es0, clock0, rfl, _⟩, hy⟩, h2⟩ := h
    have hblk : Sat m (HP.blk b (.map es0 clock0) :: L) w := ⟨h0, _, ⟨_, y, dj, rfl, rfl, hy⟩, h2⟩
    have hlt : b < w.heap.size := (Array.getElem?_eq_some_iff.1 hb).1
    have := Sat.put (o' := .map es' clock') (w' := { w with heap := w.heap.setIfInBounds b (.map es' clock') }) hblk h0 (by simp [hlt]) (fun i hi => by simp [Ne.symm hi])
    exact this.mono fun hh e => ⟨es', clock', e, hok⟩
  simp only [Instr.mapUpdate, Sem.run_bind, run_underlying ht.is, Result.andThen_ok]
  cases hfi : afind D k with
  | none =>
    refine ⟨_, by simp [getObj, setObj, Sem.run, hb, hc, hf, hfi]; rfl, ?_⟩
    refine hput _ _ ?_
    have hp := ho.push (v := v) (afind_none.1 hfi)
    simpa [aset, hfi] using hp
  | some p =>
    obtain ⟨i, u⟩ := p
    have hlt := afind_lt hfi
    have hes : ∃ e, es[i]? = some e ∧ e.key = .int kk k := by
      have hj := congrArg (·[i]?) ho.reads
      simp only [List.getElem?_map, hlt.2, Option.map_some] at hj
      cases he : es.toList[i]? with
      | none => rw [he] at hj; simp at hj
      | some e =>
        rw [he] at hj
        simp only [Option.map_some, Option.some.injEq, Prod.mk.injEq] at hj
        exact ⟨e, by simpa using he, hj.1⟩
    obtain ⟨e, he, hek⟩ := hes
    have hsame : Instr.sameBits 10000 (.int kk k) (.int kk k) = true := by simp [Instr.sameBits]
    refine ⟨_, by simp [getObj, setObj, Sem.run, hb, hc, hf, hfi, he, hek, Instr.keyThatStays, hsame]; rfl, ?_⟩
    refine hput _ _ ?_
    have hp := ho.set (v := v) hlt.2
    simpa [aset, hfi] using hp
theorem wl_mapUpdate {t kt et : TypeId} {kk : IntKind} [ht : TMap P t kt et] [hk : TInt P kt kk] {x y z : Operand} {b : Nat} {k : Int} {v : Value} {D : List (Int × Value)} (k0 : Nat) (hk0 : L[k0]? = some (HP.imap b kk D))
    (hx : (acts n f ds).eval x = .map (some b)) (hy : (acts n f ds).eval y = .int kk k) (hz : (acts n f ds).eval z = v) (c : WL P ops m (L.set k0 (HP.imap b kk (aset D k v))) Q rest n f ds) :
    WL P ops m L Q (⟨none, .mapUpdate t x y z, ty, pos, aft, none⟩ :: rest) n f ds :=
  wl_upon (Kv := fun _ w => Sat m (L.set k0 (HP.imap b kk (aset D k v))) w) (fun w hw => by
    obtain ⟨w', hr, hs⟩ := Sat.imapSet (P := P) (t := t) (k := k) (v := v) (hw.front k0 hk0)
    simp only [execOp, hx, hy, hz, Sem.run_bind, hr, Result.andThen_ok, Sem.run_pure, uponV]
    exact Sat.back k0 (List.getElem?_eq_some_iff.1 hk0).1 hs) fun _ w h => c w h
theorem wl_makeMap {t : TypeId} (kk : IntKind) (c : ∀ b, WL P ops m (HP.imap b kk [] :: L) Q rest n (updO f d (.map (some b))) ds) : WL P ops m L Q (⟨d, .makeMap t none, ty, pos, aft, none⟩ :: rest) n f ds :=
  wl_upon (Kv := fun v w => ∃ b, v = .map (some b) ∧ Sat m (HP.imap b kk [] :: L) w) (fun w hw => by
    simp only [execOp, Instr.makeMap, newObj]
    simp [Sem.run, uponV]
    exact (hw.alloc _).mono fun h e => ⟨#[], 0, e, ⟨rfl, by simp, by simp, by simp⟩⟩) fun v w ⟨b, e, h⟩ => by subst e; exact c b w h
end Go.Proofs.Ytkpkehfoilchaaa
