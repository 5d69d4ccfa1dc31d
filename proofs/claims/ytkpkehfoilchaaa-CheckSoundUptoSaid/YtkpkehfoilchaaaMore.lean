/- append(x, make([]T, j)...); cells of a row that is owned; deleting from a map; whole numbers that fit. -/
import Derived.Test.YtkpkehfoilchaaaMap
namespace Go.Proofs.Ytkpkehfoilchaaa
open Go.RowKit
variable {P : Program} {m : Meta} {L L' : List HP} {ops : Array Oper} {Q : Exit → Act → World → Prop} {n : Nat} {f : Env} {ds : List Deferred} {qs : List (Nat × QS)} {K : Act → Made → Prop} {R : Made} {rest : List Oper} {resta : List (Nat × Oper)}
  {d : Option Tmp} {ty : TypeId} {pos : String} {aft : Array Edge} {g : Option (Nat × Bool)} {ρ : Operand → Value}

theorem wrap8_small {x : Int} (h : -1 ≤ x ∧ x ≤ 1) : IntKind.i8.wrap (-x) = -x := by
  have : x = -1 ∨ x = 0 ∨ x = 1 := by omega
  rcases this with rfl | rfl | rfl <;> rfl
theorem wrap32_neg {x : Int} (h : -2147483647 ≤ x ∧ x ≤ 2147483647) : IntKind.i32.wrap (-x) = -x := by
  simp [IntKind.wrap, IntKind.bits, IntKind.signed]; omega
theorem wrap64_small {x : Int} (h : -9223372036854775808 ≤ x ∧ x ≤ 9223372036854775807) : IntKind.i64.wrap x = x := by
  simp [IntKind.wrap, IntKind.bits, IntKind.signed]; omega

theorem zeroCells_one (z : Value) (hz : z.cells = #[z]) (j : Nat) : Builtin.zeroCells z.cells j = (List.replicate j z).toArray := by
  apply Array.ext'
  apply List.ext_getElem
  · simp [Builtin.zeroCells, hz]
  · intro i h1 h2
    simp [Builtin.zeroCells, hz, Nat.mod_one]
theorem World.heap_alloc_old' (w : World) (q : Nat) (o : Obj) (h : q < w.heap.size) : (w.drew.alloc o).heap[q]? = w.heap[q]? := Below.heap_alloc w.drew o q h
theorem run_appendZ {t ti e bytes j : Nat} {z : Value} [ht : TElem P t e z 1 bytes] [hti : TInt P ti .i64] {v : Value} {k : Nat} {xs : List Value} (hz1 : z.cells = #[z]) (hz2 : z.oneCell' = true) (hb : (k + j) * bytes ≤ 140737488355328) {w : World}
    (hrow : w.ownsRow 0 e 1 v k xs) :
    ∃ v' w', (Builtin.append_ #[t, ti] ty #[v, .int .i64 j]).run P w = .ok v' w' ∧ w'.ownsRow 0 e 1 v' (k + j) (xs ++ List.replicate j z) ∧ w.grownBy w' v.ownBlock ∧ (v'.ownBlock = v.ownBlock ∨ v'.ownBlock = some w.heap.size) := by
  obtain ⟨i, hi, hh⟩ := Option.map_eq_some_iff.1 ht.info
  simp only [Prod.mk.injEq] at hh
  obtain ⟨hz, hs, hby⟩ := hh
  have hbp := ht.posB
  have hkj : k + j ≤ 140737488355328 := Nat.le_trans (Nat.le_mul_of_pos_right _ hbp) hb
  have hjb : j * bytes ≤ 140737488355328 := Nat.le_trans (Nat.mul_le_mul_right _ (by omega)) hb
  have hw : IntKind.i64.wrap (j : Int) = j := wrap64_small ⟨by omega, by omega⟩
  have hj0 : ¬ ((j : Int) < 0) := by omega
  have hj1 : ¬ (281474976710656 < (j : Int) * (bytes : Int)) := by
    have h5 : ((j * bytes : Nat) : Int) ≤ 140737488355328 := Int.ofNat_le.2 hjb
    rw [Int.natCast_mul] at h5; omega
  have hzc := zeroCells_one z hz1 j
  have hlen : xs.length = k := by simpa using hrow.1
  have hmax : IntKind.i64.max = 9223372036854775807 := rfl
  have h63' : ¬ (9223372036854775807 < ((k : Int) + (j : Int))) := by omega
  have grown : ∀ (sCap : Nat), sCap < k + j → (w.drew.alloc (.cells (xs.toArray ++ (List.replicate j z).toArray ++ Builtin.zeroCells z.cells (grownCap w (k + j) sCap e - (k + j))) e)).ownsRow 0 e 1 (.slice (some ⟨w.heap.size, 0, none⟩) (k + j) (grownCap w (k + j) sCap e)) (k + j) (xs ++ List.replicate j z) ∧
      ∀ row, w.grownBy (w.drew.alloc (.cells (xs.toArray ++ (List.replicate j z).toArray ++ Builtin.zeroCells z.cells (grownCap w (k + j) sCap e - (k + j))) e)) row := by
    intro sCap _
    have hge := grownCap_ge w (k + j) sCap e
    have hcm : grownCap w (k + j) sCap e ≤ maxLen := grownCap_le_maxLen w (k + j) sCap e (by simp only [maxLen]; omega)
    refine ⟨⟨by simp [hlen], .inr ⟨w.heap.size, _, _, rfl, Nat.zero_le _, heap_alloc_new w.drew _, hge, hcm, ?_, ?_⟩⟩, fun row => ⟨rfl, rfl, rfl, by simp, fun q hq _ => World.heap_alloc_old' w q _ hq⟩⟩
    · simp only [Array.size_append, List.size_toArray, size_zeroCells, hz1, hlen, List.length_replicate]; simp; omega
    · simp only [Array.toList_append]
      rw [show (k + j) * 1 = (xs ++ List.replicate j z).length by simp [hlen]]
      exact List.take_left
  rcases hrow.2 with ⟨rfl, rfl⟩ | ⟨g', cap, cur, rfl, _, hg', h1, h2, h3, h4⟩
  · have hx : xs = [] := List.eq_nil_of_length_eq_zero hlen
    subst hx
    by_cases hj : j = 0
    · subst hj
      refine ⟨.slice none 0 0, w, ?_, by simpa using World.ownsRow_nil w 0 e 1, ⟨rfl, rfl, rfl, Nat.le_refl _, fun _ _ _ => rfl⟩, .inl rfl⟩
      have hw0 : IntKind.i64.wrap 0 = 0 := rfl
      simp [Builtin.append_, run_underlying ht.is, run_underlying hti.is, sizeOf, typeInfo, hi, asInt, asIntOf, hw0]
    · have hn : ¬ (j ≤ 0) := by omega
      have h48 : ¬ (281474976710656 < Builtin.nextslicecap j 0 * bytes) := by
        have := growslice_fits (need := j) (old := 0) (bytes := bytes) (by omega) hjb
        omega
      have h63'' : ¬ (9223372036854775807 < (j : Int)) := by omega
      refine ⟨_, _, ?_, (by simpa using (grown 0 (by omega)).1), (by simpa using (grown 0 (by omega)).2 _), .inr rfl⟩
      simp [Builtin.append_, run_underlying ht.is, run_underlying hti.is, sizeOf, typeInfo, hi, hs, hby, hz, asInt, asIntOf, hw, hj0, hj1, hj, h63'', h48, hmax, Question.forced, zeroValue, hzc, Builtin.firstCells, newRow, grownCap]
  · by_cases hroom : k + j ≤ cap
    · have hst := run_storeCells_at P g' k e (List.replicate j z) 0 cur w hg' (by simp; omega) (by intro u hu; rw [List.eq_of_mem_replicate hu]; exact hz2)
      have hfin : (w.setRow g' (cur.toList.take k ++ List.replicate j z ++ cur.toList.drop (k + j)).toArray).ownsRow 0 e 1 (.slice (some ⟨g', 0, none⟩) (k + j) cap) (k + j) (xs ++ List.replicate j z) := by
        refine ⟨by simp [hlen], .inr ⟨g', cap, _, rfl, Nat.zero_le _, setRow_heap w g' cur _ e _ hg', hroom, h2, ?_, ?_⟩⟩
        · simp; omega
        · have : cur.toList.take k = xs := by simpa using h4
          rw [this, show (k + j) * 1 = (xs ++ List.replicate j z).length by simp [hlen]]
          exact List.take_left
      have hg2 : w.grownBy (w.setRow g' (cur.toList.take k ++ List.replicate j z ++ cur.toList.drop (k + j)).toArray) (Value.ownBlock (.slice (some ⟨g', 0, none⟩) k cap)) :=
        ⟨rfl, rfl, rfl, by simp, fun q _ hq => setRow_other w g' q _ (fun e => hq (by simp [Value.ownBlock, e]))⟩
      refine ⟨_, _, ?_, hfin, hg2, .inl rfl⟩
      simp only [Nat.add_zero, List.length_replicate] at hst
      by_cases hj : j = 0
      · subst hj
        have hself : w.setRow g' (cur.toList.take k ++ List.replicate 0 z ++ cur.toList.drop (k + 0)).toArray = w := by
          have : (cur.toList.take k ++ List.replicate 0 z ++ cur.toList.drop (k + 0)).toArray = cur := by simp
          rw [this]; exact setRow_self w g' cur e (0, 0) hg'
        rw [hself]
        have hw0 : IntKind.i64.wrap 0 = 0 := rfl
        simp [Builtin.append_, run_underlying ht.is, run_underlying hti.is, sizeOf, typeInfo, hi, asInt, asIntOf, hw0, h1, storeCells]
      · simp [Builtin.append_, run_underlying ht.is, run_underlying hti.is, sizeOf, typeInfo, hi, hs, hby, hz, asInt, asIntOf, hw, hj0, hj1, hroom, zeroValue, hzc, hj, addr_add, hst]
    · have h48 : ¬ (281474976710656 < Builtin.nextslicecap (k + j) cap * bytes) := by
        have := growslice_fits (need := k + j) (old := cap) (bytes := bytes) (by omega) hb
        omega
      have hxc : ∀ q u, xs[q]? = some u → w.drew.cell? ((⟨g', 0, none⟩ : Addr).add q) = some u := fun q u hu => hrow.cells (g := g') rfl q u hu
      have hfc := run_firstCells_some (P := P) w.drew 1 k ⟨g', 0, none⟩ k cap xs (by simpa using hlen) hxc
      have hj : j ≠ 0 := by omega
      refine ⟨_, _, ?_, (grown cap (by omega)).1, (grown cap (by omega)).2 _, .inr rfl⟩
      simp [Builtin.append_, run_underlying ht.is, run_underlying hti.is, sizeOf, typeInfo, hi, hs, hby, hz, asInt, asIntOf, hw, hj0, hj1, h63', hmax, Question.forced, zeroValue, hzc, hroom, newRow, grownCap, h48, hj, hfc]
class TOne (P : Program) (e : TypeId) (z : outParam Value) : Prop where
  cells : z.cells = #[z]
  one : z.oneCell' = true
theorem run_appendZOp {t ti e bytes : Nat} {z : Value} [ht : TElem P t e z 1 bytes] [hti : TInt P ti .i64] {x y : Operand} {v : Value} {k : Nat} {xs : List Value} {j : Nat} (hz1 : z.cells = #[z]) (hz2 : z.oneCell' = true)
    (hx : ρ x = v) (hy : ρ y = .int .i64 j) (hb : (k + j) * bytes ≤ 140737488355328) {w : World} (hw : Sat m (HP.own e 1 v k xs :: L) w) :
    ∃ v' w', (execOp ρ ⟨d, .call { callee := .builtin .append, args := #[x, y], argTypes := #[t, ti] }, ty, pos, aft, g⟩).run P w = .ok (.value v') w' ∧ Sat m (HP.own e 1 v' (k + j) (xs ++ List.replicate j z) :: L) w' := by
  obtain ⟨v', w', hr, ho, hg, hat⟩ := run_appendZ (P := P) (ty := ty) (t := t) (ti := ti) (j := j) hz1 hz2 hb (own_row hw)
  exact ⟨v', w', by simp [execOp, resolve, invoke, builtin, hx, hy, hr], own_of_row hw ho hg hat (run_drawn _ _ _ _ hr)⟩
theorem ar_appendZ {i : Nat} {t ti e bytes : Nat} {z : Value} [ht : TElem P t e z 1 bytes] [hti : TInt P ti .i64] {x y : Operand} {v : Value} {k : Nat} {xs : List Value} {j : Nat} {y' : Value} (hz1 : z.cells = #[z]) (hz2 : z.oneCell' = true)
    (hq : qsOf qs i = some (QS.app [] e 1 v k xs j (List.replicate j z))) (hx : (acts n f ds).eval x = v) (hy : (acts n f ds).eval y = y') (hy' : y' = .int .i64 j)
    (hb : (k + j) * bytes ≤ 140737488355328) (cont : ∀ v', AR P ops m L (qsOf qs) K resta n (updO f d v') ds ((i, v', HP.own e 1 v' (k + j) (xs ++ List.replicate j z)) :: R)) :
    AR P ops m L (qsOf qs) K ((i, ⟨d, .call { callee := .builtin .append, args := #[x, y], argTypes := #[t, ti] }, ty, pos, aft, none⟩) :: resta) n f ds R :=
  ar_make hq (fun S w hw => by
    subst hy'
    obtain ⟨v', w', hr, h⟩ := run_appendZOp (P := P) (d := d) (ty := ty) (pos := pos) (aft := aft) (g := none) (t := t) (ti := ti) hz1 hz2 hx hy hb hw
    rw [hr]
    exact ⟨trivial, h⟩) ⟨.nilIface, trivial⟩ fun v' _ => cont v'

/-! ### a store into a row of one's own -/
theorem Sat.rowSet {w : World} {e k i c : Nat} {A : Option Addr} {xs : List Value} (v : Value) (h : Sat m (HP.own e 1 (.slice A k c) k xs :: L) w) (hi : i < k) :
    (∃ g cur, w.heap[g]? = some (.cells cur e (0, 0)) ∧ adr A i = ⟨g, i, none⟩ ∧ i < cur.size) ∧ Sat m (HP.own e 1 (.slice A k c) k (xs.set i v) :: L) (w.setCell (adr A i) v) := by
  obtain ⟨h0, a, ⟨x, y, dj, rfl, ⟨hl, ⟨hn, rfl, _⟩ | ⟨g', cap, cur, hv, rfl, h1, h2, h3, h4⟩⟩, hy⟩, hle⟩ := h
  · omega
  · cases hv
    have ha : adr (some ⟨g', 0, none⟩) i = ⟨g', i, none⟩ := by simp [adr, addr_add]
    have hg' : w.heap[g']? = some (.cells cur e (0, 0)) := PH.one_le.1 (PH.le_trans (PH.le_un_l _ _) hle)
    have hblk : Sat m (HP.blk g' (.cells cur e (0, 0)) :: L) w := ⟨h0, _, ⟨_, y, dj, rfl, rfl, hy⟩, hle⟩
    refine ⟨⟨g', cur, hg', ha, by omega⟩, ?_⟩
    rw [ha]
    have := Sat.put (o' := .cells (cur.setIfInBounds i v) e (0, 0)) (w' := w.setCell ⟨g', i, none⟩ v) hblk h0 (by simp [World.setCell, Array.getElem?_modify, hg']) fun q hq => Below.heap_setCell w _ v q hq
    refine this.mono fun hh e' => ⟨by simpa using hl, .inr ⟨g', c, _, rfl, e', h1, h2, by simpa using h3, ?_⟩⟩
    subst h4
    simp [List.take_set]
theorem wl_storeRow {t e i c k : Nat} {x y : Operand} {v : Value} {A : Option Addr} {xs : List Value} [ht : TSize P t 1] (k0 : Nat) (hk0 : L[k0]? = some (HP.own e 1 (.slice A k c) k xs)) (hx : (acts n f ds).eval x = .pointer (some (adr A i))) (hy : (acts n f ds).eval y = v) (h1 : v.oneCell' = true) (hi : i < k)
    (cont : WL P ops m (L.set k0 (HP.own e 1 (.slice A k c) k (xs.set i v))) Q rest n f ds) : WL P ops m L Q (⟨none, .store t x y, ty, pos, aft, none⟩ :: rest) n f ds :=
  wl_upon (Kv := fun _ w => Sat m (L.set k0 (HP.own e 1 (.slice A k c) k (xs.set i v))) w) (fun w hw => by
    obtain ⟨⟨g', cur, hg', ha, hlt⟩, hs⟩ := (hw.front k0 hk0).rowSet v hi
    have hcur : (Obj.cells cur e (0, 0)) = .cells cur.toList.toArray e (0, 0) := by simp
    rw [hcur] at hg'
    simp only [execOp, hx, hy, Instr.storeAt, Instr.sureAddr]
    rw [ha] at hs ⊢
    simp only [Sem.run_bind, Sem.run_pure, Result.andThen_ok, run_store_one h1 hg' (by simpa using hlt), uponV]
    exact Sat.back k0 (List.getElem?_eq_some_iff.1 hk0).1 hs) fun v w h => cont w h
theorem cells_reads {b len : Nat} {e : TypeId} {cs : List Value} (hl : cs.length = len) (h63 : len ≤ 1000000) (h : PH) (ht : HP.cells b e cs h) : SlR h (.slice (some ⟨b, 0, none⟩) len len) cs :=
  tmp_reads hl h63 h ⟨b, PH.nil, h, fun _ => .inl rfl, (PH.nil_un h).symm, ⟨rfl, rfl⟩, ht⟩
theorem fill1 {z v : Value} (hz : z.cells = #[z]) (hv : v.cells = #[v]) : Instr.fill (fun i => some (i * 1, 1)) ((Array.range (1 * 1)).map fun i => z.cells[i % z.cells.size]!) [(0, v)] = some ([v] : List Value).toArray := by
  rw [hz]
  simp [Instr.fill, hv]
  apply Array.ext
  · simp
  · intro i h1 h2
    simp at h1
    subst h1
    simp
/-- A call, in a region that draws, of a function that changes nothing and tells one value. -/
theorem ar_callR {i : Nat} {x : Operand} {args : Array Operand} {ts : Array TypeId} {h : FuncId} {first cap as : Array Value} [hf : TFunc P h] {vs : Array Value} {u : Value} (T : ∀ L', Tri P m h vs L' fun v w => v = u ∧ Sat m L' w)
    (hq : qsOf qs i = some (QS.new (fun v => v = u) (fun _ => HP.emp))) (hx : (acts n f ds).eval x = .func (.func h) first cap) (ha : args.map (acts n f ds).eval = as) (he : first ++ as ++ cap = vs)
    (k : AR P ops m L (qsOf qs) K resta n (updO f d u) ds ((i, u, HP.emp) :: R)) :
    AR P ops m L (qsOf qs) K ((i, ⟨d, .call { callee := .value x, args := args, argTypes := ts }, ty, pos, aft, none⟩) :: resta) n f ds R :=
  ar_call hq hx ha he (fun S => (T _).mono fun v w h => h) ⟨u, rfl⟩ fun v hv => by cases hv; exact k
theorem WL.weak {p : HP} (h : WL P ops m L Q rest n f ds) : WL P ops m (p :: L) Q rest n f ds := fun w hw => h w hw.drop
theorem CS.weak {p : HP} {c : Code} (h : CS P m L c Q n f ds) : CS P m (p :: L) c Q n f ds := fun w hw => h w hw.drop
end Go.Proofs.Ytkpkehfoilchaaa
