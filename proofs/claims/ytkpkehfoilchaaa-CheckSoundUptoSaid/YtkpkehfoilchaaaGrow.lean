/- What a call that changes nothing leaves: the world with draws and new blocks. -/
import Derived.Test.YtkpkehfoilchaaaIter
import Derived.Sort.Grow
namespace Go.Proofs.Ytkpkehfoilchaaa
open Go.RowKit Go.Sort
variable {P : Program}
def blksOf (w : World) (n : Nat) : List HP := (List.range n).map fun i => HP.blk i (w.heap.getD i default)
def wphN (w : World) (n : Nat) : PH := fun i => if i < n then w.heap[i]? else none
theorem blksOf_stars (w : World) : ∀ n, n ≤ w.heap.size → Stars (blksOf w n) (wphN w n)
  | 0, _ => by
    have : wphN w 0 = PH.nil := by funext i; simp [wphN, PH.nil]
    rw [this]; exact rfl
  | n + 1, h => by
    have ih := blksOf_stars w n (by omega)
    have e : blksOf w (n + 1) = blksOf w n ++ [HP.blk n (w.heap.getD n default)] := by simp [blksOf, List.range_succ]
    rw [e, Stars.append]
    have hn : w.heap[n]? = some (w.heap.getD n default) := by
      have : n < w.heap.size := by omega
      simp [Array.getD, this]
    refine ⟨wphN w n, PH.one n (w.heap.getD n default), fun i => ?_, ?_, ih, ?_⟩
    · by_cases hi : i < n
      · exact .inr (by simp only [PH.one]; rw [if_neg (by omega)])
      · exact .inl (by simp only [wphN]; rw [if_neg hi])
    · funext i
      simp only [wphN, PH.un, PH.one]
      by_cases hi : i < n
      · rw [if_pos (by omega), if_pos hi]
        cases w.heap[i]? with
        | none => simp only []; rw [if_neg (by omega)]
        | some o => rfl
      · rw [if_neg hi]
        simp only []
        by_cases hin : i = n
        · subst hin; rw [if_pos (by omega), if_pos rfl, hn]
        · rw [if_neg (by omega), if_neg hin]
    · exact ⟨_, PH.nil, fun i => .inr rfl, (PH.un_nil _).symm, rfl, rfl⟩
theorem sat_all (w : World) : Sat (Meta.of w) (blksOf w w.heap.size) w :=
  ⟨Meta.of_ok w, _, blksOf_stars w _ (Nat.le_refl _), fun i o h => by
    simp only [wphN] at h
    split at h
    · exact h
    · cases h⟩
theorem grown_of_sat {w w' : World} (h : Sat (Meta.of w) (blksOf w w.heap.size) w') : ∃ q os, w' = grow (w.drewN q) os := by
  obtain ⟨h1, h2, h3, h4⟩ := h.1
  have hb : ∀ i, i < w.heap.size → w'.heap[i]? = w.heap[i]? := fun i hi => by
    have := h.blk (b := i) (o := w.heap.getD i default) (List.mem_map.2 ⟨i, List.mem_range.2 hi, rfl⟩)
    rw [this]; simp [Array.getD, hi]
  have hsz : w.heap.size ≤ w'.heap.size := by
    rcases Nat.lt_or_ge w'.heap.size w.heap.size with h | h
    · have := hb w'.heap.size h
      simp [h] at this
    · exact h
  refine ⟨w'.drawn - w.drawn, w'.heap.extract w.heap.size w'.heap.size, ?_⟩
  have hd : w.drawn ≤ w'.drawn := h4
  have hh : w'.heap = w.heap ++ w'.heap.extract w.heap.size w'.heap.size := by
    apply Array.ext_getElem?
    intro i
    rw [Array.getElem?_append]
    split
    · rename_i hi; exact hb i hi
    · rename_i hi
      rw [Array.getElem?_extract]
      by_cases hl : i < w'.heap.size
      · rw [if_pos (by omega), show w.heap.size + (i - w.heap.size) = i by omega]
      · rw [if_neg (by omega)]; simp [hl]
  cases w'
  simp only [grow, World.drewN] at *
  simp only [Meta.of] at h1 h2 h3
  subst h1; subst h2; subst h3
  congr 1
  omega
/-- A contract that changes nothing, as a sentence on the world. -/
theorem Tri.grows {g : FuncId} {args : Array Value} {u : Value} (T : ∀ m L, Tri P m g args L fun v w => v = u ∧ Sat m L w) (w : World) : Calls P g args w fun e w' => e = .returned u ∧ ∃ q os, w' = grow (w.drewN q) os :=
  (T _ _ w (sat_all w)).mono fun e w' ⟨v, he, hv, hs⟩ => ⟨by rw [he, hv], grown_of_sat hs⟩
section
variable {m : Meta} {L : List HP} {ops : Array Oper} {Q : Exit → Act → World → Prop} {n : Nat} {f : Env} {ds : List Deferred} {rest : List Oper} {ρ : Operand → Value} {d : Option Tmp} {ty : TypeId} {pos : String} {aft : Array Edge} {g : Option (Nat × Bool)} {t t' : TypeId} {x y : Operand}
theorem run_equal_slice_nil {e : TypeId} [ht : TSlice P t e] (p : Option Addr) (k c : Nat) (w : World) : (Op.equal t (.slice p k c) (.slice none 0 0)).run P w = .ok p.isNone w := by
  have h : ∀ d, (Op.equalIn (d + 1) t (.slice p k c) (.slice none 0 0)).run P w = .ok p.isNone w := fun d => by
    cases p <;> simp [Op.equalIn, run_underlying ht.is]
  exact h 9999
theorem rd_eqlS {e : TypeId} [ht : TSlice P t e] {p : Option Addr} {k c : Nat} (hx : ρ x = .slice p k c) (hy : ρ y = .slice none 0 0) : Reads P m L (execOp ρ ⟨d, .binOp .eql t x y t', ty, pos, aft, g⟩) (.bool p.isNone) := fun w _ => by
  have : (binOp .eql t (.slice p k c) (.slice none 0 0)).run P w = .ok (.bool p.isNone) w := by
    simp only [binOp]
    simp [run_equal_slice_nil (P := P) p k c w]
  simp [execOp, hx, hy, eqGuard_at_slice, this]
theorem rd_sliceHiMax {e sz len cap : Nat} {hi mx : Operand} {A : Option Addr} {i j : Int} {k k' : IntKind} [ht : TSlice P t e] [hs : TSize P e sz] (hx : ρ x = .slice A len cap) (hh : ρ hi = .int k i) (hm : ρ mx = .int k' j) (h0 : 0 ≤ i) (h1 : i ≤ j) (h2 : j ≤ cap) :
    Reads P m L (execOp ρ ⟨d, .slice t x none (some hi) (some mx), ty, pos, aft, g⟩) (.slice A i.toNat j.toNat) := fun w _ => by
  have h3 : 0 ≤ j := by omega
  have h5 : ¬ max j 0 < i := by omega
  simp [execOp, hx, hh, hm, Instr.sliceAt, underlying, ht.is, Instr.slice, Instr.sliceBounds, Instr.sliceBound, asIntOf, h0, h2, h3, hs.size]
  cases A <;> simp [Addr.add] <;> (intro h6; exact absurd h6 h5)
end
/-- S with nothing in it: an empty row of one's own. -/
theorem wl_buildSlice0 {m : Meta} {L : List HP} {ops : Array Oper} {Q : Exit → Act → World → Prop} {n : Nat} {f : Env} {ds : List Deferred} {rest : List Oper} {d : Option Tmp} {ty : TypeId} {pos : String} {aft : Array Edge} {t e : TypeId} [ht : TSlice P t e] [hs : TSize P e 1]
    (c : ∀ g, WL P ops m (HP.own e 1 (.slice (some ⟨g, 0, none⟩) 0 0) 0 [] :: L) Q rest n (updO f d (.slice (some ⟨g, 0, none⟩) 0 0)) ds) : WL P ops m L Q (⟨d, .buildSlice t 0 #[], ty, pos, aft, none⟩ :: rest) n f ds :=
  wl_upon (Kv := fun v w => ∃ g, v = .slice (some ⟨g, 0, none⟩) 0 0 ∧ Sat m (HP.own e 1 (.slice (some ⟨g, 0, none⟩) 0 0) 0 [] :: L) w) (fun w hw => by
    have : (execOp (acts n f ds).eval ⟨d, .buildSlice t 0 #[], ty, pos, aft, none⟩).run P w = .ok (.value (.slice (some ⟨w.heap.size, 0, none⟩) 0 0)) (w.alloc (.cells #[] e (0, 0))) := by
      simp only [execOp, Instr.buildSlice, underlying, Sem.run_bind]
      simp [Sem.run, program, ht.is, hs.size, newRow, newObj, Instr.fill]
      have hz : Array.map (fun _ : Nat => (default : Value)) (Array.range 0) = #[] := by apply Array.ext <;> simp
      rw [hz]
    rw [this]
    refine ⟨_, rfl, (hw.alloc _).mono fun h he => ⟨by simp, .inr ⟨w.heap.size, 0, #[], rfl, he, Nat.le_refl _, by simp [maxLen], by simp, by simp⟩⟩⟩) fun v w ⟨g, e, h⟩ => by subst e; exact c g w h
end Go.Proofs.Ytkpkehfoilchaaa
