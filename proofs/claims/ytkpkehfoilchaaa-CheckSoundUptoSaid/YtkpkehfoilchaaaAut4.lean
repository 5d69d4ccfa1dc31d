/- More laws for the walk: rows of structs, structs stored whole, results that lie in memory. -/
import Derived.Test.YtkpkehfoilchaaaAut3
namespace Go.Proofs.Ytkpkehfoilchaaa
open Go.RowKit
set_option linter.unusedVariables false
variable {P : Program} {m : Meta} {L L' : List HP} {ops : Array Oper} {Q : Exit → Act → World → Prop} {n : Nat} {f : Env} {ds : List Deferred} {rest : List Oper}
  {d : Option Tmp} {ty : TypeId} {pos : String} {aft : Array Edge} {g : Option (Nat × Bool)}
/-! ### rows of structs -/
/-- A slice of elements of so many cells, as they are read. -/
structure SlZ (h : PH) (sz : Nat) (A : Option Addr) (len c : Nat) (xs : List (List Value)) : Prop where
  ln : xs.length = len
  cap : len ≤ c
  cells : ∀ (i : Nat) (cs : List Value), xs[i]? = some cs → cs.length = sz ∧ ∃ a : Addr, A = some a ∧ ∀ (j : Nat) (x : Value), cs[j]? = some x → h.cell (a.add (i * sz + j)) = some x
theorem SlZ.le {h h' : PH} {sz : Nat} {A : Option Addr} {len c : Nat} {xs : List (List Value)} (hl : h.le h') (s : SlZ h sz A len c xs) : SlZ h' sz A len c xs :=
  ⟨s.ln, s.cap, fun i cs hi => let ⟨h1, a, ha, h2⟩ := s.cells i cs hi; ⟨h1, a, ha, fun j x hx => PH.cell_le hl (h2 j x hx)⟩⟩
class RowZ (L : List HP) (A : Option Addr) (sz : outParam Nat) (len c : outParam Nat) (xs : outParam (List (List Value))) : Prop where row : ∀ m, Ent m L fun h => SlZ h sz A len c xs
instance (priority := low) rowz_skip {p : HP} {L : List HP} {A : Option Addr} {sz len c : Nat} {xs : List (List Value)} [h : RowZ L A sz len c xs] : RowZ (p :: L) A sz len c xs := ⟨fun m w hw => h.row m w hw.drop⟩
class SzK (h : PH) (A : Option Addr) (sz len c : outParam Nat) (xs : outParam (List (List Value))) : Prop where sl : SlZ h sz A len c xs
instance rowz_ro {h : PH} {sz len c : Nat} {A : Option Addr} {xs : List (List Value)} {L : List HP} [s : SzK h A sz len c xs] : RowZ (HP.ro h :: L) A sz len c xs := ⟨fun m => Ent.at_ 0 rfl (fun h' hh => by cases hh; exact s.sl) (fun _ _ => SlZ.le)⟩
class GetZ (xs : List (List Value)) (i : Nat) (cs : outParam (List Value)) (side : outParam Prop) : Prop where get : side → xs[i]? = some cs
instance getz_map {α : Type} [Inhabited α] {f : α → List Value} {l : List α} {i : Nat} : GetZ (l.map f) i (f (l.getD i default)) (i < l.length) := ⟨fun h => by simp [h, List.getD_eq_getElem?_getD]⟩
instance rd1_ixZ {t e sz len c len' c' : Nat} {x ix : Operand} {A : Option Addr} {k : IntKind} {i : Int} {j : Nat} {xs : List (List Value)} [ht : TSlice P t e] [hs : TSize P e sz] [hx : Ev n f x (.slice A len c)] [hi : Ev n f ix (.int k i)] [hr : RowZ L A sz len' c' xs] [hn : ToN i j] :
    Rd P L n f ⟨d, .indexAddr t x ix, ty, pos, aft, g⟩ (.pointer (some (adr A (j * sz)))) (0 ≤ i ∧ i < (len : Int) ∧ j < len') := ⟨fun h m ds w hw => by
  have hz := hr.row m w hw
  obtain ⟨_, a, rfl, _⟩ := hz.cells j _ (List.getElem?_eq_getElem (by have := hz.ln; omega))
  have := rd_indexAddr (P := P) (m := m) (L := L) (d := d) (ty := ty) (pos := pos) (aft := aft) (g := g) (t := t) (sz := sz) (hx.ev ds) (hi.ev ds) h.1 h.2.1 w hw
  rw [hn.to] at this
  simpa [adr] using this⟩
instance cell_adrZ {L : List HP} {A : Option Addr} {sz len c i o : Nat} {xs : List (List Value)} {cs : List Value} {v : Value} {s : Prop} [h : RowZ L A sz len c xs] [g : GetZ xs i cs s] [k : NthV cs o v] : CellE L (adr A (i * sz + o)) v s := ⟨fun hs m w hw => by
  obtain ⟨_, a, rfl, h2⟩ := (h.row m w hw).cells i cs (g.get hs)
  exact h2 o v k.nth⟩
instance cell_adrZ0 {L : List HP} {A : Option Addr} {sz len c i : Nat} {xs : List (List Value)} {cs : List Value} {v : Value} {s : Prop} [h : RowZ L A sz len c xs] [g : GetZ xs i cs s] [k : NthV cs 0 v] : CellE L (adr A (i * sz)) v s := ⟨fun hs m w hw => by
  obtain ⟨_, a, rfl, h2⟩ := (h.row m w hw).cells i cs (g.get hs)
  exact h2 0 v k.nth⟩
instance cells_adrZ {L : List HP} {A : Option Addr} {sz len c i : Nat} {xs : List (List Value)} {cs : List Value} {s : Prop} [h : RowZ L A sz len c xs] [g : GetZ xs i cs s] [hl : LenE cs sz] : CellsE L (adr A (i * sz)) sz cs s := ⟨fun hs => ⟨hl.len, fun m w hw j v hv => by
  obtain ⟨_, a, rfl, h2⟩ := (h.row m w hw).cells i cs (g.get hs)
  show w.cell? ((adr (some a) (i * sz)).add j) = some v
  rw [show adr (some a) (i * sz) = a.add (i * sz) from rfl, wcell_add]
  exact h2 j v hv⟩⟩
/-! ### structs stored whole -/
class CellsF (L : List HP) (b : Nat) (t : outParam TypeId) (cs : outParam (List Value)) (F : outParam (HP → List HP)) : Prop where cl : ∃ k : Nat, L[k]? = some (HP.cells b t cs) ∧ ∀ p, F p = L.set k p
instance cellsf_hd {b t : Nat} {cs : List Value} {L : List HP} : CellsF (HP.cells b t cs :: L) b t cs (fun p => p :: L) := ⟨0, rfl, fun _ => rfl⟩
instance (priority := low) cellsf_skip {p : HP} {b t : Nat} {cs : List Value} {L : List HP} {F : HP → List HP} [h : CellsF L b t cs F] : CellsF (p :: L) b t cs (fun q => p :: F q) := ⟨let ⟨k, h1, h2⟩ := h.cl; ⟨k + 1, by simpa using h1, fun q => by simp [h2]⟩⟩
theorem wl_stW {t e b k : Nat} {x y : Operand} {cs cs' : List Value} {F : HP → List HP} [ht : TSize P t k] [hx : Ev n f x (.pointer (some ⟨b, 0, none⟩))] [hy : Ev n f y (.agg cs'.toArray)] [hc : CellsF L b e cs F] [hl : LenE cs k] [hl' : LenE cs' k] [h1 : AllOne cs'] (c : WL P ops m (F (HP.cells b e cs')) Q rest n f ds) :
    WL P ops m L Q (⟨none, .store t x y, ty, pos, aft, none⟩ :: rest) n f ds := by
  obtain ⟨i, hi, hF⟩ := hc.cl
  refine wl_upon (Kv := fun _ w => Sat m (F (HP.cells b e cs')) w) (fun w hw => ?_) fun v w h => c w h
  have hf := hw.front i hi
  have hb := hf.blk (List.mem_cons_self ..)
  have hst := run_storeCells_at P b 0 e cs' 0 cs.toArray w hb (by simp [hl.len, hl'.len]) h1.all
  have hd : List.drop cs'.length cs = [] := List.drop_eq_nil_of_le (by rw [hl.len, hl'.len]; exact Nat.le_refl _)
  simp only [Nat.add_zero, Nat.zero_add, List.take_zero, List.nil_append, hd, List.append_nil] at hst
  have hs := ht.size w
  have hrun : (storeVar t ⟨b, 0, none⟩ (.agg cs'.toArray)).run P w = .ok () (w.setRow b cs'.toArray) := by
    simp [storeVar, Value.cells, hs, hl'.len, hst]
  simp only [execOp, hx.ev ds, hy.ev ds, Instr.storeAt, Instr.sureAddr]
  simp only [Sem.run_bind, Sem.run_pure, Result.andThen_ok, hrun, uponV]
  rw [hF]
  refine Sat.back i (List.getElem?_eq_some_iff.1 hi).1 ?_
  exact Sat.put hf hf.1 (setRow_heap w b cs.toArray _ e _ hb) fun q hq => setRow_other w b q _ hq
/-! ### a frame told by some slots alone -/
theorem cs_re {c : Code} (S : List (Nat × Value)) (hs : Slots f S) (h : ∀ g, CS P m L c Q n (upds g S) ds) : CS P m L c Q n f ds := by
  have := h f; rwa [upds_self hs] at this
theorem wl_re {l : List Oper} (S : List (Nat × Value)) (hs : Slots f S) (h : ∀ g, WL P ops m L Q l n (upds g S) ds) : WL P ops m L Q l n f ds := by
  have := h f; rwa [upds_self hs] at this
/-! ### results that lie in memory -/
theorem fp_cell {fn : Func} {Post : Value → World → Prop} {t : Tmp} {ty k : TypeId} {a : Addr} {cs : List Value} {s : Prop} (hr : fn.results = #[.cell t ty]) [b : BT (Nat.ble (Nat.succ t) n)] [h : Lk f t (.pointer (some a))] [ha : TAgg P ty] [hk : TSize P ty k] [hc : CellsE L a k cs s] (hs : s) {e : Exit} (he : e = .ret ∨ e = .normal)
    (hp : ∀ w, Sat m L w → Post (.agg cs.toArray) w) : KS m L (FP P fn Post) e n f [] := fun w hw => by
  have hcc := hc.cells hs
  have hl := run_loadCells (P := P) (a := a) cs 0 #[] w (fun j v hj => by rw [Nat.zero_add]; exact hcc.2 m w hw j v hj)
  rw [hcc.1] at hl
  have hrun : (results fn (acts n f []).tmps).run P w = .ok (.agg cs.toArray) w := by
    have hg : (acts n f []).tmps[t]?.getD undef = .pointer (some a) := by
      have := get_ (n := n) (f := f) (ds := []) (t := t) (v := .pointer (some a))
      simpa using this
    simp only [results, hr]
    simp [hg, get_ (n := n) (f := f) (ds := []) (t := t) (v := .pointer (some a)), asAddr, loadVar, ha.agg, hk.size, loadCells, hl]
  rcases he with rfl | rfl
  · exact bodyPost_ret hrun rfl ⟨_, rfl, hp w hw⟩
  · exact bodyPost_end hrun rfl ⟨_, rfl, hp w hw⟩
theorem fill_two {z : Value} {c1 c2 : List Value} (hz : z.cells.size = 4) (h1 : c1.length = 4) (h2 : c2.length = 4) : Instr.fill (fun i => some (i * 4, 4)) ((Array.range (2 * 4)).map fun i => z.cells[i % z.cells.size]!) [(0, .agg c1.toArray), (1, .agg c2.toArray)] = some (c1 ++ c2).toArray := by
  have key : ∀ a0 : Array Value, a0.size = 8 → Instr.fill (fun i => some (i * 4, 4)) a0 [(0, .agg c1.toArray), (1, .agg c2.toArray)] = some (c1 ++ c2).toArray := by
    rintro ⟨l⟩ hl
    match l, hl, c1, h1, c2, h2 with
    | [x0, x1, x2, x3, x4, x5, x6, x7], _, [a, b, c, d], _, [e, f, g, h], _ => simp [Instr.fill, Value.cells]
  exact key _ (by simp)
theorem wl_slice2x4 {t e d bytes : Nat} {z : Value} {x y : Operand} {c1 c2 : List Value} [ht : TElem P t e z 4 bytes] [hS : TSlice P t e] [hs : TSize P e 4] [hz : TZero P e z] [hx : Ev n f x (.agg c1.toArray)] [hy : Ev n f y (.agg c2.toArray)] [hl1 : LenE c1 4] [hl2 : LenE c2 4]
    (c : ∀ b, WL P ops m (HP.cells b e (c1 ++ c2) :: L) Q rest n (upd f d (.slice (some ⟨b, 0, none⟩) 2 2)) ds) : WL P ops m L Q (⟨some d, .buildSlice t 2 #[(0, x), (1, y)], ty, pos, aft, none⟩ :: rest) n f ds :=
  wl_upon (Kv := fun v w => ∃ b, v = .slice (some ⟨b, 0, none⟩) 2 2 ∧ Sat m (HP.cells b e (c1 ++ c2) :: L) w) (fun w hw => by
    rw [run_buildSlice (ps := [(0, .agg c1.toArray), (1, .agg c2.toArray)]) (cs := c1 ++ c2) (sz := 4) (z := z) (by simp [hx.ev ds, hy.ev ds]) (fill_two ht.cells hl1.len hl2.len) (by decide) w]
    exact ⟨_, rfl, hw.alloc _⟩) fun v w ⟨b, e, h⟩ => by subst e; exact c b w h
end Go.Proofs.Ytkpkehfoilchaaa
