/- Automation by instances: what operands come to, what an operation reads, what it writes, which part of the list it looks at. -/
import Derived.Test.YtkpkehfoilchaaaClear
namespace Go.Proofs.Ytkpkehfoilchaaa
open Go.RowKit
set_option linter.unusedVariables false

/-! ### numbers, told by the checker -/
class Eqb (a b : Bool) : Prop where e : a = b
instance eqb_rfl {a : Bool} : Eqb a a := ⟨rfl⟩
abbrev BT (b : Bool) : Prop := Eqb b true
abbrev BF (b : Bool) : Prop := Eqb b false

/-! ### frames -/
class Lk (f : Env) (t : Nat) (v : outParam Value) : Prop where lk : f t = v
instance lk_hit {f : Env} {d : Nat} {v : Value} : Lk (upd f d v) d v := ⟨by simp [upd]⟩
instance (priority := low) lk_miss {f : Env} {d : Nat} {v : Value} {t : Nat} {u : Value} [b : BF (Nat.beq t d)] [h : Lk f t u] : Lk (upd f d v) t u := ⟨by
  have := b.e; have h2 : ¬ t = d := fun e => by simp [e] at this
  simp [upd, h2, h.lk]⟩
/-- Slots that a loop writes: whatever is there (W: their mask). -/
def hav (W : Nat) (j f : Env) : Env := fun t => if Nat.beq (Nat.land (Nat.shiftRight W t) 1) 0 then f t else j t
instance lk_hav {W : Nat} {j f : Env} {t : Nat} {v : Value} [b : BT (Nat.beq (Nat.land (Nat.shiftRight W t) 1) 0)] [h : Lk f t v] : Lk (hav W j f) t v := ⟨by unfold hav; rw [if_pos b.e]; exact h.lk⟩
class Ev (n : Nat) (f : Env) (x : Operand) (v : outParam Value) : Prop where ev : ∀ ds, (acts n f ds).eval x = v
instance ev_tmp {n : Nat} {f : Env} {t : Nat} {v : Value} [b : BT (Nat.ble (Nat.succ t) n)] [h : Lk f t v] : Ev n f (.tmp t) v := ⟨fun ds => by
  rw [acts_tmp, if_pos (show t < n from Nat.le_of_ble_eq_true b.e)]; exact h.lk⟩
instance ev_const {n : Nat} {f : Env} {v : Value} : Ev n f (.const v) v := ⟨fun _ => rfl⟩
instance ev_func {n : Nat} {f : Env} {g : FuncId} : Ev n f (.func g) (.func (.func g) #[] #[]) := ⟨fun _ => rfl⟩
theorem ev_ {n : Nat} {f : Env} {ds : List Deferred} {x : Operand} {v : Value} [h : Ev n f x v] : (acts n f ds).eval x = v := h.ev ds
theorem get_ {n : Nat} {f : Env} {ds : List Deferred} {t : Nat} {v : Value} [b : BT (Nat.ble (Nat.succ t) n)] [h : Lk f t v] : (acts n f ds).tmps.getD t undef = v := by
  rw [acts_get, if_pos (show t < n from Nat.le_of_ble_eq_true b.e)]; exact h.lk
theorem lk_ {f : Env} {t : Nat} {v : Value} [h : Lk f t v] : f t = v := h.lk
class EvL (n : Nat) (f : Env) (xs : List Operand) (vs : outParam (List Value)) : Prop where ev : ∀ ds, xs.map (acts n f ds).eval = vs
instance evl_nil {n : Nat} {f : Env} : EvL n f [] [] := ⟨fun _ => rfl⟩
instance evl_cons {n : Nat} {f : Env} {x : Operand} {xs : List Operand} {v : Value} {vs : List Value} [h : Ev n f x v] [k : EvL n f xs vs] : EvL n f (x :: xs) (v :: vs) := ⟨fun ds => by simp [h.ev, k.ev]⟩
theorem evl_ {n : Nat} {f : Env} {ds : List Deferred} {xs : List Operand} {vs : List Value} [h : EvL n f xs vs] : (xs.toArray).map (acts n f ds).eval = vs.toArray := by
  have := h.ev ds; simp [this]
class EvP (n : Nat) (f : Env) (xs : List (Nat × Operand)) (vs : outParam (List (Nat × Value))) : Prop where ev : ∀ ds, xs.map (fun x => (x.1, (acts n f ds).eval x.2)) = vs
instance evp_nil {n : Nat} {f : Env} : EvP n f [] [] := ⟨fun _ => rfl⟩
instance evp_cons {n : Nat} {f : Env} {i : Nat} {x : Operand} {xs : List (Nat × Operand)} {v : Value} {vs : List (Nat × Value)} [h : Ev n f x v] [k : EvP n f xs vs] : EvP n f ((i, x) :: xs) ((i, v) :: vs) := ⟨fun ds => by simp [h.ev, k.ev]⟩
theorem evp_ {n : Nat} {f : Env} {ds : List Deferred} {xs : List (Nat × Operand)} {vs : List (Nat × Value)} [h : EvP n f xs vs] : xs.toArray.toList.map (fun x => (x.1, (acts n f ds).eval x.2)) = vs := h.ev ds
/-- frames that differ in what a loop writes alone -/
class Off (W : Nat) (g f : Env) : Prop where off : ∀ t, Nat.beq (Nat.land (Nat.shiftRight W t) 1) 0 = true → g t = f t
instance off_hav {W : Nat} {j f : Env} : Off W (hav W j f) f := ⟨fun t h => by simp only [hav]; rw [if_pos h]⟩
instance off_upd {W d : Nat} {g f : Env} {v : Value} [b : BF (Nat.beq (Nat.land (Nat.shiftRight W d) 1) 0)] [h : Off W g f] : Off W (upd g d v) f := ⟨fun t ht => by
  by_cases e : t = d
  · subst e; rw [b.e] at ht; cases ht
  · simp only [upd, if_neg e]; exact h.off t ht⟩
theorem mask_sub {W W' t : Nat} (hs : Nat.beq (Nat.land W' W) W' = true) (h : Nat.beq (Nat.land (Nat.shiftRight W t) 1) 0 = true) : Nat.beq (Nat.land (Nat.shiftRight W' t) 1) 0 = true := by
  have h0 : W' &&& W = W' := Nat.eq_of_beq_eq_true hs
  have h1 : (W >>> t) &&& 1 = 0 := Nat.eq_of_beq_eq_true h
  have h2 : (W' >>> t) &&& 1 = 0 := by
    rw [← h0, Nat.shiftRight_and_distrib, Nat.and_assoc, h1, Nat.and_zero]
  show Nat.beq ((W' >>> t) &&& 1) 0 = true
  rw [h2]; rfl
instance (priority := low) off_hav' {W W' : Nat} {j g f : Env} [b : BT (Nat.beq (Nat.land W' W) W')] [h : Off W g f] : Off W (hav W' j g) f := ⟨fun t ht => by
  simp only [hav]; rw [if_pos (mask_sub b.e ht)]; exact h.off t ht⟩
theorem off_eq {W : Nat} {g f : Env} (h : Off W g f) : hav W g f = g := by
  funext t; simp only [hav]; split
  · rename_i ht; exact (h.off t ht).symm
  · rfl

/-! ### rows of lists -/
class NthV (cs : List Value) (i : Nat) (v : outParam Value) : Prop where nth : cs[i]? = some v
instance nth_zero {v : Value} {cs : List Value} : NthV (v :: cs) 0 v := ⟨rfl⟩
instance nth_succ {c v : Value} {cs : List Value} {i : Nat} [h : NthV cs i v] : NthV (c :: cs) (i + 1) v := ⟨by simpa using h.nth⟩
class SetV (cs : List Value) (i : Nat) (v : Value) (cs' : outParam (List Value)) : Prop where st : cs.set i v = cs' ∧ i < cs.length
instance set_zero {c v : Value} {cs : List Value} : SetV (c :: cs) 0 v (v :: cs) := ⟨rfl, by simp⟩
instance set_succ {c v : Value} {cs cs' : List Value} {i : Nat} [h : SetV cs i v cs'] : SetV (c :: cs) (i + 1) v (c :: cs') := ⟨by simp [h.st.1], by simpa using h.st.2⟩
/-- an element of a row that is told by a function -/
class GetE (xs : List Value) (i : Nat) (v : outParam Value) (side : outParam Prop) : Prop where get : side → xs[i]? = some v
instance get_map {α : Type} [Inhabited α] {f : α → Value} {l : List α} {i : Nat} : GetE (l.map f) i (f (l.getD i default)) (i < l.length) := ⟨fun h => by simp [h, List.getD_eq_getElem?_getD]⟩
instance (priority := low) get_any {xs : List Value} {i : Nat} : GetE xs i (xs.getD i undef) (i < xs.length) := ⟨fun h => by simp [h, List.getD_eq_getElem?_getD]⟩
instance get_nth {xs : List Value} {i : Nat} {v : Value} [h : NthV xs i v] : GetE xs i v True := ⟨fun _ => h.nth⟩

/-! ### addresses -/
class AddA (a : Addr) (n : Nat) (r : outParam Addr) : Prop where add : a.add n = r
instance adda_adr0 {A : Option Addr} {k : Nat} : AddA (adr A k) 0 (adr A k) := ⟨by simp [Addr.add]⟩
instance (priority := low) adda_adr {A : Option Addr} {k n : Nat} : AddA (adr A k) n (adr A (k + n)) := ⟨by simp [adr, wcell_add]⟩
instance adda_zero {b n : Nat} : AddA ⟨b, 0, none⟩ n ⟨b, n, none⟩ := ⟨by rw [addr_add, Nat.zero_add]⟩
instance (priority := low) adda_off {b o n : Nat} : AddA ⟨b, o, none⟩ n ⟨b, o + n, none⟩ := ⟨addr_add b o n⟩
class ToN (i : Int) (k : outParam Nat) : Prop where to : i.toNat = k
instance ton_cast {k : Nat} : ToN (k : Int) k := ⟨by simp⟩
instance ton_lit {k : Nat} : ToN (OfNat.ofNat k : Int) k := ⟨rfl⟩
instance (priority := low) ton_any {i : Int} : ToN i i.toNat := ⟨rfl⟩
class Mul1 (k sz : Nat) (r : outParam Nat) : Prop where mul : k * sz = r
instance mul_one1 {k : Nat} : Mul1 k 1 k := ⟨Nat.mul_one k⟩
instance (priority := low) mul_any {k sz : Nat} : Mul1 k sz (k * sz) := ⟨rfl⟩

/-! ### what the list tells -/
/-- a cell -/
class CellE (L : List HP) (a : Addr) (v : outParam Value) (side : outParam Prop) : Prop where cell : side → ∀ m w, Sat m L w → w.cell? a = some v
instance cell_hd {b t k : Nat} {cs : List Value} {L : List HP} {v : Value} {s : Prop} [h : GetE cs k v s] : CellE (HP.cells b t cs :: L) ⟨b, k, none⟩ v s := ⟨fun hs m w hw => by
  have := hw.blk (List.mem_cons_self ..)
  simp [World.cell?, this, h.get hs]⟩
instance (priority := low) cell_skip {P : HP} {L : List HP} {a : Addr} {v : Value} {s : Prop} [h : CellE L a v s] : CellE (P :: L) a v s := ⟨fun hs m w hw => h.cell hs m w hw.drop⟩
/-- a row, told by where it begins (elements of one cell) -/
class RowA (L : List HP) (A : Option Addr) (len c : outParam Nat) (xs : outParam (List Value)) : Prop where row : ∀ m, Ent m L fun h => SlR h (.slice A len c) xs
instance row_own {e k c : Nat} {A : Option Addr} {xs : List Value} {L : List HP} : RowA (HP.own e 1 (.slice A k c) k xs :: L) A k c xs := ⟨fun m => Ent.at_ 0 rfl (fun h hh => own_reads hh) (fun _ _ => SlR.le)⟩
instance (priority := low) row_skip {P : HP} {L : List HP} {A : Option Addr} {len c : Nat} {xs : List Value} [h : RowA L A len c xs] : RowA (P :: L) A len c xs := ⟨fun m w hw => h.row m w hw.drop⟩
instance cell_adr {L : List HP} {A : Option Addr} {len c i : Nat} {xs : List Value} {v : Value} {s : Prop} [h : RowA L A len c xs] [g : GetE xs i v s] : CellE L (adr A i) v s := ⟨fun hs m w hw => by
  obtain ⟨A', n', c', e, _, _, _, h4⟩ := h.row m w hw
  cases e
  obtain ⟨a, rfl, hc⟩ := h4 i v (g.get hs)
  exact hc⟩
/-- a map -/
class MapE (L : List HP) (b : Nat) (kk : outParam IntKind) (D : outParam (List (Int × Value))) : Prop where mp : ∃ k : Nat, L[k]? = some (HP.imap b kk D)
instance map_hd {b : Nat} {kk : IntKind} {D : List (Int × Value)} {L : List HP} : MapE (HP.imap b kk D :: L) b kk D := ⟨0, rfl⟩
instance (priority := low) map_skip {P : HP} {L : List HP} {b : Nat} {kk : IntKind} {D : List (Int × Value)} [h : MapE L b kk D] : MapE (P :: L) b kk D := ⟨let ⟨k, hk⟩ := h.mp; ⟨k + 1, by simpa using hk⟩⟩
/-- one part for another -/
class PutE (L : List HP) (p p' : HP) (L' : outParam (List HP)) : Prop where put : ∃ k : Nat, L[k]? = some p ∧ L' = L.set k p'
instance put_hd {L : List HP} {p p' : HP} : PutE (p :: L) p p' (p' :: L) := ⟨0, rfl, rfl⟩
instance (priority := low) put_skip {P : HP} {L L' : List HP} {p p' : HP} [h : PutE L p p' L'] : PutE (P :: L) p p' (P :: L') := ⟨let ⟨k, hk, e⟩ := h.put; ⟨k + 1, by simpa using hk, by simp [e]⟩⟩
/-- one part out of the list -/
class Find (L : List HP) (p : HP) (R : outParam (List HP)) : Prop where find : L.Perm (p :: R)
instance find_hd {p : HP} {L : List HP} : Find (p :: L) p L := ⟨List.Perm.refl _⟩
instance (priority := low) find_skip {p q : HP} {L R : List HP} [h : Find L p R] : Find (q :: L) p (q :: R) := ⟨(List.Perm.cons q h.find).trans (List.Perm.swap p q R)⟩
class Sub (L pre : List HP) (R : outParam (List HP)) : Prop where sub : L.Perm (pre ++ R)
instance sub_nil {L : List HP} : Sub L [] L := ⟨List.Perm.refl _⟩
instance sub_cons {L L1 R ps : List HP} {p : HP} [h : Find L p L1] [k : Sub L1 ps R] : Sub L (p :: ps) R := ⟨h.find.trans (List.Perm.cons p k.sub)⟩
instance sub_var {L : List HP} : Sub L L [] := ⟨by simp⟩
theorem Sub.sat {L pre R : List HP} (h : Sub L pre R) {m : Meta} {w : World} (hw : Sat m L w) : Sat m (pre ++ R) w := hw.perm h.sub
theorem Sat.sub {L pre R : List HP} {m : Meta} {w : World} (hw : Sat m L w) [h : Sub L pre R] : Sat m (pre ++ R) w := hw.perm h.sub
theorem Sat.weakR {L R : List HP} {m : Meta} {w : World} (hw : Sat m (L ++ R) w) : Sat m L w := (hw.perm List.perm_append_comm).app
theorem sub_ {L L' R : List HP} {m : Meta} [h : Sub L L' R] : ∀ w, Sat m L w → Sat m L' w := fun w hw => (h.sat hw).weakR

/-! ### the types' facts on addresses of any kind -/
class TFld (P : Program) (s i : Nat) (off : outParam Nat) : Prop where at_ : ∀ (a : Addr) w, (Instr.fieldAt s (.pointer (some a)) i).run P w = .ok (.pointer (some (a.add off))) w

variable {P : Program} {m : Meta} {L L' : List HP} {ops : Array Oper} {Q : Exit → Act → World → Prop} {n : Nat} {f : Env} {ds : List Deferred} {qs : List (Nat × QS)} {K : Act → Made → Prop} {R : Made} {rest : List Oper} {resta : List (Nat × Oper)}
  {d : Option Tmp} {ty : TypeId} {pos : String} {aft : Array Edge} {g : Option (Nat × Bool)}

/-! ### operations that read -/
class Rd (P : Program) (L : List HP) (n : Nat) (f : Env) (o : Oper) (v : outParam Value) (side : outParam Prop) : Prop where rd : side → ∀ m ds, Reads P m L (execOp (acts n f ds).eval o) v
instance rd1_move {x : Operand} {v : Value} [h : Ev n f x v] : Rd P L n f ⟨d, .move x, ty, pos, aft, g⟩ v True := ⟨fun _ m ds => rd_move (h.ev ds)⟩
instance rd1_assign {x : Operand} {v : Value} [h : Ev n f x v] : Rd P L n f ⟨d, .assign x, ty, pos, aft, g⟩ v True := ⟨fun _ m ds => rd_assign (h.ev ds)⟩
class NilV (v : Value) : Prop where nil : ∀ (P : Program) (m : Meta) (L : List HP) (ρ : Operand → Value) (x : Operand) (d : Option Tmp) (ty : TypeId) (pos : String) (aft : Array Edge) (g : Option (Nat × Bool)), ρ x = v → Reads P m L (execOp ρ ⟨d, .nilCheck x, ty, pos, aft, g⟩) v
instance nilv_ptr {a : Addr} : NilV (.pointer (some a)) := ⟨fun P m L ρ x d ty pos aft g h => rd_nil h⟩
instance nilv_func {k : FuncId} {a b : Array Value} : NilV (.func (.func k) a b) := ⟨fun P m L ρ x d ty pos aft g h => rd_nilFunc h⟩
instance rd1_nil {x : Operand} {v : Value} [h : Ev n f x v] [k : NilV v] : Rd P L n f ⟨d, .nilCheck x, ty, pos, aft, g⟩ v True := ⟨fun _ m ds => k.nil P m L _ x d ty pos aft g (h.ev ds)⟩
instance rd1_field {s i off : Nat} {x : Operand} {a r : Addr} [hf : TFld P s i off] [h : Ev n f x (.pointer (some a))] [k : AddA a off r] : Rd P L n f ⟨d, .fieldAddr s x i, ty, pos, aft, g⟩ (.pointer (some r)) True := ⟨fun _ m ds w _ => by
  simp [execOp, h.ev ds, hf.at_, k.add]⟩
instance rd1_load {t : TypeId} {x : Operand} {a : Addr} {v : Value} {s : Prop} [ht : TPlain P t] [h : Ev n f x (.pointer (some a))] [k : CellE L a v s] : Rd P L n f ⟨d, .load t x, ty, pos, aft, g⟩ v s := ⟨fun hs m ds => rd_load (h.ev ds) fun w hw => k.cell hs m w hw⟩
/-- so many cells from an address on -/
class CellsE (L : List HP) (a : Addr) (k : Nat) (cs : outParam (List Value)) (side : outParam Prop) : Prop where cells : side → cs.length = k ∧ ∀ m w, Sat m L w → ∀ j v, cs[j]? = some v → w.cell? (a.add j) = some v
instance cells_hd {b t : Nat} {cs : List Value} {L : List HP} : CellsE (HP.cells b t cs :: L) ⟨b, 0, none⟩ cs.length cs True := ⟨fun _ => ⟨rfl, fun m w hw j v hv => by
  have := hw.blk (List.mem_cons_self ..)
  rw [addr_add, Nat.zero_add]
  simp [World.cell?, this, hv]⟩⟩
instance (priority := low) cells_skip {P : HP} {L : List HP} {a : Addr} {k : Nat} {cs : List Value} {s : Prop} [h : CellsE L a k cs s] : CellsE (P :: L) a k cs s := ⟨fun hs => ⟨(h.cells hs).1, fun m w hw => (h.cells hs).2 m w hw.drop⟩⟩
instance rd1_loadAgg {t k : Nat} {x : Operand} {a : Addr} {cs : List Value} {s : Prop} [ht : TAgg P t] [hk : TSize P t k] [h : Ev n f x (.pointer (some a))] [c : CellsE L a k cs s] : Rd P L n f ⟨d, .load t x, ty, pos, aft, g⟩ (.agg cs.toArray) s :=
  ⟨fun hs m ds => rd_loadAgg (k := k) (h.ev ds) (c.cells hs).1 fun w hw j v hv => (c.cells hs).2 m w hw j v hv⟩
class BinV (P : Program) (op : BinOp) (t : TypeId) (a b : Value) (v : outParam Value) (side : outParam Prop) : Prop where
  bin : side → ∀ (m : Meta) (L : List HP) (ρ : Operand → Value) (x y : Operand) (t' : TypeId) (d : Option Tmp) (ty : TypeId) (pos : String) (aft : Array Edge) (g : Option (Nat × Bool)), ρ x = a → ρ y = b → Reads P m L (execOp ρ ⟨d, .binOp op t x y t', ty, pos, aft, g⟩) v
instance rd1_bin {op : BinOp} {x y : Operand} {t t' : TypeId} {a b v : Value} {s : Prop} [hx : Ev n f x a] [hy : Ev n f y b] [h : BinV P op t a b v s] : Rd P L n f ⟨d, .binOp op t x y t', ty, pos, aft, g⟩ v s := ⟨fun hs m ds => h.bin hs m L _ x y t' d ty pos aft g (hx.ev ds) (hy.ev ds)⟩
section
variable {t : TypeId} {k : IntKind} {a b : Int}
theorem rd_mul' {ρ : Operand → Value} {x y : Operand} {t' : TypeId} (hx : ρ x = .int .i64 a) (hy : ρ y = .int .i64 b) (h : -9223372036854775808 ≤ a * b ∧ a * b ≤ 9223372036854775807) : Reads P m L (execOp ρ ⟨d, .binOp .mul t x y t', ty, pos, aft, g⟩) (.int .i64 (a * b)) := by
  have := rd_mul (P := P) (m := m) (L := L) (d := d) (ty := ty) (pos := pos) (aft := aft) (g := g) (t := t) (t' := t') hx hy
  rwa [wrap64_small h] at this
instance bin_add : BinV P .add t (.int .i64 a) (.int .i64 b) (.int .i64 (a + b)) (-9223372036854775808 ≤ a + b ∧ a + b ≤ 9223372036854775807) := ⟨fun hs m L ρ x y t' d ty pos aft g hx hy => rd_add' hx hy hs⟩
instance bin_sub : BinV P .sub t (.int .i64 a) (.int .i64 b) (.int .i64 (a - b)) (-9223372036854775808 ≤ a - b ∧ a - b ≤ 9223372036854775807) := ⟨fun hs m L ρ x y t' d ty pos aft g hx hy => rd_sub' hx hy hs⟩
instance bin_mul : BinV P .mul t (.int .i64 a) (.int .i64 b) (.int .i64 (a * b)) (-9223372036854775808 ≤ a * b ∧ a * b ≤ 9223372036854775807) := ⟨fun hs m L ρ x y t' d ty pos aft g hx hy => rd_mul' hx hy hs⟩
instance (priority := low) bin_addW : BinV P .add t (.int k a) (.int k b) (.int k (k.wrap (a + b))) True := ⟨fun _ m L ρ x y t' d ty pos aft g hx hy => rd_add hx hy⟩
instance (priority := low) bin_subW : BinV P .sub t (.int k a) (.int k b) (.int k (k.wrap (a - b))) True := ⟨fun _ m L ρ x y t' d ty pos aft g hx hy => rd_sub hx hy⟩
instance bin_lss : BinV P .lss t (.int k a) (.int k b) (.bool (decide (a < b))) True := ⟨fun _ m L ρ x y t' d ty pos aft g hx hy => rd_lss hx hy⟩
instance bin_leq : BinV P .leq t (.int k a) (.int k b) (.bool (decide (a ≤ b))) True := ⟨fun _ m L ρ x y t' d ty pos aft g hx hy => rd_leq hx hy⟩
instance bin_gtr : BinV P .gtr t (.int k a) (.int k b) (.bool (decide (b < a))) True := ⟨fun _ m L ρ x y t' d ty pos aft g hx hy => rd_gtr hx hy⟩
instance bin_geq : BinV P .geq t (.int k a) (.int k b) (.bool (decide (b ≤ a))) True := ⟨fun _ m L ρ x y t' d ty pos aft g hx hy => rd_geq hx hy⟩
instance bin_eql : BinV P .eql t (.int k a) (.int k b) (.bool (decide (a = b))) True := ⟨fun _ m L ρ x y t' d ty pos aft g hx hy => rd_eql hx hy⟩
instance bin_neq : BinV P .neq t (.int k a) (.int k b) (.bool (!decide (a = b))) True := ⟨fun _ m L ρ x y t' d ty pos aft g hx hy => rd_neq hx hy⟩
instance bin_eqlB {p q : Bool} [ht : TBool P t] : BinV P .eql t (.bool p) (.bool q) (.bool (p == q)) True := ⟨fun _ m L ρ x y t' d ty pos aft g hx hy => rd_eqlB hx hy⟩
instance bin_neqB {p q : Bool} [ht : TBool P t] : BinV P .neq t (.bool p) (.bool q) (.bool (p != q)) True := ⟨fun _ m L ρ x y t' d ty pos aft g hx hy => rd_neqB hx hy⟩
instance bin_eqlP {e : TypeId} {p : Option Addr} [ht : TPtr P t e] : BinV P .eql t (.pointer p) (.pointer none) (.bool p.isNone) True := ⟨fun _ m L ρ x y t' d ty pos aft g hx hy => rd_eqlP hx hy⟩
instance bin_neqP {e : TypeId} {p : Option Addr} [ht : TPtr P t e] : BinV P .neq t (.pointer p) (.pointer none) (.bool p.isSome) True := ⟨fun _ m L ρ x y t' d ty pos aft g hx hy => rd_neqP hx hy⟩
instance bin_eqlP0 {e : TypeId} [ht : TPtr P t e] : BinV P .eql t (.pointer none) (.pointer none) (.bool true) True := ⟨fun _ m L ρ x y t' d ty pos aft g hx hy => rd_eqlP hx hy⟩
instance bin_eqlP1 {e : TypeId} {a : Addr} [ht : TPtr P t e] : BinV P .eql t (.pointer (some a)) (.pointer none) (.bool false) True := ⟨fun _ m L ρ x y t' d ty pos aft g hx hy => rd_eqlP hx hy⟩
instance bin_neqP0 {e : TypeId} [ht : TPtr P t e] : BinV P .neq t (.pointer none) (.pointer none) (.bool false) True := ⟨fun _ m L ρ x y t' d ty pos aft g hx hy => rd_neqP hx hy⟩
instance bin_neqP1 {e : TypeId} {a : Addr} [ht : TPtr P t e] : BinV P .neq t (.pointer (some a)) (.pointer none) (.bool true) True := ⟨fun _ m L ρ x y t' d ty pos aft g hx hy => rd_neqP hx hy⟩
instance bin_eqlS {e : TypeId} [ht : TSlice P t e] {p : Option Addr} {k c : Nat} : BinV P .eql t (.slice p k c) (.slice none 0 0) (.bool p.isNone) True := ⟨fun _ m L ρ x y t' d ty pos aft g hx hy => rd_eqlS hx hy⟩
end
class UnV (P : Program) (op : UnOp) (a : Value) (v : outParam Value) (side : outParam Prop) : Prop where
  un : side → ∀ (m : Meta) (L : List HP) (ρ : Operand → Value) (x : Operand) (t : TypeId) (d : Option Tmp) (ty : TypeId) (pos : String) (aft : Array Edge) (g : Option (Nat × Bool)), ρ x = a → Reads P m L (execOp ρ ⟨d, .unOp op t x, ty, pos, aft, g⟩) v
instance rd1_un {op : UnOp} {x : Operand} {t : TypeId} {a v : Value} {s : Prop} [hx : Ev n f x a] [h : UnV P op a v s] : Rd P L n f ⟨d, .unOp op t x, ty, pos, aft, g⟩ v s := ⟨fun hs m ds => h.un hs m L _ x t d ty pos aft g (hx.ev ds)⟩
instance un_not {p : Bool} : UnV P .not (.bool p) (.bool (!p)) True := ⟨fun _ m L ρ x t d ty pos aft g hx => rd_not hx⟩
instance un_neg32 {a : Int} : UnV P .neg (.int .i32 a) (.int .i32 (-a)) (-2147483647 ≤ a ∧ a ≤ 2147483647) := ⟨fun h m L ρ x t d ty pos aft g hx => rd_neg32 hx h.1 h.2⟩
instance un_neg64 {a : Int} : UnV P .neg (.int .i64 a) (.int .i64 (-a)) (-9223372036854775807 ≤ a ∧ a ≤ 9223372036854775807) := ⟨fun h m L ρ x t d ty pos aft g hx => rd_neg64 hx h.1 h.2⟩
instance (priority := low) un_negW {k : IntKind} {a : Int} : UnV P .neg (.int k a) (.int k (k.wrap (-a))) True := ⟨fun _ m L ρ x t d ty pos aft g hx => rd_neg hx⟩
/-- a whole number in another kind -/
class ConvI (k k' : IntKind) (a : Int) (r : outParam Int) (side : outParam Prop) : Prop where conv : side → k'.wrap a = r
instance conv_to64 {k : IntKind} {a : Int} : ConvI k .i64 a a (-9223372036854775808 ≤ a ∧ a ≤ 9223372036854775807) := ⟨fun h => wrap64_small h⟩
theorem wrap32_small {x : Int} (h : -2147483648 ≤ x ∧ x ≤ 2147483647) : IntKind.i32.wrap x = x := by
  simp [IntKind.wrap, IntKind.bits, IntKind.signed]; omega
instance conv_to32 {k : IntKind} {a : Int} : ConvI k .i32 a a (-2147483648 ≤ a ∧ a ≤ 2147483647) := ⟨fun h => wrap32_small h⟩
theorem wrapu64_small {x : Int} (h : 0 ≤ x ∧ x ≤ 18446744073709551615) : IntKind.u64.wrap x = x := by
  simp [IntKind.wrap, IntKind.bits, IntKind.signed]; omega
instance conv_tou64 {k : IntKind} {a : Int} : ConvI k .u64 a a (0 ≤ a ∧ a ≤ 18446744073709551615) := ⟨fun h => wrapu64_small h⟩
instance (priority := low) conv_any {k k' : IntKind} {a : Int} : ConvI k k' a (k'.wrap a) True := ⟨fun _ => rfl⟩
instance rd1_conv {k k' : IntKind} {t0 t : TypeId} {x : Operand} {a r : Int} {s : Prop} [hx : Ev n f x (.int k a)] [h1 : TInt P t k'] [h0 : TInt P t0 k] [h : ConvI k k' a r s] : Rd P L n f ⟨d, .convert t0 t x, ty, pos, aft, g⟩ (.int k' r) s := ⟨fun hs m ds => by
  have := rd_conv (P := P) (m := m) (L := L) (d := d) (ty := ty) (pos := pos) (aft := aft) (g := g) (t := t) (t0 := t0) (k := k) (k' := k') (hx.ev ds)
  rwa [h.conv hs] at this⟩
instance rd1_len {t e : TypeId} {x : Operand} {A : Option Addr} {len cap : Nat} [ht : TSlice P t e] [hx : Ev n f x (.slice A len cap)] : Rd P L n f ⟨d, .call { callee := .builtin .len, args := #[x], argTypes := #[t] }, ty, pos, aft, g⟩ (.int .i64 len) True := ⟨fun _ m ds => rd_len (hx.ev ds)⟩
instance rd1_extract {x : Operand} {vs : List Value} {v : Value} {i : Nat} [hx : Ev n f x (.tuple vs.toArray)] [h : NthV vs i v] : Rd P L n f ⟨d, .extract x i, ty, pos, aft, g⟩ v True := ⟨fun _ m ds => rd_extract (hx.ev ds) (by simpa using h.nth)⟩
instance rd1_makeFunc {fn : Fn} {first cap : List Operand} {a b : List Value} [h1 : EvL n f first a] [h2 : EvL n f cap b] : Rd P L n f ⟨d, .makeFunc fn first.toArray cap.toArray, ty, pos, aft, g⟩ (.func fn a.toArray b.toArray) True := ⟨fun _ m ds => rd_makeFunc (by simp [h1.ev]) (by simp [h2.ev])⟩
instance rd1_ix {t e len c len' c' : Nat} {x ix : Operand} {A : Option Addr} {k : IntKind} {i : Int} {j : Nat} {xs : List Value} [ht : TSlice P t e] [hs : TSize P e 1] [hx : Ev n f x (.slice A len c)] [hi : Ev n f ix (.int k i)] [hr : RowA L A len' c' xs] [hn : ToN i j] :
    Rd P L n f ⟨d, .indexAddr t x ix, ty, pos, aft, g⟩ (.pointer (some (adr A j))) (0 ≤ i ∧ i < (len : Int) ∧ j < len') := ⟨fun h m ds w hw => by
  obtain ⟨A', n', c'', e, hl, _, _, h4⟩ := hr.row m w hw
  cases e
  obtain ⟨a, rfl, _⟩ := h4 j _ (List.getElem?_eq_getElem (by omega))
  have := rd_indexAddr (P := P) (m := m) (L := L) (d := d) (ty := ty) (pos := pos) (aft := aft) (g := g) (t := t) (sz := 1) (hx.ev ds) (hi.ev ds) h.1 h.2.1 w hw
  rw [hn.to] at this
  simpa [adr] using this⟩

/-! ### maps -/
class AL (D : List (Int × Value)) (k : Int) (r : outParam (Option Value)) : Prop where al : alook D k = r
instance (priority := low) al_any {D : List (Int × Value)} {k : Int} : AL D k (alook D k) := ⟨rfl⟩
class OptV (r : Option Value) (z : Value) (v : outParam Value) (b : outParam Bool) : Prop where opt : r.getD z = v ∧ r.isSome = b
instance opt_some {v z : Value} : OptV (some v) z v true := ⟨rfl, rfl⟩
instance opt_none {z : Value} : OptV none z z false := ⟨rfl, rfl⟩
instance (priority := low) opt_any {r : Option Value} {z : Value} : OptV r z (r.getD z) r.isSome := ⟨rfl, rfl⟩
instance rd1_lookup {t kt et : TypeId} {kk : IntKind} {z v : Value} {x y : Operand} {b : Nat} {k : Int} {D : List (Int × Value)} {r : Option Value} {p : Bool} [hx : Ev n f x (.map (some b))] [hy : Ev n f y (.int kk k)] [hm : MapE L b kk D] [ht : TMap P t kt et] [hk : TInt P kt kk] [hz : TZero P et z] [ha : AL D k r] [ho : OptV r z v p] :
    Rd P L n f ⟨d, .lookup t x y false, ty, pos, aft, g⟩ v True := ⟨fun _ m ds => by
  obtain ⟨k0, h0⟩ := hm.mp
  have := rd_lookup (P := P) (m := m) (d := d) (ty := ty) (pos := pos) (aft := aft) (g := g) (t := t) (kt := kt) (et := et) k0 h0 (hx.ev ds) (hy.ev ds)
  rwa [ha.al, ho.opt.1] at this⟩
instance rd1_lookupOk {t kt et : TypeId} {kk : IntKind} {z v : Value} {x y : Operand} {b : Nat} {k : Int} {D : List (Int × Value)} {r : Option Value} {p : Bool} [hx : Ev n f x (.map (some b))] [hy : Ev n f y (.int kk k)] [hm : MapE L b kk D] [ht : TMap P t kt et] [hk : TInt P kt kk] [hz : TZero P et z] [ha : AL D k r] [ho : OptV r z v p] :
    Rd P L n f ⟨d, .lookup t x y true, ty, pos, aft, g⟩ (.tuple #[v, .bool p]) True := ⟨fun _ m ds => by
  obtain ⟨k0, h0⟩ := hm.mp
  have := rd_lookupOk (P := P) (m := m) (d := d) (ty := ty) (pos := pos) (aft := aft) (g := g) (t := t) (kt := kt) (et := et) k0 h0 (hx.ev ds) (hy.ev ds)
  rwa [ha.al, ho.opt.1, ho.opt.2] at this⟩

class One1 (v : Value) : Prop where one : v.oneCell' = true
instance one_int {k : IntKind} {a : Int} : One1 (.int k a) := ⟨rfl⟩
instance one_bool {b : Bool} : One1 (.bool b) := ⟨rfl⟩
instance one_ptr {p : Option Addr} : One1 (.pointer p) := ⟨rfl⟩
instance one_slice {A : Option Addr} {k c : Nat} : One1 (.slice A k c) := ⟨rfl⟩
instance one_map {b : Option Nat} : One1 (.map b) := ⟨rfl⟩
instance one_func {k : Fn} {a b : Array Value} : One1 (.func k a b) := ⟨rfl⟩
/-! ### struct literals -/
class TStr (P : Program) (t : TypeId) (zs : outParam (List Value)) (pl : outParam (List (Nat × Nat))) : Prop where
  zero : ∀ w, (zeroValue t).run P w = .ok (.agg zs.toArray) w
  places : ∀ w, (match P.underlying t with | some (.struct fields) => (fields.mapM fun f : Field => Prod.mk f.offset <$> sizeOf f.type : Sem (Array (Nat × Nat))) | _ => stuck "").run P w = .ok pl.toArray w
class NthP (pl : List (Nat × Nat)) (i : Nat) (x : outParam (Nat × Nat)) : Prop where nth : pl[i]? = some x
instance nthp_zero {v : Nat × Nat} {cs : List (Nat × Nat)} : NthP (v :: cs) 0 v := ⟨rfl⟩
instance nthp_succ {c v : Nat × Nat} {cs : List (Nat × Nat)} {i : Nat} [h : NthP cs i v] : NthP (c :: cs) (i + 1) v := ⟨by simpa using h.nth⟩
class LenE (cs : List Value) (k : Nat) : Prop where len : cs.length = k
instance len_nil : LenE [] 0 := ⟨rfl⟩
instance len_cons {c : Value} {cs : List Value} {k : Nat} [h : LenE cs k] : LenE (c :: cs) (k + 1) := ⟨by simp [h.len]⟩
class SplE (cs : List Value) (off : Nat) (news : List Value) (cs' : outParam (List Value)) : Prop where
  spl : off + news.length ≤ cs.length ∧ cs'.length = cs.length ∧ ∀ j, (news.toArray.toList.zipIdx j).foldl (fun (a : Array Value) (x : Value × Nat) => a.setIfInBounds (off - j + x.2) x.1) cs.toArray = cs'.toArray
class FillV (pl : List (Nat × Nat)) (cells : List Value) (vs : List (Nat × Value)) (cs : outParam (List Value)) : Prop where fill : Instr.fill (fun x => pl[x]?) cells.toArray vs = some cs.toArray
instance fill_nil {pl : List (Nat × Nat)} {cells : List Value} : FillV pl cells [] cells := ⟨rfl⟩
/-- a part of one cell -/
instance fill_one {pl : List (Nat × Nat)} {cells cells' cs : List Value} {i off : Nat} {v : Value} {vs : List (Nat × Value)} [h1 : NthP pl i (off, 1)] [ho : One1 v] [hs : SetV cells off v cells'] [h : FillV pl cells' vs cs] : FillV pl cells ((i, v) :: vs) cs := ⟨by
  have hv : v.cells = #[v] := by have := ho.one; cases v <;> simp_all [Value.oneCell', Value.cells]
  have hlt := hs.st.2
  have hp : pl[i]? = some (off, 1) := h1.nth
  unfold Instr.fill
  simp only [hp, hv]
  have : ¬ (off + 1 > cells.length) := by omega
  have h2 := h.fill
  rw [← hs.st.1] at h2
  simpa [this] using h2⟩
instance rd1_build {t : TypeId} {parts : List (Nat × Operand)} {vs : List (Nat × Value)} {zs cs : List Value} {pl : List (Nat × Nat)} [ht : TStr P t zs pl] [hp : EvP n f parts vs] [hf : FillV pl zs vs cs] : Rd P L n f ⟨d, .build t parts.toArray, ty, pos, aft, g⟩ (.agg cs.toArray) True := ⟨fun _ m ds w _ => by
  have hpl := ht.places w
  have hev : List.map (fun x => (x.fst, (acts n f ds).eval x.snd)) parts = vs := hp.ev ds
  cases hu : P.underlying t with
  | none => rw [hu] at hpl; simp [stuck, Sem.run] at hpl
  | some u =>
    cases u with
    | struct fields =>
      rw [hu] at hpl
      simp only at hpl
      have hz : (Value.agg zs.toArray).cells = zs.toArray := rfl
      simp [execOp, Instr.build, ht.zero, underlying, hu, hpl, hev, hz, hf.fill]
    | _ => rw [hu] at hpl; simp [stuck, Sem.run] at hpl⟩
/-! ### slicing -/
class RdS (P : Program) (L : List HP) (n : Nat) (f : Env) (o : Oper) (v : outParam Value) (side : outParam Prop) : Prop where rd : side → ∀ m ds, Reads P m L (execOp (acts n f ds).eval o) v
/-- where a slice's tail lies -/
def subA (A : Option Addr) (c j : Nat) : Option Addr := if c = j then A else A.map (·.add (j * 1))
class LeN (a b : Nat) : Prop where le : a ≤ b
instance row_tail {L : List HP} {A : Option Addr} {len c j : Nat} {xs : List Value} [h : RowA L A len c xs] [k : LeN j len] : RowA L (subA A c j) (len - j) (c - j) (xs.drop j) := ⟨fun m w hw => by
  obtain ⟨A', n', c', e, hl, h1, h2, h4⟩ := h.row m w hw
  cases e
  have hj := k.le
  refine ⟨_, _, _, rfl, by simp [hl], by omega, by omega, ?_⟩
  intro i x hx
  rw [List.getElem?_drop] at hx
  obtain ⟨a, ha, hc⟩ := h4 _ _ hx
  have : j + i < xs.length := (List.getElem?_eq_some_iff.1 hx).1
  simp only [subA]
  rw [if_neg (by omega), ha]
  exact ⟨_, rfl, by simpa [wcell_add] using hc⟩⟩
instance rd1_sliceLo {t e len cap j : Nat} {x lo : Operand} {A : Option Addr} {i : Int} {k : IntKind} [ht : TSlice P t e] [hs : TSize P e 1] [hx : Ev n f x (.slice A len cap)] [hi : Ev n f lo (.int k i)] [hn : ToN i j] :
    RdS P L n f ⟨d, .slice t x (some lo) none none, ty, pos, aft, g⟩ (.slice (subA A cap j) (len - j) (cap - j)) (0 ≤ i ∧ i ≤ (len : Int)) := ⟨fun h m ds => by
  have := rd_sliceLo (P := P) (m := m) (L := L) (d := d) (ty := ty) (pos := pos) (aft := aft) (g := g) (t := t) (hx.ev ds) (hi.ev ds) h.1 h.2
  rwa [hn.to] at this⟩
instance rd1_sliceHi {t e sz len cap j : Nat} {x hi : Operand} {A : Option Addr} {i : Int} {k : IntKind} [ht : TSlice P t e] [hs : TSize P e sz] [hx : Ev n f x (.slice A len cap)] [hi' : Ev n f hi (.int k i)] [hn : ToN i j] :
    RdS P L n f ⟨d, .slice t x none (some hi) none, ty, pos, aft, g⟩ (.slice A j cap) (0 ≤ i ∧ i ≤ (cap : Int)) := ⟨fun h m ds => by
  have := rd_sliceHi (P := P) (m := m) (L := L) (d := d) (ty := ty) (pos := pos) (aft := aft) (g := g) (t := t) (hx.ev ds) (hi'.ev ds) h.1 h.2
  rwa [hn.to] at this⟩

/-! ### steps -/
theorem wl_rd {d : Nat} {op : Op} {v : Value} {s : Prop} [h : Rd P L n f ⟨some d, op, ty, pos, aft, none⟩ v s] (hs : s) (k : WL P ops m L Q rest n (upd f d v) ds) : WL P ops m L Q (⟨some d, op, ty, pos, aft, none⟩ :: rest) n f ds :=
  wl_read (h.rd hs m ds) k
theorem wl_rdS {d : Nat} {op : Op} {v : Value} {s : Prop} [h : RdS P L n f ⟨some d, op, ty, pos, aft, none⟩ v s] (hs : s) (k : WL P ops m L Q rest n (upd f d v) ds) : WL P ops m L Q (⟨some d, op, ty, pos, aft, none⟩ :: rest) n f ds :=
  wl_read (h.rd hs m ds) k
theorem ar_rdS {d i : Nat} {op : Op} {v : Value} {s : Prop} (hq : qsOf qs i = none) [h : RdS P L n f ⟨some d, op, ty, pos, aft, none⟩ v s] (hs : s) (k : AR P ops m L (qsOf qs) K resta n (upd f d v) ds R) : AR P ops m L (qsOf qs) K ((i, ⟨some d, op, ty, pos, aft, none⟩) :: resta) n f ds R :=
  ar_read hq (h.rd hs m ds) k
theorem wl_rdN {op : Op} {v : Value} {s : Prop} [h : Rd P L n f ⟨none, op, ty, pos, aft, none⟩ v s] (hs : s) (k : WL P ops m L Q rest n f ds) : WL P ops m L Q (⟨none, op, ty, pos, aft, none⟩ :: rest) n f ds :=
  wl_read (h.rd hs m ds) k
theorem ar_rd {d i : Nat} {op : Op} {v : Value} {s : Prop} (hq : qsOf qs i = none) [h : Rd P L n f ⟨some d, op, ty, pos, aft, none⟩ v s] (hs : s) (k : AR P ops m L (qsOf qs) K resta n (upd f d v) ds R) : AR P ops m L (qsOf qs) K ((i, ⟨some d, op, ty, pos, aft, none⟩) :: resta) n f ds R :=
  ar_read hq (h.rd hs m ds) k
theorem wl_pick {d : Nat} {c x y : Operand} {b : Bool} {u v : Value} [hc : Ev n f c (.bool b)] [hx : Ev n f x u] [hy : Ev n f y v] (k1 : b = true → WL P ops m L Q rest n (upd f d u) ds) (k2 : b = false → WL P ops m L Q rest n (upd f d v) ds) :
    WL P ops m L Q (⟨some d, .pick c x y, ty, pos, aft, none⟩ :: rest) n f ds := by
  cases hb : b with
  | true => exact wl_read (rd_pickT (hc.ev ds) hb (hx.ev ds)) (k1 hb)
  | false => exact wl_read (rd_pickF (hc.ev ds) hb (hy.ev ds)) (k2 hb)
theorem ar_pick {d i : Nat} {c x y : Operand} {b : Bool} {u v : Value} (hq : qsOf qs i = none) [hc : Ev n f c (.bool b)] [hx : Ev n f x u] [hy : Ev n f y v] (k1 : b = true → AR P ops m L (qsOf qs) K resta n (upd f d u) ds R) (k2 : b = false → AR P ops m L (qsOf qs) K resta n (upd f d v) ds R) :
    AR P ops m L (qsOf qs) K ((i, ⟨some d, .pick c x y, ty, pos, aft, none⟩) :: resta) n f ds R := by
  cases hb : b with
  | true => exact ar_read hq (rd_pickT (hc.ev ds) hb (hx.ev ds)) (k1 hb)
  | false => exact ar_read hq (rd_pickF (hc.ev ds) hb (hy.ev ds)) (k2 hb)
theorem cs_if {c : Operand} {x y : Code} {t : Bool} [hc : Ev n f c (.bool t)] (h1 : t = true → CS P m L x Q n f ds) (h2 : t = false → CS P m L y Q n f ds) : CS P m L (.cond c x y) Q n f ds := cs_cond (hc.ev ds) h1 h2
/-- a store of one cell -/
class StE (L : List HP) (a : Addr) (v : Value) (L' : outParam (List HP)) (side : outParam Prop) : Prop where
  st : side → v.oneCell' = true → ∀ (P : Program) (t : TypeId) [TSize P t 1] (m : Meta) (R : List HP) (w : World), Sat m (L ++ R) w → (storeVar t a v).run P w = .ok () (w.setCell a v) ∧ Sat m (L' ++ R) (w.setCell a v)
instance st_hd {b t k : Nat} {cs cs' : List Value} {L : List HP} {v : Value} [h : SetV cs k v cs'] : StE (HP.cells b t cs :: L) ⟨b, k, none⟩ v (HP.cells b t cs' :: L) True := ⟨fun _ h1 P t _ m R w hw => by
  have hb := hw.blk (List.mem_cons_self ..)
  have := hw.setCell (off := k) v
  rw [h.st.1] at this
  exact ⟨run_store_one h1 hb h.st.2, this⟩⟩
instance st_row {e k c i : Nat} {A : Option Addr} {xs : List Value} {L : List HP} {v : Value} : StE (HP.own e 1 (.slice A k c) k xs :: L) (adr A i) v (HP.own e 1 (.slice A k c) k (xs.set i v) :: L) (i < k) := ⟨fun hi h1 P t _ m R w hw => by
  obtain ⟨⟨g', cur, hg', ha, hlt⟩, hs⟩ := hw.rowSet v hi
  have hcur : (Obj.cells cur e (0, 0)) = .cells cur.toList.toArray e (0, 0) := by simp
  rw [hcur] at hg'
  refine ⟨?_, hs⟩
  rw [ha]
  exact run_store_one h1 hg' (by simpa using hlt)⟩
instance (priority := low) st_skip {p : HP} {L L' : List HP} {a : Addr} {v : Value} {s : Prop} [h : StE L a v L' s] : StE (p :: L) a v (p :: L') s := ⟨fun hs h1 P t _ m R w hw => by
  have h0 : Sat m (L ++ (p :: R)) w := hw.perm (by rw [List.cons_append]; exact (List.perm_middle).symm)
  have := h.st hs h1 P t m (p :: R) w h0
  exact ⟨this.1, this.2.perm (by rw [List.cons_append]; exact List.perm_middle)⟩⟩
theorem wl_st {t : TypeId} {x y : Operand} {a : Addr} {v : Value} {s : Prop} [ht : TSize P t 1] [hx : Ev n f x (.pointer (some a))] [hy : Ev n f y v] [h1 : One1 v] [h : StE L a v L' s] (hs : s) (k : WL P ops m L' Q rest n f ds) : WL P ops m L Q (⟨none, .store t x y, ty, pos, aft, none⟩ :: rest) n f ds :=
  wl_upon (Kv := fun _ w => Sat m L' w) (fun w hw => by
    have := h.st hs h1.one P t m [] w (by simpa using hw)
    simp only [execOp, hx.ev, hy.ev, Instr.storeAt, Instr.sureAddr]
    simp only [Sem.run_bind, Sem.run_pure, Result.andThen_ok, this.1, uponV]
    simpa using this.2) fun v w h => k w h
theorem wl_mapSet {t kt et : TypeId} {kk : IntKind} {x y z : Operand} {b : Nat} {k : Int} {v : Value} {D : List (Int × Value)} [ht : TMap P t kt et] [hk : TInt P kt kk] [hx : Ev n f x (.map (some b))] [hy : Ev n f y (.int kk k)] [hz : Ev n f z v] [hm : MapE L b kk D] [hp : PutE L (HP.imap b kk D) (HP.imap b kk (aset D k v)) L']
    (c : WL P ops m L' Q rest n f ds) : WL P ops m L Q (⟨none, .mapUpdate t x y z, ty, pos, aft, none⟩ :: rest) n f ds := by
  obtain ⟨k0, h0, rfl⟩ := hp.put
  exact wl_mapUpdate k0 h0 (hx.ev ds) (hy.ev ds) (hz.ev ds) c
theorem wl_mkMap {t kt et : TypeId} {kk : IntKind} {d : Nat} [ht : TMap P t kt et] [hk : TInt P kt kk] (c : ∀ b, WL P ops m (HP.imap b kk [] :: L) Q rest n (upd f d (.map (some b))) ds) : WL P ops m L Q (⟨some d, .makeMap t none, ty, pos, aft, none⟩ :: rest) n f ds :=
  wl_makeMap kk c
class CellsV (v : Value) (cs : outParam (List Value)) : Prop where cells : v.cells = cs.toArray
instance cellsv_agg {cs : List Value} : CellsV (.agg cs.toArray) cs := ⟨rfl⟩
instance (priority := low) cellsv_one {v : Value} [h : One1 v] : CellsV v [v] := ⟨by have := h.one; cases v <;> simp_all [Value.oneCell', Value.cells]⟩
theorem wl_boxC {t : TypeId} {x : Operand} {v : Value} {cs : List Value} {d : Nat} [hx : Ev n f x v] [hc : CellsV v cs] (c : ∀ b, WL P ops m (HP.cells b t cs :: L) Q rest n (upd f d (.pointer (some ⟨b, 0, none⟩))) ds) : WL P ops m L Q (⟨some d, .box t x, ty, pos, aft, none⟩ :: rest) n f ds :=
  wl_box (hx.ev ds) fun b => by rw [hc.cells]; exact c b
theorem wl_allocC {t : TypeId} {z : Value} {cs : List Value} {d : Nat} [hz : TZero P t z] [hc : CellsV z cs] (c : ∀ b, WL P ops m (HP.cells b t cs :: L) Q rest n (upd f d (.pointer (some ⟨b, 0, none⟩))) ds) : WL P ops m L Q (⟨some d, .alloc t, ty, pos, aft, none⟩ :: rest) n f ds :=
  wl_alloc fun b => by rw [hc.cells]; exact c b
/-- the parts that a contract names, out of the list -/
class SubF (F : List HP → List HP) (L : List HP) (R : outParam (List HP)) : Prop where sub : L.Perm (F R)
instance subf_nil {L : List HP} : SubF (fun R => R) L L := ⟨List.Perm.refl _⟩
instance subf_cons {F : List HP → List HP} {p : HP} {L L1 R : List HP} [h : Find L p L1] [k : SubF F L1 R] : SubF (fun R => p :: F R) L R := ⟨h.find.trans (List.Perm.cons p k.sub)⟩
/-- a call: what its contract says of the parts that it names; the others stay -/
theorem wl_callX {α : Sort _} {x : Operand} {args : List Operand} {ts : Array TypeId} {h : FuncId} {first cap : Array Value} {as vs : List Value} {R : List HP} {PRE : List HP → List HP} {POST : α → List HP → List HP} {u : α → Value} {φ : α → Prop} [hf : TFunc P h] [hx : Ev n f x (.func (.func h) first cap)] [ha : EvL n f args as]
    (T : ∀ R, Tri P m h vs.toArray (PRE R) fun v w => ∃ x, v = u x ∧ φ x ∧ Sat m (POST x R) w) (he : first ++ as.toArray ++ cap = vs.toArray) [hs : SubF PRE L R]
    (k : ∀ x, φ x → WL P ops m (POST x R) Q rest n (updO f d (u x)) ds) : WL P ops m L Q (⟨d, .call { callee := .value x, args := args.toArray, argTypes := ts }, ty, pos, aft, none⟩ :: rest) n f ds :=
  wl_call ((T R).pre fun w hw => hw.perm hs.sub) (hx.ev ds) evl_ he fun v w ⟨y, e, h1, h2⟩ => by subst e; exact k y h1 w h2
theorem wl_callE {x : Operand} {args : List Operand} {ts : Array TypeId} {h : FuncId} {first cap : Array Value} {as vs : List Value} {R : List HP} {PRE POST : List HP → List HP} {u : Value} [hf : TFunc P h] [hx : Ev n f x (.func (.func h) first cap)] [ha : EvL n f args as]
    (T : ∀ R, Tri P m h vs.toArray (PRE R) fun v w => v = u ∧ Sat m (POST R) w) (he : first ++ as.toArray ++ cap = vs.toArray) [hs : SubF PRE L R]
    (k : WL P ops m (POST R) Q rest n (updO f d u) ds) : WL P ops m L Q (⟨d, .call { callee := .value x, args := args.toArray, argTypes := ts }, ty, pos, aft, none⟩ :: rest) n f ds :=
  wl_call ((T R).pre fun w hw => hw.perm hs.sub) (hx.ev ds) evl_ he fun v w ⟨e, h2⟩ => by subst e; exact k w h2
/-- calls whose contract speaks of the whole list -/
theorem wl_callL {α : Sort _} {x : Operand} {args : List Operand} {ts : Array TypeId} {h : FuncId} {first cap : Array Value} {as vs : List Value} {L' : α → List HP} {u : α → Value} {φ : α → Prop} [hf : TFunc P h] [hx : Ev n f x (.func (.func h) first cap)] [ha : EvL n f args as]
    (T : Tri P m h vs.toArray L fun v w => ∃ x, v = u x ∧ φ x ∧ Sat m (L' x) w) (he : first ++ as.toArray ++ cap = vs.toArray)
    (k : ∀ x, φ x → WL P ops m (L' x) Q rest n (updO f d (u x)) ds) : WL P ops m L Q (⟨d, .call { callee := .value x, args := args.toArray, argTypes := ts }, ty, pos, aft, none⟩ :: rest) n f ds :=
  wl_call T (hx.ev ds) evl_ he fun v w ⟨y, e, h1, h2⟩ => by subst e; exact k y h1 w h2
theorem wl_callM {x : Operand} {args : List Operand} {ts : Array TypeId} {h : FuncId} {first cap : Array Value} {as vs : List Value} {L' : List HP} {u : Value} [hf : TFunc P h] [hx : Ev n f x (.func (.func h) first cap)] [ha : EvL n f args as]
    (T : Tri P m h vs.toArray L fun v w => v = u ∧ Sat m L' w) (he : first ++ as.toArray ++ cap = vs.toArray)
    (k : WL P ops m L' Q rest n (updO f d u) ds) : WL P ops m L Q (⟨d, .call { callee := .value x, args := args.toArray, argTypes := ts }, ty, pos, aft, none⟩ :: rest) n f ds :=
  wl_call T (hx.ev ds) evl_ he fun v w ⟨e, h2⟩ => by subst e; exact k w h2
class Pick (L : List HP) (k : Nat) (p : outParam HP) (R : outParam (List HP)) : Prop where pick : L.Perm (p :: R)
instance pick_zero {p : HP} {L : List HP} : Pick (p :: L) 0 p L := ⟨List.Perm.refl _⟩
instance pick_succ {p q : HP} {L R : List HP} {k : Nat} [h : Pick L k p R] : Pick (q :: L) (k + 1) p (q :: R) := ⟨(List.Perm.cons q h.pick).trans (List.Perm.swap p q R)⟩
theorem wl_front {l : List Oper} {p : HP} {R : List HP} (k : Nat) [h : Pick L k p R] (c : WL P ops m (p :: R) Q l n f ds) : WL P ops m L Q l n f ds := fun w hw => c w (hw.perm h.pick)
theorem cs_front {c : Code} {p : HP} {R : List HP} (k : Nat) [h : Pick L k p R] (h' : CS P m (p :: R) c Q n f ds) : CS P m L c Q n f ds := fun w hw => h' w (hw.perm h.pick)
theorem ks_front {e : Exit} {p : HP} {R : List HP} (k : Nat) [h : Pick L k p R] (h' : KS m (p :: R) Q e n f ds) : KS m L Q e n f ds := fun w hw => h' w (hw.perm h.pick)
theorem Sat.pk {w : World} {p : HP} {R : List HP} (hw : Sat m L w) (k : Nat) [h : Pick L k p R] : Sat m (p :: R) w := hw.perm h.pick
/-- parts of another spelling -/
theorem wl_sub {l : List Oper} {L' R : List HP} [h : Sub L L' R] (c : WL P ops m L' Q l n f ds) : WL P ops m L Q l n f ds := fun w hw => c w (sub_ w hw)
/-- a row that can be read, whoever owns it -/
def HP.rd (v : Value) (xs : List Value) : HP := fun h => SlR h v xs
instance row_rd {k c : Nat} {A : Option Addr} {xs : List Value} {L : List HP} : RowA (HP.rd (.slice A k c) xs :: L) A k c xs := ⟨fun m => Ent.at_ 0 rfl (fun h hh => hh) (fun _ _ => SlR.le)⟩
/-- what is known of a heap that stays -/
def HP.ro (h : PH) : HP := fun x => x = h
class SlK (h : PH) (A : Option Addr) (k c : outParam Nat) (xs : outParam (List Value)) : Prop where sl : SlR h (.slice A k c) xs
instance row_ro {h : PH} {k c : Nat} {A : Option Addr} {xs : List Value} {L : List HP} [s : SlK h A k c xs] : RowA (HP.ro h :: L) A k c xs := ⟨fun m => Ent.at_ 0 rfl (fun h' hh => by cases hh; exact s.sl) (fun _ _ => SlR.le)⟩
theorem Sat.toRd {e k : Nat} {v : Value} {xs : List Value} {w : World} (h : Sat m (HP.own e 1 v k xs :: L) w) : Sat m (HP.rd v xs :: L) w := h.mono fun _ => own_reads
theorem rows_ {L : List HP} {A : Option Addr} {len c : Nat} {xs : List Value} [h : RowA L A len c xs] {m : Meta} : Ent m L fun h => SlR h (.slice A len c) xs := h.row m
/-- a call that leaves the list as it is -/
theorem wl_callR {x : Operand} {args : List Operand} {ts : Array TypeId} {h : FuncId} {first cap : Array Value} {as vs : List Value} {u : Value} [hf : TFunc P h] [hx : Ev n f x (.func (.func h) first cap)] [ha : EvL n f args as]
    (T : Tri P m h vs.toArray L fun v w => v = u ∧ Sat m L w) (he : first ++ as.toArray ++ cap = vs.toArray)
    (k : WL P ops m L Q rest n (updO f d u) ds) : WL P ops m L Q (⟨d, .call { callee := .value x, args := args.toArray, argTypes := ts }, ty, pos, aft, none⟩ :: rest) n f ds :=
  wl_call T (hx.ev ds) evl_ he fun v w ⟨e, h2⟩ => by subst e; exact k w h2

/-! ### regions that draw: what is made out of values of other operations -/
class NoKey (R : Made) (j : Nat) : Prop where no : ∀ v h, (j, v, h) ∉ R
instance nokey_nil {j : Nat} : NoKey [] j := ⟨fun _ _ h => by cases h⟩
instance nokey_cons {R : Made} {i j : Nat} {p : Value × HP} [b : BF (Nat.beq j i)] [h : NoKey R j] : NoKey ((i, p) :: R) j := ⟨fun v k hm => by
  rcases List.mem_cons.1 hm with e | e
  · simp only [Prod.mk.injEq] at e; have := b.e; rw [e.1] at this; simp at this
  · exact h.no v k e⟩
class RelV (R : Made) (j : Nat) (v : outParam Value) : Prop where rel : ∀ v', (∃ h, (j, v', h) ∈ R) ↔ v' = v
instance relv_hd {R : Made} {j : Nat} {v : Value} {h : HP} [k : NoKey R j] : RelV ((j, v, h) :: R) j v := ⟨fun v' => by
  constructor
  · rintro ⟨h', hm⟩
    rcases List.mem_cons.1 hm with e | e
    · simp only [Prod.mk.injEq, true_and] at e; exact e.1
    · exact absurd e (k.no _ _)
  · rintro rfl; exact ⟨h, by simp⟩⟩
instance (priority := low) relv_tl {R : Made} {i j : Nat} {v : Value} {p : Value × HP} [b : BF (Nat.beq j i)] [k : RelV R j v] : RelV ((i, p) :: R) j v := ⟨fun v' => by
  rw [← k.rel v']
  have hne : j ≠ i := fun e => by have := b.e; rw [e] at this; simp at this
  constructor
  · rintro ⟨h', hm⟩
    rcases List.mem_cons.1 hm with e | e
    · simp only [Prod.mk.injEq] at e; exact absurd e.1 hne
    · exact ⟨h', e⟩
  · rintro ⟨h', hm⟩; exact ⟨h', by simp [hm]⟩⟩
def Rels (r : Rel) : List Nat → List Value → Prop
  | [], [] => True
  | j :: u, v :: vs => r j v ∧ Rels r u vs
  | _, _ => False
class RelVs (R : Made) (u : List Nat) (vs : outParam (List Value)) : Prop where rels : ∀ (u0 : List Nat), (∀ j ∈ u, j ∈ u0) → ∀ vs', Rels (R.rel u0) u vs' ↔ vs' = vs
instance relvs_nil {R : Made} : RelVs R [] [] := ⟨fun u0 _ vs' => by cases vs' <;> simp [Rels]⟩
instance relvs_cons {R : Made} {j : Nat} {u : List Nat} {v : Value} {vs : List Value} [h : RelV R j v] [k : RelVs R u vs] : RelVs R (j :: u) (v :: vs) := ⟨fun u0 hu vs' => by
  cases vs' with
  | nil => simp [Rels]
  | cons v' vs' =>
    simp only [Rels, List.cons.injEq, k.rels u0 (fun x hx => hu x (by simp [hx])) vs']
    have : (R.rel u0 j v') ↔ v' = v := by
      rw [← h.rel v']; simp only [Made.rel]
      exact ⟨fun x => x.2, fun x => ⟨hu j (by simp), x⟩⟩
    rw [this]⟩
/-- a part that is told by the values of the operations u -/
def HP.wr (r : Rel) (u : List Nat) (F : List Value → HP) : HP := HP.ex fun vs : List Value => HP.star (HP.pure (Rels r u vs)) (F vs)
theorem wr_eq {R : Made} {u : List Nat} {vs : List Value} {F : List Value → HP} [h : RelVs R u vs] : HP.wr (R.rel u) u F = F vs := by
  funext H
  simp only [HP.wr, eq_iff_iff]
  constructor
  · rintro ⟨vs', a, b, dj, rfl, ⟨hr, rfl⟩, hf⟩
    rw [PH.nil_un]
    rwa [(h.rels u (fun _ hj => hj) vs').1 hr] at hf
  · intro hf
    exact ⟨vs, PH.nil, H, fun _ => .inl rfl, (PH.nil_un H).symm, ⟨(h.rels u (fun _ hj => hj) vs).2 rfl, rfl⟩, hf⟩
theorem boxOf_eq {b : Nat} {t : TypeId} {cs : List Value} : HP.boxOf (.pointer (some ⟨b, 0, none⟩)) t cs = HP.cells b t cs := by
  funext H
  simp only [HP.boxOf, eq_iff_iff]
  constructor
  · rintro ⟨b', x, y, dj, rfl, ⟨e, rfl⟩, hf⟩
    cases e; rw [PH.nil_un]; exact hf
  · intro hf; exact ⟨b, PH.nil, H, fun _ => .inl rfl, (PH.nil_un H).symm, ⟨rfl, rfl⟩, hf⟩
theorem tmp_eq {b k e : Nat} {cs : List Value} : HP.tmp (.slice (some ⟨b, 0, none⟩) k k) k e cs = HP.cells b e cs := by
  funext H
  simp only [HP.tmp, eq_iff_iff]
  constructor
  · rintro ⟨b', x, y, dj, rfl, ⟨e, rfl⟩, hf⟩
    cases e; rw [PH.nil_un]; exact hf
  · intro hf; exact ⟨b, PH.nil, H, fun _ => .inl rfl, (PH.nil_un H).symm, ⟨rfl, rfl⟩, hf⟩
/-- a call that makes something new and changes nothing -/
theorem ar_callN {i : Nat} {x : Operand} {args : List Operand} {ts : Array TypeId} {h : FuncId} {first cap : Array Value} {as vs : List Value} {p : Value → Prop} {q : Value → HP} [hf : TFunc P h] [hx : Ev n f x (.func (.func h) first cap)] [ha : EvL n f args as]
    (hq : qsOf qs i = some (QS.new p q)) (T : ∀ S, Tri P m h vs.toArray (S ++ L) fun v w => p v ∧ Sat m (q v :: (S ++ L)) w) (he : first ++ as.toArray ++ cap = vs.toArray) (hex : ∃ v, p v)
    (k : ∀ v, p v → AR P ops m L (qsOf qs) K resta n (updO f d v) ds ((i, v, q v) :: R)) :
    AR P ops m L (qsOf qs) K ((i, ⟨d, .call { callee := .value x, args := args.toArray, argTypes := ts }, ty, pos, aft, none⟩) :: resta) n f ds R :=
  ar_call hq (hx.ev ds) evl_ he (fun S => by
    have e : (QS.new p q).u = [] := rfl
    have hu : Made.used [] R = [] := by simp [Made.used]
    rw [e, hu, List.nil_append]
    exact ((T S).pre fun w hw => hw.drop).mono fun v w hv => hv) hex k
/-- a new block, out of values that other operations have made -/
theorem ar_boxD {i : Nat} {t : TypeId} {x : Operand} {v : Value} {cs vs : List Value} {u : List Nat} {F : List Value → List Value} {d : Nat} [hx : Ev n f x v] [hc : CellsV v cs] [hr : RelVs R u vs]
    (hq : qsOf qs i = some (QS.dep u (fun v => ∃ b, v = .pointer (some ⟨b, 0, none⟩)) (fun r p => HP.wr r u fun vs => HP.boxOf p t (F vs)))) (hF : F vs = cs)
    (c : ∀ b, AR P ops m L (qsOf qs) K resta n (upd f d (.pointer (some ⟨b, 0, none⟩))) ds ((i, .pointer (some ⟨b, 0, none⟩), HP.cells b t cs) :: R)) : AR P ops m L (qsOf qs) K ((i, ⟨some d, .box t x, ty, pos, aft, none⟩) :: resta) n f ds R :=
  ar_make hq (fun S w hw => by
    simp only [execOp, hx.ev ds, Instr.box, Sem.run_bind, Sem.run_pure, Result.andThen_ok, run_newVar, uponV]
    refine ⟨⟨_, rfl⟩, ?_⟩
    show Sat m (HP.wr (R.rel u) u _ :: _) _
    rw [wr_eq, hF]
    rw [hc.cells]
    exact (Sat.mkBox (hw.of_emp.alloc (.cells cs.toArray t (0, 0))))) ⟨_, 0, rfl⟩ fun v ⟨b, e⟩ => by
    subst e
    have := c b
    show AR _ _ _ _ _ _ _ _ _ _ ((i, _, HP.wr (R.rel u) u _) :: R)
    rw [wr_eq, hF, boxOf_eq]
    exact this
theorem fill_whole {z v : Value} {cs : List Value} {sz : Nat} (hz : z.cells.size = sz) (hv : v.cells = cs.toArray) (hl : cs.length = sz) (h0 : 0 < sz) : Instr.fill (fun i => some (i * sz, sz)) ((Array.range (1 * sz)).map fun i => z.cells[i % z.cells.size]!) [(0, v)] = some cs.toArray := by
  unfold Instr.fill
  simp only [hv, Nat.zero_mul, Nat.one_mul, List.size_toArray, hl, Array.size_map, Array.size_range, Nat.zero_add, ne_eq, not_true_eq_false, gt_iff_lt, Nat.lt_irrefl, decide_false, Bool.or_self, Bool.false_eq_true, if_false]
  simp only [Instr.fill, Option.some.injEq]
  have key : ∀ (l : List Value) (j : Nat) (a : Array Value), j + l.length = a.size → ((l.zipIdx j).foldl (fun (b : Array Value) (x : Value × Nat) => b.setIfInBounds x.2 x.1) a).toList = a.toList.take j ++ l := by
    intro l
    induction l with
    | nil => intro j a h; simp at h; subst h; simp [List.take_of_length_le]
    | cons y l ih =>
      intro j a h
      simp only [List.length_cons] at h
      rw [List.zipIdx_cons, List.foldl_cons, ih (j + 1) _ (by simp; omega)]
      simp only [Array.toList_setIfInBounds]
      rw [List.take_succ_eq_append_getElem (by simp; omega), List.take_set_of_le (Nat.le_refl _)]
      simp
  apply Array.ext'
  have := key cs 0 ((Array.range sz).map fun i => z.cells[i % z.cells.size]!) (by simp [hl])
  simpa [Array.zipIdx, Array.foldl_toList, List.mapIdx_eq_zipIdx_map] using this
/-- a slice of one element -/
theorem ar_slice1D {i : Nat} {t e sz : Nat} {z : Value} {x : Operand} {v : Value} {cs vs : List Value} {u : List Nat} {F : List Value → List Value} {d bytes : Nat} [ht : TElem P t e z sz bytes] [hS : TSlice P t e] [hs : TSize P e sz] [hz : TZero P e z] [hx : Ev n f x v] [hc : CellsV v cs] [hr : RelVs R u vs]
    (hq : qsOf qs i = some (QS.dep u (fun v => ∃ b, v = .slice (some ⟨b, 0, none⟩) 1 1) (fun r p => HP.wr r u fun vs => HP.tmp p 1 e (F vs)))) (hF : F vs = cs) (hl : cs.length = sz) (h24 : sz ≤ 16777216)
    (c : ∀ b, AR P ops m L (qsOf qs) K resta n (upd f d (.slice (some ⟨b, 0, none⟩) 1 1)) ds ((i, .slice (some ⟨b, 0, none⟩) 1 1, HP.cells b e cs) :: R)) : AR P ops m L (qsOf qs) K ((i, ⟨some d, .buildSlice t 1 #[(0, x)], ty, pos, aft, none⟩) :: resta) n f ds R :=
  ar_make hq (fun S w hw => by
    rw [run_buildSlice (ps := [(0, v)]) (cs := cs) (sz := sz) (z := z) (by simp [hx.ev ds]) (fill_whole ht.cells hc.cells hl ht.pos) (by have := ht.pos; omega) w]
    refine ⟨⟨_, rfl⟩, ?_⟩
    show Sat m (HP.wr (R.rel u) u _ :: _) _
    rw [wr_eq, hF]
    exact (hw.of_emp.alloc _).mkTmp) ⟨_, 0, rfl⟩ fun v ⟨b, e⟩ => by
    subst e
    have := c b
    show AR _ _ _ _ _ _ _ _ _ _ ((i, _, HP.wr (R.rel u) u _) :: R)
    rw [wr_eq, hF, tmp_eq]
    exact this
def QS.appD (u : List Nat) (e size : Nat) (v : Value) (k : Nat) (xs : List Value) (j : Nat) (F : List Value → List Value) : QS := ⟨u, HP.own e size v k xs, fun _ _ => True, fun r v' => HP.wr r u fun vs => HP.own e size v' (k + j) (xs ++ F vs)⟩
theorem ar_appD {i : Nat} {t e size bytes : Nat} {z : Value} [ht : TElem P t e z size bytes] {x y : Operand} {v : Value} {k : Nat} {xs vs news : List Value} {A : Option Addr} {j c : Nat} {u : List Nat} {F : List Value → List Value} [hx : Ev n f x v] [hy : Ev n f y (.slice A j c)] [hr : RelVs R u vs]
    (hq : qsOf qs i = some (QS.appD u e size v k xs j F)) (hF : F vs = news) (hs : Ent m (R.used u ++ L) fun h => SlN h size A j news) (h1 : ∀ u ∈ news, u.oneCell' = true)
    (hb : (k + j) * bytes ≤ 140737488355328) (cont : ∀ v', AR P ops m L (qsOf qs) K resta n (updO f d v') ds ((i, v', HP.own e size v' (k + j) (xs ++ news)) :: R)) :
    AR P ops m L (qsOf qs) K ((i, ⟨d, .call { callee := .builtin .append, args := #[x, y], argTypes := #[t, t] }, ty, pos, aft, none⟩) :: resta) n f ds R :=
  ar_make hq (fun S w hw => by
    obtain ⟨v', w', hr', h⟩ := run_appendOp (P := P) (d := d) (ty := ty) (pos := pos) (aft := aft) (g := none) (t := t) (hx.ev ds) (hy.ev ds) (fun w' hw' => hs w' hw'.drop.app) h1 hb hw
    rw [hr']
    refine ⟨trivial, ?_⟩
    show Sat m (HP.wr (R.rel u) u _ :: _) _
    rw [wr_eq, hF]
    exact h) ⟨.nilIface, trivial⟩ fun v' _ => by
    have := cont v'
    show AR _ _ _ _ _ _ _ _ _ _ ((i, _, HP.wr (R.rel u) u _) :: R)
    rw [wr_eq, hF]
    exact this
theorem cells_slN {b e j sz : Nat} {cs : List Value} (hl : cs.length = j * sz) (h : PH) (ht : HP.cells b e cs h) : SlN h sz (some ⟨b, 0, none⟩) j cs := by
  cases ht
  exact ⟨hl, fun e => (by cases e), fun i x hx => ⟨_, rfl, by rw [addr_add, PH.one_cell, Nat.zero_add]; simpa using hx⟩⟩

class EqV (u v : Value) : Prop where eq : u = v
instance eqv_rfl {v : Value} : EqV v v := ⟨rfl⟩
/-! ### loops and joins: what a piece writes is forgotten, but for the slots that are told -/
def EndsH {α : Sort _} (m : Meta) (n : Nat) (ds : List Deferred) (W : Nat) (f : Env) (S : α → List (Nat × Value)) (LL : α → List HP) (φ : α → Prop) (a : Act) (w : World) : Prop := ∃ y, φ y ∧ ∃ j, a = acts n (upds (hav W j f) (S y)) ds ∧ Sat m (LL y) w
class SlotsE (f : Env) (S : List (Nat × Value)) : Prop where sl : Slots f S
instance sl_nil {f : Env} : SlotsE f [] := ⟨trivial⟩
instance sl_cons {f : Env} {d : Nat} {v u : Value} {S : List (Nat × Value)} [h : Lk f d u] [e : EqV u v] [k : SlotsE f S] : SlotsE f ((d, v) :: S) := ⟨h.lk.trans e.eq, k.sl⟩
theorem upds_hav {W : Nat} {j f : Env} {S : List (Nat × Value)} (hs : Slots j S) (hS : ∀ p ∈ S, Nat.beq (Nat.land (Nat.shiftRight W p.1) 1) 0 = false) : upds (hav W j f) S = hav W j f := upds_self (by
  induction S with
  | nil => trivial
  | cons p S ih => exact ⟨by simp only [hav]; rw [if_neg (by rw [hS p (by simp)]; simp)]; exact hs.1, ih hs.2 fun q hq => hS q (by simp [hq])⟩)
theorem cs_loopH {α : Sort _} {c : Code} (W : Nat) (S : α → List (Nat × Value)) (LL : α → List HP) (φ : α → Prop) (μ : α → Nat) (x0 : α) (h0 : φ x0) (hs : Slots f (S x0)) (hL : ∀ w, Sat m L w → Sat m (LL x0) w)
    (h : ∀ x j, φ x → CS P m (LL x) c (Exit.then (EndsH m n ds W f S LL fun y => φ y ∧ μ y < μ x) Q) n (upds (hav W j f) (S x)) ds) : CS P m L (.loop c) Q n f ds := by
  refine cs_loop (fun x a w => φ x ∧ ∃ j, a = acts n (upds (hav W j f) (S x)) ds ∧ Sat m (LL x) w) μ x0 (fun w hw => ⟨h0, f, ?_, hL w hw⟩) ?_
  · rw [off_eq (W := W) (g := f) (f := f) ⟨fun _ _ => rfl⟩, upds_self hs]
  · rintro x a w ⟨hx, j, rfl, hw⟩
    refine wp_mono (h x j hx w hw) fun e a' w' hq => ?_
    cases e <;> first | exact hq | (obtain ⟨y, ⟨h1, h2⟩, h3⟩ := hq; exact ⟨y, ⟨h1, h3⟩, h2⟩)
theorem ks_endsH {α : Sort _} {W : Nat} {f0 : Env} {S : α → List (Nat × Value)} {LL : α → List HP} {φ : α → Prop} (y : α) (hy : φ y) (hs : Slots f (S y)) (hL : ∀ w, Sat m L w → Sat m (LL y) w) [ho : Off W f f0] : KS m L (Exit.then (EndsH m n ds W f0 S LL φ) Q) .normal n f ds :=
  fun w hw => ⟨y, hy, f, by rw [off_eq ho, upds_self hs], hL w hw⟩
theorem cs_cutH {α : Sort _} {x y : Code} (W : Nat) (S : α → List (Nat × Value)) (LL : α → List HP) (φ : α → Prop) (h1 : CS P m L x (Exit.then (EndsH m n ds W f S LL φ) Q) n f ds) (h2 : ∀ i j, φ i → CS P m (LL i) y Q n (upds (hav W j f) (S i)) ds) : CS P m L (.seq x y) Q n f ds := fun w hw =>
  wp_seq (wp_mono (h1 w hw) fun e a w' hq => by
    cases e <;> first | exact hq | (obtain ⟨i, hi, j, rfl, hs⟩ := hq; exact h2 i j hi w' hs))
theorem fp_r1 {fn : Func} {Post : Value → World → Prop} {t : Tmp} {v : Value} (hr : fn.results = #[.tmp t]) [b : BT (Nat.ble (Nat.succ t) n)] [h : Lk f t v] (k : ∀ w, Sat m L w → Post v w) : KS m L (FP P fn Post) .ret n f [] := fp_ret1 hr get_ k
theorem fp_r2 {fn : Func} {Post : Value → World → Prop} {t u : Tmp} {v v' : Value} (hr : fn.results = #[.tmp t, .tmp u]) [b : BT (Nat.ble (Nat.succ t) n)] [b' : BT (Nat.ble (Nat.succ u) n)] [h : Lk f t v] [h' : Lk f u v'] (k : ∀ w, Sat m L w → Post (.tuple #[v, v']) w) : KS m L (FP P fn Post) .ret n f [] := fp_ret2 hr get_ get_ k
theorem fp_r3 {fn : Func} {Post : Value → World → Prop} {t u s : Tmp} {v v' v'' : Value} (hr : fn.results = #[.tmp t, .tmp u, .tmp s]) [b : BT (Nat.ble (Nat.succ t) n)] [b' : BT (Nat.ble (Nat.succ u) n)] [b'' : BT (Nat.ble (Nat.succ s) n)] [h : Lk f t v] [h' : Lk f u v'] [h'' : Lk f s v'']
    (k : ∀ w, Sat m L w → Post (.tuple #[v, v', v'']) w) : KS m L (FP P fn Post) .ret n f [] := fp_ret3 hr get_ get_ get_ k
end Go.Proofs.Ytkpkehfoilchaaa
