/- The operations that read, one law for each kind. -/
import Derived.Test.YtkpkehfoilchaaaStep
import Derived.WalkSpells
namespace Go.Proofs.Ytkpkehfoilchaaa
open Go.RowKit

/-! ### facts on types -/
class TPlain (P : Program) (t : TypeId) : Prop where agg : ∀ w, (isAgg t).run P w = .ok false w
class TAgg (P : Program) (t : TypeId) : Prop where agg : ∀ w, (isAgg t).run P w = .ok true w
class TSize (P : Program) (t : TypeId) (k : outParam Nat) : Prop where size : ∀ w, (sizeOf t).run P w = .ok k w
class TField (P : Program) (s i : Nat) (off : outParam Nat) : Prop where at_ : ∀ (b o : Nat) w, (Instr.fieldAt s (.pointer (some ⟨b, o, none⟩)) i).run P w = .ok (.pointer (some ⟨b, o + off, none⟩)) w
class TSlice (P : Program) (t : TypeId) (e : outParam TypeId) : Prop where is : P.underlying t = some (.slice e)
class TMap (P : Program) (t : TypeId) (k e : outParam TypeId) : Prop where is : P.underlying t = some (.map k e)
class TInt (P : Program) (t : TypeId) (k : outParam IntKind) : Prop where is : P.underlying t = some (.int k)
class TBool (P : Program) (t : TypeId) : Prop where is : P.underlying t = some .bool
class TPtr (P : Program) (t : TypeId) (e : outParam TypeId) : Prop where is : P.underlying t = some (.pointer e)
class TZero (P : Program) (t : TypeId) (v : outParam Value) : Prop where is : ∀ w, (zeroValue t).run P w = .ok v w
class TFunc (P : Program) (g : FuncId) : Prop where enters : ∀ args w, (callFunc g args).run P w = .ok (.enter g args) w
class TBytes (P : Program) (t : TypeId) (k : outParam Nat) : Prop where is : (P.info? t).map (·.bytes) = some k

variable {P : Program} {m : Meta} {L : List HP} {ρ : Operand → Value} {d : Option Tmp} {ty : TypeId} {pos : String} {aft : Array Edge} {g : Option (Nat × Bool)}

theorem rd_move {x : Operand} {v : Value} (h : ρ x = v) : Reads P m L (execOp ρ ⟨d, .move x, ty, pos, aft, g⟩) v := fun w _ => by simp [execOp, h]
theorem rd_assign {x : Operand} {v : Value} (h : ρ x = v) : Reads P m L (execOp ρ ⟨d, .assign x, ty, pos, aft, g⟩) v := fun w _ => by simp [execOp, h]
theorem rd_pick_true {c x y : Operand} {v : Value} (hc : ρ c = .bool true) (h : ρ x = v) : Reads P m L (execOp ρ ⟨d, .pick c x y, ty, pos, aft, g⟩) v := fun w _ => by simp [execOp, hc, h, asBool]
theorem rd_pick_false {c x y : Operand} {v : Value} (hc : ρ c = .bool false) (h : ρ y = v) : Reads P m L (execOp ρ ⟨d, .pick c x y, ty, pos, aft, g⟩) v := fun w _ => by simp [execOp, hc, h, asBool]
theorem rd_pickT {c x y : Operand} {v : Value} {b : Bool} (hc : ρ c = .bool b) (hb : b = true) (h : ρ x = v) : Reads P m L (execOp ρ ⟨d, .pick c x y, ty, pos, aft, g⟩) v := rd_pick_true (hb ▸ hc) h
theorem rd_pickF {c x y : Operand} {v : Value} {b : Bool} (hc : ρ c = .bool b) (hb : b = false) (h : ρ y = v) : Reads P m L (execOp ρ ⟨d, .pick c x y, ty, pos, aft, g⟩) v := rd_pick_false (hb ▸ hc) h
theorem rd_nil {x : Operand} {a : Addr} (h : ρ x = .pointer (some a)) : Reads P m L (execOp ρ ⟨d, .nilCheck x, ty, pos, aft, g⟩) (.pointer (some a)) := fun w _ => by simp [execOp, h]
theorem rd_nilFunc {x : Operand} {k : FuncId} {a b : Array Value} (h : ρ x = .func (.func k) a b) : Reads P m L (execOp ρ ⟨d, .nilCheck x, ty, pos, aft, g⟩) (.func (.func k) a b) := fun w _ => by simp [execOp, h]
theorem rd_field {s i off b o : Nat} {x : Operand} [hf : TField P s i off] (h : ρ x = .pointer (some ⟨b, o, none⟩)) : Reads P m L (execOp ρ ⟨d, .fieldAddr s x i, ty, pos, aft, g⟩) (.pointer (some ⟨b, o + off, none⟩)) := fun w _ => by
  simp [execOp, h, hf.at_]
theorem rd_load {t : TypeId} {x : Operand} {a : Addr} {v : Value} [ht : TPlain P t] (h : ρ x = .pointer (some a)) (hc : ∀ w, Sat m L w → w.cell? a = some v) : Reads P m L (execOp ρ ⟨d, .load t x, ty, pos, aft, g⟩) v := fun w hw => by
  simp [execOp, h, Instr.loadAt, Instr.sureAddr, loadVar, ht.agg, load, Sem.run, hc w hw]
theorem run_loadCells {a : Addr} : ∀ (cs : List Value) (i : Nat) (acc : Array Value) (w : World), (∀ j v, cs[j]? = some v → w.cell? (a.add (i + j)) = some v) → (loadCellsFrom a i cs.length acc).run P w = .ok (acc ++ cs.toArray) w
  | [], i, acc, w, _ => by simp [loadCellsFrom]
  | c :: cs, i, acc, w, h => by
    have h0 := h 0 c rfl
    have ih := run_loadCells cs (i + 1) (acc.push c) w (fun j v hj => by have := h (j + 1) v hj; rwa [show i + (j + 1) = i + 1 + j by omega] at this)
    simp only [Nat.add_zero] at h0
    simp [loadCellsFrom, load, Sem.run, h0, ih]
theorem rd_loadAgg {t k : Nat} {x : Operand} {a : Addr} {cs : List Value} [ht : TAgg P t] [hs : TSize P t k] (h : ρ x = .pointer (some a)) (hk : cs.length = k) (hc : ∀ w, Sat m L w → ∀ j v, cs[j]? = some v → w.cell? (a.add j) = some v) :
    Reads P m L (execOp ρ ⟨d, .load t x, ty, pos, aft, g⟩) (.agg cs.toArray) := fun w hw => by
  have := run_loadCells (P := P) (a := a) cs 0 #[] w (fun j v hj => by rw [Nat.zero_add]; exact hc w hw j v hj)
  rw [hk] at this
  simp [execOp, h, Instr.loadAt, Instr.sureAddr, loadVar, ht.agg, hs.size, loadCells, this]
section
variable {x y : Operand} {t t' : TypeId} {k : IntKind} {a b : Int}
theorem rd_add (hx : ρ x = .int k a) (hy : ρ y = .int k b) : Reads P m L (execOp ρ ⟨d, .binOp .add t x y t', ty, pos, aft, g⟩) (.int k (k.wrap (a + b))) := fun w _ => by simp [execOp, hx, hy, eqGuard_add, binOp_add, Op.intArith]
theorem rd_sub (hx : ρ x = .int k a) (hy : ρ y = .int k b) : Reads P m L (execOp ρ ⟨d, .binOp .sub t x y t', ty, pos, aft, g⟩) (.int k (k.wrap (a - b))) := fun w _ => by simp [execOp, hx, hy, eqGuard_sub, binOp_sub, Op.intArith]
theorem rd_mul (hx : ρ x = .int k a) (hy : ρ y = .int k b) : Reads P m L (execOp ρ ⟨d, .binOp .mul t x y t', ty, pos, aft, g⟩) (.int k (k.wrap (a * b))) := fun w _ => by simp [execOp, hx, hy, eqGuard_mul, binOp_mul, Op.intArith]
theorem rd_add' (hx : ρ x = .int .i64 a) (hy : ρ y = .int .i64 b) (h : -9223372036854775808 ≤ a + b ∧ a + b ≤ 9223372036854775807) : Reads P m L (execOp ρ ⟨d, .binOp .add t x y t', ty, pos, aft, g⟩) (.int .i64 (a + b)) := by
  have := rd_add (P := P) (m := m) (L := L) (d := d) (ty := ty) (pos := pos) (aft := aft) (g := g) (t := t) (t' := t') hx hy
  rwa [show IntKind.i64.wrap (a + b) = a + b by simp [IntKind.wrap, IntKind.bits, IntKind.signed]; omega] at this
theorem rd_sub' (hx : ρ x = .int .i64 a) (hy : ρ y = .int .i64 b) (h : -9223372036854775808 ≤ a - b ∧ a - b ≤ 9223372036854775807) : Reads P m L (execOp ρ ⟨d, .binOp .sub t x y t', ty, pos, aft, g⟩) (.int .i64 (a - b)) := by
  have := rd_sub (P := P) (m := m) (L := L) (d := d) (ty := ty) (pos := pos) (aft := aft) (g := g) (t := t) (t' := t') hx hy
  rwa [show IntKind.i64.wrap (a - b) = a - b by simp [IntKind.wrap, IntKind.bits, IntKind.signed]; omega] at this
theorem rd_lss (hx : ρ x = .int k a) (hy : ρ y = .int k b) : Reads P m L (execOp ρ ⟨d, .binOp .lss t x y t', ty, pos, aft, g⟩) (.bool (decide (a < b))) := fun w _ => by simp [execOp, hx, hy, eqGuard_lss, binOp_lss]
theorem rd_leq (hx : ρ x = .int k a) (hy : ρ y = .int k b) : Reads P m L (execOp ρ ⟨d, .binOp .leq t x y t', ty, pos, aft, g⟩) (.bool (decide (a ≤ b))) := fun w _ => by simp [execOp, hx, hy, eqGuard_leq, binOp_leq]
theorem rd_gtr (hx : ρ x = .int k a) (hy : ρ y = .int k b) : Reads P m L (execOp ρ ⟨d, .binOp .gtr t x y t', ty, pos, aft, g⟩) (.bool (decide (b < a))) := fun w _ => by simp [execOp, hx, hy, eqGuard_gtr, binOp_gtr]
theorem rd_geq (hx : ρ x = .int k a) (hy : ρ y = .int k b) : Reads P m L (execOp ρ ⟨d, .binOp .geq t x y t', ty, pos, aft, g⟩) (.bool (decide (b ≤ a))) := fun w _ => by simp [execOp, hx, hy, eqGuard_geq, binOp_geq]
theorem rd_eql (hx : ρ x = .int k a) (hy : ρ y = .int k b) : Reads P m L (execOp ρ ⟨d, .binOp .eql t x y t', ty, pos, aft, g⟩) (.bool (decide (a = b))) := fun w _ => by
  simp only [execOp, hx, hy, eqGuard_at_int, binOp_eql]
  have : (a == b) = decide (a = b) := by cases h : decide (a = b) <;> simp_all
  simp [this]
theorem rd_neq (hx : ρ x = .int k a) (hy : ρ y = .int k b) : Reads P m L (execOp ρ ⟨d, .binOp .neq t x y t', ty, pos, aft, g⟩) (.bool (!decide (a = b))) := fun w _ => by
  simp only [execOp, hx, hy, eqGuard_at_int, binOp_neq]
  have : (a != b) = !decide (a = b) := by cases h : decide (a = b) <;> simp_all
  simp [this]
theorem rd_eqlB {p q : Bool} [ht : TBool P t] (hx : ρ x = .bool p) (hy : ρ y = .bool q) : Reads P m L (execOp ρ ⟨d, .binOp .eql t x y t', ty, pos, aft, g⟩) (.bool (p == q)) := fun w _ => by
  have := run_eql_bool (P := P) (w := w) t p q ht.is
  simp [execOp, hx, hy, eqGuard_at_bool, this]
theorem rd_neqB {p q : Bool} [ht : TBool P t] (hx : ρ x = .bool p) (hy : ρ y = .bool q) : Reads P m L (execOp ρ ⟨d, .binOp .neq t x y t', ty, pos, aft, g⟩) (.bool (p != q)) := fun w _ => by
  have := run_neq_bool (P := P) (w := w) t p q ht.is
  simp [execOp, hx, hy, eqGuard_at_bool, this]
  cases p <;> cases q <;> rfl
theorem rd_eqlP {e : TypeId} [ht : TPtr P t e] {p : Option Addr} (hx : ρ x = .pointer p) (hy : ρ y = .pointer none) : Reads P m L (execOp ρ ⟨d, .binOp .eql t x y t', ty, pos, aft, g⟩) (.bool p.isNone) := fun w _ => by
  have := run_eql_pointer_nil (P := P) (w := w) t p (by rw [ht.is]; simp [Program.pointee, ht.is])
  simp [execOp, hx, hy, eqGuard_at_pointer, this]
theorem rd_neqP {e : TypeId} [ht : TPtr P t e] {p : Option Addr} (hx : ρ x = .pointer p) (hy : ρ y = .pointer none) : Reads P m L (execOp ρ ⟨d, .binOp .neq t x y t', ty, pos, aft, g⟩) (.bool p.isSome) := fun w _ => by
  have := run_neq_pointer_nil (P := P) (w := w) t p (by rw [ht.is]; simp [Program.pointee, ht.is])
  cases p <;> simp_all [execOp, eqGuard_at_pointer]
theorem rd_not {p : Bool} (hx : ρ x = .bool p) : Reads P m L (execOp ρ ⟨d, .unOp .not t x, ty, pos, aft, g⟩) (.bool (!p)) := fun w _ => by simp [execOp, hx, Op.unary]
theorem rd_neg (hx : ρ x = .int k a) : Reads P m L (execOp ρ ⟨d, .unOp .neg t x, ty, pos, aft, g⟩) (.int k (k.wrap (-a))) := fun w _ => by simp [execOp, hx, Op.unary, Op.intArith]
theorem rd_conv {k' : IntKind} {t0 : TypeId} [h0 : TInt P t0 k] [h1 : TInt P t k'] (hx : ρ x = .int k a) : Reads P m L (execOp ρ ⟨d, .convert t0 t x, ty, pos, aft, g⟩) (.int k' (k'.wrap a)) := fun w _ => by
  have := run_convert_int (P := P) (w := w) t0 t k a (by simp [h0.is]) (by simp [Program.intKind, h1.is])
  simp [execOp, hx, this, Program.intKind, h1.is]
theorem rd_extract {vs : Array Value} {v : Value} {i : Nat} (hx : ρ x = .tuple vs) (hv : vs[i]? = some v) : Reads P m L (execOp ρ ⟨d, .extract x i, ty, pos, aft, g⟩) v := fun w _ => by simp [execOp, hx, Instr.extract, hv]
theorem rd_makeFunc {fn : Fn} {first cap : Array Operand} {a b : Array Value} (h1 : first.map ρ = a) (h2 : cap.map ρ = b) : Reads P m L (execOp ρ ⟨d, .makeFunc fn first cap, ty, pos, aft, g⟩) (.func fn a b) := fun w _ => by
  simp [execOp, h1, h2, Instr.makeFunc]
theorem rd_len {e : TypeId} {A : Option Addr} {len cap : Nat} [ht : TSlice P t e] (hx : ρ x = .slice A len cap) : Reads P m L (execOp ρ ⟨d, .call { callee := .builtin .len, args := #[x], argTypes := #[t] }, ty, pos, aft, g⟩) (.int .i64 len) := fun w _ => by
  have := run_len_slice (P := P) (w := w) t ty A len cap (by simp [Program.elem, ht.is])
  simp [execOp, resolve, hx, invoke, builtin, this, goInt]
theorem rd_indexAddr {e sz len cap : Nat} {ix : Operand} {A : Addr} {i : Int} [ht : TSlice P t e] [hs : TSize P e sz] (hx : ρ x = .slice (some A) len cap) (hi : ρ ix = .int k i) (h0 : 0 ≤ i) (h1 : i < len) :
    Reads P m L (execOp ρ ⟨d, .indexAddr t x ix, ty, pos, aft, g⟩) (.pointer (some (A.add (i.toNat * sz)))) := fun w _ => by
  simp [execOp, hx, hi, Instr.indexAt, asIntOf, underlying, ht.is, h0, h1, hs.size]
theorem rd_sliceLo {e sz len cap : Nat} {lo : Operand} {A : Option Addr} {i : Int} [ht : TSlice P t e] [hs : TSize P e sz] (hx : ρ x = .slice A len cap) (hi : ρ lo = .int k i) (h0 : 0 ≤ i) (h1 : i ≤ len) :
    Reads P m L (execOp ρ ⟨d, .slice t x (some lo) none none, ty, pos, aft, g⟩) (.slice (if cap = i.toNat then A else A.map (·.add (i.toNat * sz))) (len - i.toNat) (cap - i.toNat)) := fun w _ => by
  simp [execOp, hx, hi, Instr.sliceAt, underlying, ht.is, Instr.slice, Instr.sliceBounds, Instr.sliceBound, asIntOf, h0, h1, hs.size]
theorem rd_sliceHi {e sz len cap : Nat} {hi' : Operand} {A : Option Addr} {i : Int} [ht : TSlice P t e] [hs : TSize P e sz] (hx : ρ x = .slice A len cap) (hi : ρ hi' = .int k i) (h0 : 0 ≤ i) (h1 : i ≤ cap) :
    Reads P m L (execOp ρ ⟨d, .slice t x none (some hi') none, ty, pos, aft, g⟩) (.slice A i.toNat cap) := fun w _ => by
  simp [execOp, hx, hi, Instr.sliceAt, underlying, ht.is, Instr.slice, Instr.sliceBounds, Instr.sliceBound, asIntOf, h0, h1, hs.size]
  cases A <;> simp [Addr.add]
theorem rd_sliceBoth {e sz len cap : Nat} {lo hi' : Operand} {A : Option Addr} {i j : Int} {k' : IntKind} [ht : TSlice P t e] [hs : TSize P e sz] (hx : ρ x = .slice A len cap) (hl : ρ lo = .int k i) (hi : ρ hi' = .int k' j) (h0 : 0 ≤ i) (h1 : i ≤ j) (h2 : j ≤ cap) :
    Reads P m L (execOp ρ ⟨d, .slice t x (some lo) (some hi') none, ty, pos, aft, g⟩) (.slice (if cap = i.toNat then A else A.map (·.add (i.toNat * sz))) (j.toNat - i.toNat) (cap - i.toNat)) := fun w _ => by
  have h3 : 0 ≤ j := by omega
  have h4 : i ≤ (j.toNat : Int) := by omega
  have h5 : ¬ max j 0 < i := by omega
  simp [execOp, hx, hl, hi, Instr.sliceAt, underlying, ht.is, Instr.slice, Instr.sliceBounds, Instr.sliceBound, asIntOf, h0, h2, h3, hs.size]
  intro h6; exact absurd h6 h5
/-- whatever the run comes to, out of a closed fact -/
theorem rd_run {o : Oper} {v : Value} (h : ∀ w, (execOp ρ o).run P w = .ok (.value v) w) : Reads P m L (execOp ρ o) v := fun w _ => h w
end

/-! ### calls -/
section
variable {ops : Array Oper} {Q : Exit → Act → World → Prop} {n : Nat} {f : Env} {ds : List Deferred} {qs : List (Nat × QS)} {K : Act → Made → Prop} {R : Made} {rest : List Oper} {resta : List (Nat × Oper)}
theorem run_call {x : Operand} {args : Array Operand} {ts : Array TypeId} {h : FuncId} {first cap as : Array Value} [hf : TFunc P h] (hx : ρ x = .func (.func h) first cap) (ha : args.map ρ = as) (w : World) :
    (execOp ρ ⟨d, .call { callee := .value x, args := args, argTypes := ts }, ty, pos, aft, g⟩).run P w = .ok (.enter h (first ++ as ++ cap)) w := by
  simp [execOp, resolve, hx, ha, Deferred.ofValue, invoke, hf.enters]
theorem wl_call {x : Operand} {args : Array Operand} {ts : Array TypeId} {h : FuncId} {first cap as : Array Value} {Post : Value → World → Prop} [hf : TFunc P h] {vs : Array Value} (T : Tri P m h vs L Post) (hx : (acts n f ds).eval x = .func (.func h) first cap) (ha : args.map (acts n f ds).eval = as)
    (he : first ++ as ++ cap = vs) (k : ∀ v w, Post v w → wpList P ops Q rest (acts n (updO f d v) ds) w) : WL P ops m L Q (⟨d, .call { callee := .value x, args := args, argTypes := ts }, ty, pos, aft, none⟩ :: rest) n f ds :=
  wl_upon (fun w hw => by rw [run_call hx ha w, he]; exact T w hw) k
theorem ar_call {i : Nat} {x : Operand} {args : Array Operand} {ts : Array TypeId} {h : FuncId} {first cap as : Array Value} {q : QS} [hf : TFunc P h] {vs : Array Value} (hq : qsOf qs i = some q) (hx : (acts n f ds).eval x = .func (.func h) first cap) (ha : args.map (acts n f ds).eval = as) (he : first ++ as ++ cap = vs)
    (T : ∀ S, Tri P m h vs (q.c :: (S ++ (R.used q.u ++ L))) fun v w => q.p (R.rel q.u) v ∧ Sat m (q.q (R.rel q.u) v :: (S ++ (R.used q.u ++ L))) w) (hex : ∃ v, q.p (R.rel q.u) v) (k : ∀ v, q.p (R.rel q.u) v → AR P ops m L (qsOf qs) K resta n (updO f d v) ds ((i, v, q.q (R.rel q.u) v) :: R)) :
    AR P ops m L (qsOf qs) K ((i, ⟨d, .call { callee := .value x, args := args, argTypes := ts }, ty, pos, aft, none⟩) :: resta) n f ds R :=
  ar_make hq (fun S w hw => by rw [run_call hx ha w, he]; exact T S w hw) hex k
end
theorem Tri.mono {h : FuncId} {as : Array Value} {Post Post' : Value → World → Prop} (T : Tri P m h as L Post) (hp : ∀ v w, Post v w → Post' v w) : Tri P m h as L Post' := fun w hw =>
  (T w hw).mono fun _ _ ⟨v, he, hv⟩ => ⟨v, he, hp _ _ hv⟩
theorem Tri.pre {h : FuncId} {as : Array Value} {Post : Value → World → Prop} {L' : List HP} (T : Tri P m h as L Post) (hp : ∀ w, Sat m L' w → Sat m L w) : Tri P m h as L' Post := fun w hw => T w (hp w hw)

/-! ### cells that are known -/
theorem cell_at {b : Nat} {t : TypeId} {cs : List Value} {off : Nat} {v : Value} (k : Nat) (hk : L[k]? = some (HP.cells b t cs)) (hv : cs[off]? = some v) : ∀ w, Sat m L w → w.cell? ⟨b, off, none⟩ = some v := fun w hw => by
  have := hw.blk (List.mem_of_getElem? hk)
  simp [World.cell?, this, hv]
end Go.Proofs.Ytkpkehfoilchaaa
