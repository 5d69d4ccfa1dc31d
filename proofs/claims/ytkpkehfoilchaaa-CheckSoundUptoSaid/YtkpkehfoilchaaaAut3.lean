/- More laws for the walk: slices of elements given one by one, appending one element, bits. -/
import Derived.Test.YtkpkehfoilchaaaAut2
namespace Go.Proofs.Ytkpkehfoilchaaa
open Go.RowKit
set_option linter.unusedVariables false
variable {P : Program} {m : Meta} {L L' : List HP} {ops : Array Oper} {Q : Exit → Act → World → Prop} {n : Nat} {f : Env} {ds : List Deferred} {rest : List Oper}
  {d : Option Tmp} {ty : TypeId} {pos : String} {aft : Array Edge} {g : Option (Nat × Bool)}
/-! ### slices of elements given one by one -/
theorem wl_slice1 {t e sz bytes d : Nat} {z : Value} {x : Operand} {v : Value} {cs : List Value} [ht : TElem P t e z sz bytes] [hS : TSlice P t e] [hs : TSize P e sz] [hz : TZero P e z] [hx : Ev n f x v] [hc : CellsV v cs] [hl : LenE cs sz] (h24 : sz ≤ 16777216)
    (c : ∀ b, WL P ops m (HP.cells b e cs :: L) Q rest n (upd f d (.slice (some ⟨b, 0, none⟩) 1 1)) ds) : WL P ops m L Q (⟨some d, .buildSlice t 1 #[(0, x)], ty, pos, aft, none⟩ :: rest) n f ds :=
  wl_upon (Kv := fun v w => ∃ b, v = .slice (some ⟨b, 0, none⟩) 1 1 ∧ Sat m (HP.cells b e cs :: L) w) (fun w hw => by
    rw [run_buildSlice (ps := [(0, v)]) (cs := cs) (sz := sz) (z := z) (by simp [hx.ev ds]) (fill_whole ht.cells hc.cells hl.len ht.pos) (by have := ht.pos; omega) w]
    exact ⟨_, rfl, hw.alloc _⟩) fun v w ⟨b, e, h⟩ => by subst e; exact c b w h
class RepE (k : Nat) (z : Value) (cs : outParam (List Value)) : Prop where rep : List.replicate k z = cs
instance rep_zero {z : Value} : RepE 0 z [] := ⟨rfl⟩
instance rep_succ {k : Nat} {z : Value} {cs : List Value} [h : RepE k z cs] : RepE (k + 1) z (z :: cs) := ⟨by rw [List.replicate_succ, h.rep]⟩
class FillN (cells : List Value) (vs : List (Nat × Value)) (cs : outParam (List Value)) : Prop where fill : Instr.fill (fun i => some (i * 1, 1)) cells.toArray vs = some cs.toArray
instance filln_nil {cells : List Value} : FillN cells [] cells := ⟨rfl⟩
instance filln_cons {cells cells' cs : List Value} {i : Nat} {v : Value} {vs : List (Nat × Value)} [ho : One1 v] [hs : SetV cells i v cells'] [h : FillN cells' vs cs] : FillN cells ((i, v) :: vs) cs := ⟨by
  have hv : v.cells = #[v] := by have := ho.one; cases v <;> simp_all [Value.oneCell', Value.cells]
  have hlt := hs.st.2
  unfold Instr.fill
  simp only [hv]
  have : i + 1 ≤ cells.length := by omega
  have h2 := h.fill
  rw [← hs.st.1] at h2
  simpa [this] using h2⟩
theorem wl_sliceN {t e k d : Nat} {z : Value} {parts : List (Nat × Operand)} {vs : List (Nat × Value)} {c0 cs : List Value} [hS : TSlice P t e] [hs : TSize P e 1] [hz : TZero P e z] [ho : One1 z] [hp : EvP n f parts vs] [hr : RepE k z c0] [hf : FillN c0 vs cs] (h0 : k ≠ 0 ∧ k ≤ 16777216)
    (c : ∀ b, WL P ops m (HP.cells b e cs :: L) Q rest n (upd f d (.slice (some ⟨b, 0, none⟩) k k)) ds) : WL P ops m L Q (⟨some d, .buildSlice t k parts.toArray, ty, pos, aft, none⟩ :: rest) n f ds :=
  wl_upon (Kv := fun v w => ∃ b, v = .slice (some ⟨b, 0, none⟩) k k ∧ Sat m (HP.cells b e cs :: L) w) (fun w hw => by
    have hv : z.cells = #[z] := by have := ho.one; cases z <;> simp_all [Value.oneCell', Value.cells]
    have hfill : Instr.fill (fun i => some (i * 1, 1)) ((Array.range (k * 1)).map fun i => z.cells[i % z.cells.size]!) vs = some cs.toArray := by
      rw [← hf.fill, ← hr.rep, hv]
      congr 1
      apply Array.ext
      · simp
      · intro i h1 h2; simp [Nat.mod_one]
    rw [run_buildSlice (sz := 1) (z := z) (ps := vs) (cs := cs) (by simpa using hp.ev ds) hfill (by omega) w]
    exact ⟨_, rfl, hw.alloc _⟩) fun v w ⟨b, e, h⟩ => by subst e; exact c b w h
/-! ### appending -/
class OwnF (L : List HP) (A : Option Addr) (k c : Nat) (e sz : outParam Nat) (xs : outParam (List Value)) (F : outParam (HP → List HP)) : Prop where own : ∃ i : Nat, L[i]? = some (HP.own e sz (.slice A k c) k xs) ∧ ∀ p, F p = L.set i p
instance ownf_hd {A : Option Addr} {k c e sz : Nat} {xs : List Value} {L : List HP} : OwnF (HP.own e sz (.slice A k c) k xs :: L) A k c e sz xs (fun p => p :: L) := ⟨0, rfl, fun _ => rfl⟩
instance (priority := low) ownf_skip {p : HP} {A : Option Addr} {k c e sz : Nat} {xs : List Value} {L : List HP} {F : HP → List HP} [h : OwnF L A k c e sz xs F] : OwnF (p :: L) A k c e sz xs (fun q => p :: F q) := ⟨let ⟨i, h1, h2⟩ := h.own; ⟨i + 1, by simpa using h1, fun q => by simp [h2]⟩⟩
class CellsL (L : List HP) (b : Nat) (cs : outParam (List Value)) : Prop where cl : ∃ e, HP.cells b e cs ∈ L
instance cellsl_hd {b e : Nat} {cs : List Value} {L : List HP} : CellsL (HP.cells b e cs :: L) b cs := ⟨e, by simp⟩
instance (priority := low) cellsl_skip {p : HP} {b : Nat} {cs : List Value} {L : List HP} [h : CellsL L b cs] : CellsL (p :: L) b cs := ⟨let ⟨e, h1⟩ := h.cl; ⟨e, by simp [h1]⟩⟩
class AllOne (cs : List Value) : Prop where all : ∀ u ∈ cs, u.oneCell' = true
instance allone_nil : AllOne [] := ⟨by simp⟩
instance allone_cons {v : Value} {cs : List Value} [h : One1 v] [k : AllOne cs] : AllOne (v :: cs) := ⟨fun u hu => by
  rcases List.mem_cons.1 hu with rfl | hu
  · exact h.one
  · exact k.all u hu⟩
/-- 'x = append(x, one)' -/
theorem wl_app1 {t e sz bytes d : Nat} {z : Value} {x y : Operand} {A : Option Addr} {k c b : Nat} {xs cs : List Value} {F : HP → List HP} [ht : TElem P t e z sz bytes] [hx : Ev n f x (.slice A k c)] [hy : Ev n f y (.slice (some ⟨b, 0, none⟩) 1 1)] [ho : OwnF L A k c e sz xs F] [hc : CellsL L b cs] [hl : LenE cs sz] [h1 : AllOne cs]
    (hb : (k + 1) * bytes ≤ 140737488355328) (cont : ∀ A' c', WL P ops m (F (HP.own e sz (.slice A' (k + 1) c') (k + 1) (xs ++ cs))) Q rest n (upd f d (.slice A' (k + 1) c')) ds) :
    WL P ops m L Q (⟨some d, .call { callee := .builtin .append, args := #[x, y], argTypes := #[t, t] }, ty, pos, aft, none⟩ :: rest) n f ds := by
  obtain ⟨i, hi, hF⟩ := ho.own
  obtain ⟨e', hcl⟩ := hc.cl
  refine wl_append (j := 1) i cs hi (hx.ev ds) (hy.ev ds) (Ent.of_mem hcl (fun h hh => cells_slN (by rw [hl.len, Nat.one_mul]) h hh) fun _ _ => SlN.le) h1.all hb fun v' => ?_
  have hlt := (List.getElem?_eq_some_iff.1 hi).1
  refine WL.facts (φ := ∃ A' c', v' = .slice A' (k + 1) c') (fun w h => ?_) ?_
  · rcases (own_row (e := e) (size := sz) (v := v') (k := k + 1) (xs := xs ++ cs) (h.front i (by rw [List.getElem?_set]; simp [hlt]))).2 with ⟨h1, h2⟩ | ⟨g, cap, cur, h1, _⟩
    · omega
    · exact ⟨_, _, h1⟩
  · rintro ⟨A', c', rfl⟩
    rw [← hF]
    exact cont A' c'
/-! ### bits -/
theorem rd_shr {ρ : Operand → Value} {x y : Operand} {t t' : TypeId} {k : IntKind} {a b : Nat} (hx : ρ x = .int .i64 a) (hy : ρ y = .int k b) (hb : b < 64) : Reads P m L (execOp ρ ⟨d, .binOp .shr t x y t', ty, pos, aft, g⟩) (.int .i64 ((a >>> b : Nat) : Int)) := fun w _ => by
  have h1 : ¬ ((b : Int) < 0) := by omega
  have h2 : min ((b : Int)).toNat 64 = b := by omega
  have h3 : (a : Int).fdiv (2 ^ b) = ((a >>> b : Nat) : Int) := by
    rw [Nat.shiftRight_eq_div_pow, Int.fdiv_eq_ediv_of_nonneg _ (by exact_mod_cast Nat.zero_le _)]
    push_cast; rfl
  have h4 : min b 64 = b := by omega
  have h5 : (Op.shift .shr .i64 (a : Int) k (b : Int)) = pure (.int .i64 ((a >>> b : Nat) : Int)) := by
    unfold Op.shift
    rw [if_neg h1]
    simp only [IntKind.bits, Int.toNat_natCast, h4, h3]
  simp only [execOp, hx, hy, eqGuard_shr, binOp_shr, h5]
  simp
theorem rd_and1 {ρ : Operand → Value} {x y : Operand} {t t' : TypeId} {a : Nat} (hx : ρ x = .int .i64 a) (hy : ρ y = .int .i64 1) (ha : a ≤ 9223372036854775807) : Reads P m L (execOp ρ ⟨d, .binOp .and t x y t', ty, pos, aft, g⟩) (.int .i64 ((a % 2 : Nat) : Int)) := fun w _ => by
  have h5 : (BitVec.ofInt 64 (a : Int) &&& BitVec.ofInt 64 1).toNat = a % 2 := by
    rw [BitVec.toNat_and, BitVec.toNat_ofInt, BitVec.toNat_ofInt]
    have e1 : ((a : Int) % ((2 ^ 64 : Nat) : Int)).toNat = a := by have : ((2 ^ 64 : Nat) : Int) = 18446744073709551616 := rfl; omega
    have e2 : ((1 : Int) % ((2 ^ 64 : Nat) : Int)).toNat = 1 := by decide
    rw [e1, e2, Nat.and_one_is_mod]
  have h6 : IntKind.i64.wrap ((a % 2 : Nat) : Int) = ((a % 2 : Nat) : Int) := wrap64_small ⟨by omega, by omega⟩
  have h7 : Op.intBits .and .i64 (a : Int) 1 = pure (.int .i64 ((a % 2 : Nat) : Int)) := by
    show (pure (.int .i64 (IntKind.i64.wrap (((BitVec.ofInt 64 (a : Int) &&& BitVec.ofInt 64 1).toNat : Nat) : Int))) : Sem Value) = _
    rw [h5, h6]
  simp only [execOp, hx, hy, eqGuard_and, binOp_and, h7]
  simp
theorem rd_shl1 {ρ : Operand → Value} {x y : Operand} {t t' : TypeId} {k : IntKind} {b : Nat} (hx : ρ x = .int .i64 1) (hy : ρ y = .int k b) (hb : b < 62) : Reads P m L (execOp ρ ⟨d, .binOp .shl t x y t', ty, pos, aft, g⟩) (.int .i64 ((2 ^ b : Nat) : Int)) := fun w _ => by
  have h1 : ¬ ((b : Int) < 0) := by omega
  have h4 : min b 64 = b := by omega
  have h5 : (2 : Int) ^ b ≤ 2 ^ 62 := by
    have : 2 ^ b ≤ 2 ^ 62 := Nat.pow_le_pow_right (by omega) (by omega)
    exact_mod_cast this
  have h6 : (0 : Int) ≤ 2 ^ b := by exact_mod_cast Nat.zero_le _
  have h3 : IntKind.i64.wrap (1 * 2 ^ b) = ((2 ^ b : Nat) : Int) := by
    rw [Int.one_mul, wrap64_small ⟨by omega, by have : (2:Int)^62 = 4611686018427387904 := rfl; omega⟩]; push_cast; rfl
  have h7 : Op.shift .shl .i64 1 k (b : Int) = pure (.int .i64 ((2 ^ b : Nat) : Int)) := by
    unfold Op.shift
    rw [if_neg h1]
    simp only [IntKind.bits, Int.toNat_natCast, h4, h3]
  simp only [execOp, hx, hy, eqGuard_shl, binOp_shl, h7]
  simp
end Go.Proofs.Ytkpkehfoilchaaa
