/- Deferred calls. -/
import Derived.Test.YtkpkehfoilchaaaMore
import Derived.Defers
namespace Go.Proofs.Ytkpkehfoilchaaa
open Go.RowKit
variable {P : Program} {ops : Array Oper} {m : Meta} {L L' : List HP} {Q : Exit → Act → World → Prop} {n : Nat} {f : Env} {ds : List Deferred} {rest : List Oper}
  {d : Option Tmp} {ty : TypeId} {pos : String} {aft : Array Edge}
/-- The end of a body that may have put calls off. -/
def FPD (P : Program) (fn : Func) (Post : Value → World → Prop) : Exit → Act → World → Prop := bodyPostD P fn fun e w' => ∃ v, e = .returned v ∧ Post v w'
theorem tri_enterD {g : FuncId} {args : Array Value} {Post : Value → World → Prop} {fn : Func} {c : Code} {n : Nat} (hf : P.funcs[g]? = some fn) (hb : fn.body = some c) (hn : fn.ntmps = n) (hle : decide (args.size ≤ n) = true)
    (h : CS P m L c (FPD P fn Post) n (argEnv args.toList 0) []) : Tri P m g args L Post := fun w hw =>
  calls_of_wp_defers hf hb (by rw [hn, acts_enter args n (of_decide_eq_true hle)]; exact h w hw)
/-- A call that was put off, as it is made. -/
def TriD (P : Program) (m : Meta) (g : FuncId) (args : Array Value) (L : List HP) (Post : Value → World → Prop) : Prop :=
  ∀ u w, Sat m L w → CallsD P g args u w fun e u' w' => u' = u ∧ ∃ v, e = .returned v ∧ Post v w'
theorem trid_enter {g : FuncId} {args : Array Value} {Post : Value → World → Prop} {fn : Func} {c : Code} {n : Nat} (hf : P.funcs[g]? = some fn) (hb : fn.body = some c) (hn : fn.ntmps = n) (hle : decide (args.size ≤ n) = true)
    (h : CS P m L c (FP P fn Post) n (argEnv args.toList 0) []) : TriD P m g args L Post := fun u w hw =>
  callsD_of_wp hf hb (by rw [hn, acts_enter args n (of_decide_eq_true hle)]; exact h w hw)
theorem wl_defer {x : Operand} {args : Array Operand} {ts : Array TypeId} {h : FuncId} {first cap as : Array Value} (hx : (acts n f ds).eval x = .func (.func h) first cap) (ha : args.map (acts n f ds).eval = as)
    (k : WL P ops m L Q rest n f (⟨.fn (.func h) cap, first ++ as⟩ :: ds)) : WL P ops m L Q (⟨none, .defer { callee := .value x, args := args, argTypes := ts }, ty, pos, aft, none⟩ :: rest) n f ds :=
  wl_of rfl fun w hw => by
    have : (execOp (acts n f ds).eval ⟨none, .defer { callee := .value x, args := args, argTypes := ts }, ty, pos, aft, none⟩).run P w = .ok (.defer ⟨.fn (.func h) cap, first ++ as⟩) w := by
      simp [execOp, resolve, hx, ha, Deferred.ofValue]
    simp only [Oper.wp, this, Oper.upon_defer]
    exact k w hw
theorem leave1 {fn : Func} {Post Post1 : Value → World → Prop} {t : Tmp} {v : Value} {h : FuncId} {as cap vs : Array Value} [hf : TFunc P h] {e : Exit} (he : e = .ret ∨ e = .normal) (hr : fn.results = #[.tmp t]) (hv : (acts n f []).tmps.getD t undef = v)
    (hvs : as ++ cap = vs) (T : TriD P m h vs L Post1) (hp : ∀ u w, Post1 u w → Post v w) : KS m L (FPD P fn Post) e n f [⟨.fn (.func h) cap, as⟩] := fun w hw => by
  subst hvs
  have hl : Leaves P fn (acts n f [⟨.fn (.func h) cap, as⟩]).tmps (fun e w' => ∃ v, e = .returned v ∧ Post v w') [⟨.fn (.func h) cap, as⟩] .returning w := by
    refine leaves_cons (f := h) (args := as ++ cap) (by simp) ?_ ((T .returning w hw).mono ?_)
    · have := hf.enters (as ++ cap) w
      simpa [invoke] using this
    · rintro e u' w' ⟨rfl, u, rfl, hq⟩
      exact ⟨v, by rw [results_tmp hr, ← hv]; rfl, v, rfl, hp _ _ hq⟩
  rcases he with rfl | rfl <;> exact hl
theorem leave0 {fn : Func} {Post : Value → World → Prop} {t : Tmp} {v : Value} {e : Exit} (he : e = .ret ∨ e = .normal) (hr : fn.results = #[.tmp t]) (hv : (acts n f []).tmps.getD t undef = v)
    (hp : ∀ w, Sat m L w → Post v w) : KS m L (FPD P fn Post) e n f [] := fun w hw => by
  have hl : Leaves P fn (acts n f []).tmps (fun e w' => ∃ v, e = .returned v ∧ Post v w') [] .returning w := ⟨v, by rw [results_tmp hr, ← hv], v, rfl, hp w hw⟩
  rcases he with rfl | rfl <;> exact hl
section
variable {t : TypeId} {x : Operand} {ρ : Operand → Value} {g : Option (Nat × Bool)} {a : Int}
theorem rd_neg32 (hx : ρ x = .int .i32 a) (h0 : -2147483647 ≤ a) (h1 : a ≤ 2147483647) : Reads P m L (execOp ρ ⟨d, .unOp .neg t x, ty, pos, aft, g⟩) (.int .i32 (-a)) := by
  have := rd_neg (P := P) (m := m) (L := L) (d := d) (ty := ty) (pos := pos) (aft := aft) (g := g) (t := t) hx
  rwa [wrap32_neg ⟨h0, h1⟩] at this
theorem rd_neg64 (hx : ρ x = .int .i64 a) (h0 : -9223372036854775807 ≤ a) (h1 : a ≤ 9223372036854775807) : Reads P m L (execOp ρ ⟨d, .unOp .neg t x, ty, pos, aft, g⟩) (.int .i64 (-a)) := by
  have := rd_neg (P := P) (m := m) (L := L) (d := d) (ty := ty) (pos := pos) (aft := aft) (g := g) (t := t) hx
  rwa [wrap64_small ⟨by omega, by omega⟩] at this
end
theorem WL.ex {α : Sort _} {p : α → HP} (h : ∀ x, WL P ops m (p x :: L) Q rest n f ds) : WL P ops m (HP.ex p :: L) Q rest n f ds := fun w hw => by
  obtain ⟨x, hx⟩ := hw.of_ex
  exact h x w hx
/-- A guard that was itself not come to: passed over. -/
theorem wl_guardU {op : Op} {j d' : Nat} {o' : Oper} {b : Bool} (ho : ops[j]? = some o') (hd : o'.dst = some d') (hn : d' < n) (hf : f d' = undef) (k : WL P ops m L Q rest n (updO f d undef) ds) : WL P ops m L Q (⟨d, op, ty, pos, aft, some (j, b)⟩ :: rest) n f ds := fun w hw => by
  have hy : yielded ops (acts n f ds).tmps j = none := by simp [yielded, ho, hd, acts, hn, hf, undef]
  unfold wpList
  rw [if_neg (by simp [Region.wanted, hy]), acts_put]
  exact k w hw
theorem ar_guardU {Qs : Nat → Option QS} {K : Act → Made → Prop} {R : Made} {resta : List (Nat × Oper)} {i : Nat} {op : Op} {j d' : Nat} {o' : Oper} {b : Bool} (ho : ops[j]? = some o') (hd : o'.dst = some d') (hn : d' < n) (hf : f d' = undef) (k : AR P ops m L Qs K resta n (updO f d undef) ds R) :
    AR P ops m L Qs K ((i, ⟨d, op, ty, pos, aft, some (j, b)⟩) :: resta) n f ds R := by
  have hy : yielded ops (acts n f ds).tmps j = none := by simp [yielded, ho, hd, acts, hn, hf, undef]
  unfold AR AWl
  rw [if_neg (by simp [Region.wanted, hy]), acts_put]
  exact k
end Go.Proofs.Ytkpkehfoilchaaa
