/- clear(s[i:]) on a row of one's own. -/
import Derived.Test.YtkpkehfoilchaaaGrow
import Derived.Lib.SliceRun
namespace Go.Proofs.Ytkpkehfoilchaaa
open Go.RowKit Go.Lib
variable {P : Program} {m : Meta} {L : List HP} {ops : Array Oper} {Q : Exit → Act → World → Prop} {n : Nat} {f : Env} {ds : List Deferred} {rest : List Oper} {d : Option Tmp} {ty : TypeId} {pos : String} {aft : Array Edge}
theorem sat_setCells {e k c g i : Nat} : ∀ (vs : List Value) (o : Nat) (xs : List Value) (w : World), i ≤ o → o + vs.length ≤ k → Sat m (HP.own e 1 (.slice (some ⟨g, 0, none⟩) k c) k xs :: L) w →
    ∃ ys, ys.take i = xs.take i ∧ Sat m (HP.own e 1 (.slice (some ⟨g, 0, none⟩) k c) k ys :: L) (w.setCells g o vs)
  | [], o, xs, w, _, _, h => ⟨xs, rfl, h⟩
  | v :: vs, o, xs, w, hi, hk, h => by
    simp only [List.length_cons] at hk
    have hs := (h.rowSet (i := o) v (by omega)).2
    have ha : adr (some ⟨g, 0, none⟩) o = ⟨g, o, none⟩ := by simp [adr, addr_add]
    rw [ha] at hs
    obtain ⟨ys, h1, h2⟩ := sat_setCells (i := i) vs (o + 1) (xs.set o v) _ (by omega) (by omega) hs
    exact ⟨ys, by rw [h1, List.take_set_of_le hi], h2⟩
theorem own_block {e k c : Nat} {A : Option Addr} {xs : List Value} {w : World} (h : Sat m (HP.own e 1 (.slice A k c) k xs :: L) w) (hk : 0 < k) : ∃ g cur, A = some ⟨g, 0, none⟩ ∧ w.heap[g]? = some (.cells cur e (0, 0)) ∧ cur.size = c ∧ k ≤ c := by
  obtain ⟨h0, a, ⟨x, y, dj, rfl, ⟨hl, ⟨hn, hk0, _⟩ | ⟨g', cap, cur, hv, rfl, h1, h2, h3, h4⟩⟩, hy⟩, hle⟩ := h
  · omega
  · cases hv
    exact ⟨g', cur, rfl, PH.one_le.1 (PH.le_trans (PH.le_un_l _ _) hle), by omega, h1⟩
theorem wl_clearTail {t e k c i : Nat} {x : Operand} {A : Option Addr} {xs : List Value} {z : Value} [ht : TSlice P t e] [hz : TZero P e z] (hz1 : z.cells = #[z]) (hz2 : z.oneCell' = true) (k0 : Nat) (hk0 : L[k0]? = some (HP.own e 1 (.slice A k c) k xs)) (hi : i < k)
    (hx : (acts n f ds).eval x = .slice (if c = i then A else A.map (·.add (i * 1))) (k - i) (c - i))
    (cont : ∀ ys, ys.take i = xs.take i → WL P ops m (L.set k0 (HP.own e 1 (.slice A k c) k ys)) Q rest n (updO f d (.tuple #[])) ds) :
    WL P ops m L Q (⟨d, .call { callee := .builtin .clear, args := #[x], argTypes := #[t] }, ty, pos, aft, none⟩ :: rest) n f ds :=
  wl_upon (Kv := fun v w => v = .tuple #[] ∧ ∃ ys, ys.take i = xs.take i ∧ Sat m (L.set k0 (HP.own e 1 (.slice A k c) k ys)) w) (fun w hw => by
    have hf := hw.front k0 hk0
    obtain ⟨g, cur, rfl, hg, hc, hkc⟩ := own_block hf (by omega)
    rw [if_neg (by omega)] at hx
    simp only [Option.map_some, addr_add, Nat.mul_one, Nat.zero_add] at hx
    have hr := run_clear_slice (P := P) w t e ty z ht.is hz.is hz1 hz2 g i (k - i) (c - i) (by omega) (fun j hj => by
      have : i + j < cur.size := by omega
      simp [World.cell?, hg, this]) (fun j hj => by simp [World.frozen?, hg])
    obtain ⟨ys, h1, h2⟩ := sat_setCells (i := i) (List.replicate (k - i) z) i xs w (Nat.le_refl _) (by simp; omega) hf
    have : (execOp (acts n f ds).eval ⟨d, .call { callee := .builtin .clear, args := #[x], argTypes := #[t] }, ty, pos, aft, none⟩).run P w = .ok (.value (.tuple #[])) (w.setCells g i (List.replicate (k - i) z)) := by
      simp [execOp, resolve, invoke, builtin, hx, hr]
    rw [this]
    exact ⟨rfl, ys, h1, Sat.back k0 (List.getElem?_eq_some_iff.1 hk0).1 h2⟩) fun v w ⟨e, ys, h1, h2⟩ => by subst e; exact cont ys h1 w h2
end Go.Proofs.Ytkpkehfoilchaaa
