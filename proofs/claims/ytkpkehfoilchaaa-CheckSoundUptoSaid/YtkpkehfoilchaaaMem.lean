/- Memory that a call owns: rows of slices, boxes; what reads them, what writes them. -/
import Derived.Test.YtkpkehfoilchaaaOps
import Derived.Maps.AppendAt
namespace Go.Proofs.Ytkpkehfoilchaaa
open Go.RowKit

theorem wcell_add (a : Addr) (i j : Nat) : (a.add i).add j = a.add (i + j) := by
  unfold Addr.add
  by_cases hi : i = 0
  · subst hi; simp
  · by_cases hj : j = 0
    · subst hj; simp
    · rw [if_neg hi, if_neg hj, if_neg (by omega)]; simp [Nat.add_assoc]
theorem addr_add (b o n : Nat) : (⟨b, o, none⟩ : Addr).add n = ⟨b, o + n, none⟩ := by unfold Addr.add; split <;> simp_all

/-! ### a slice's cells, as they are read -/
/-- The slice value v reads as xs (one cell an element), in a heap. -/
def SlR (h : PH) (v : Value) (xs : List Value) : Prop :=
  ∃ A n c, v = .slice A n c ∧ xs.length = n ∧ n ≤ c ∧ c ≤ maxLen ∧ ∀ i x, xs[i]? = some x → ∃ a, A = some a ∧ h.cell (a.add i) = some x
theorem SlR.le {h h' : PH} {v : Value} {xs : List Value} (hl : h.le h') (hs : SlR h v xs) : SlR h' v xs := by
  obtain ⟨A, n, c, e, h1, h2, h3, h4⟩ := hs
  exact ⟨A, n, c, e, h1, h2, h3, fun i x hx => let ⟨a, ha, hc⟩ := h4 i x hx; ⟨a, ha, PH.cell_le hl hc⟩⟩
theorem SlR.nil (h : PH) : SlR h (.slice none 0 0) [] := ⟨none, 0, 0, rfl, rfl, Nat.le_refl _, Nat.zero_le _, fun i x hx => by simp at hx⟩
/-- What the list holds entails. -/
def Ent (m : Meta) (L : List HP) (φ : PH → Prop) : Prop := ∀ w, Sat m L w → φ (wph w)
theorem Ent.of_mem {m : Meta} {L : List HP} {φ : PH → Prop} {P : HP} (hm : P ∈ L) (hp : ∀ h, P h → φ h) (hle : ∀ h h', h.le h' → φ h → φ h') : Ent m L φ := fun w hw => by
  obtain ⟨a, ha, pa⟩ := hw.mem hm
  exact hle a _ ha (hp a pa)
theorem Ent.at_ {m : Meta} {L : List HP} {φ : PH → Prop} {P : HP} (k : Nat) (hk : L[k]? = some P) (hp : ∀ h, P h → φ h) (hle : ∀ h h', h.le h' → φ h → φ h') : Ent m L φ :=
  Ent.of_mem (List.mem_of_getElem? hk) hp hle
theorem Ent.app {m : Meta} {L R : List HP} {φ : PH → Prop} (h : Ent m L φ) : Ent m (R ++ L) φ := fun w hw => h w hw.app
theorem Ent.cons {m : Meta} {L : List HP} {P : HP} {φ : PH → Prop} (h : Ent m L φ) : Ent m (P :: L) φ := fun w hw => h w hw.drop

variable {P : Program} {m : Meta} {L L' : List HP} {ops : Array Oper} {Q : Exit → Act → World → Prop} {n : Nat} {f : Env} {ds : List Deferred} {qs : List (Nat × QS)} {K : Act → Made → Prop} {R : Made} {rest : List Oper} {resta : List (Nat × Oper)}
  {d : Option Tmp} {ty : TypeId} {pos : String} {aft : Array Edge} {g : Option (Nat × Bool)} {ρ : Operand → Value}

/-- 'xs[i]', its address; then the load. -/
theorem rd_loadAt {t : TypeId} {x : Operand} {A : Addr} {len c i : Nat} {xs : List Value} {v : Value} [ht : TPlain P t] (h : ρ x = .pointer (some (A.add i))) (hs : Ent m L fun h => SlR h (.slice (some A) len c) xs) (hv : xs[i]? = some v) : Reads P m L (execOp ρ ⟨d, .load t x, ty, pos, aft, g⟩) v :=
  rd_load h fun w hw => by
    obtain ⟨A', n', c', e, _, _, _, h4⟩ := hs w hw
    obtain ⟨a, ha, hc⟩ := h4 i v hv
    cases e
    cases ha
    exact hc

/-- The address of an element, where the slice is known to be there. -/
def adr (A : Option Addr) (i : Nat) : Addr := (A.getD ⟨0, 0, none⟩).add i
theorem rd_ix {t e len c : Nat} {x ix : Operand} {A : Option Addr} {k : IntKind} {i : Int} {xs : List Value} [ht : TSlice P t e] [hs : TSize P e 1] (hx : ρ x = .slice A len c) (hi : ρ ix = .int k i) (h0 : 0 ≤ i) (h1 : i < len) (hr : Ent m L fun h => SlR h (.slice A len c) xs) :
    Reads P m L (execOp ρ ⟨d, .indexAddr t x ix, ty, pos, aft, g⟩) (.pointer (some (adr A i.toNat))) := fun w hw => by
  obtain ⟨A', n', c', e, hl, _, _, h4⟩ := hr w hw
  cases e
  have hlt : i.toNat < xs.length := by omega
  obtain ⟨a, rfl, _⟩ := h4 i.toNat _ (List.getElem?_eq_getElem hlt)
  have := rd_indexAddr (P := P) (m := m) (L := L) (d := d) (ty := ty) (pos := pos) (aft := aft) (g := g) (t := t) (sz := 1) hx hi h0 h1 w hw
  simpa [adr] using this
theorem rd_ldx {t : TypeId} {x : Operand} {A : Option Addr} {len c i : Nat} {xs : List Value} {v : Value} [ht : TPlain P t] (h : ρ x = .pointer (some (adr A i))) (hs : Ent m L fun h => SlR h (.slice A len c) xs) (hv : xs[i]? = some v) : Reads P m L (execOp ρ ⟨d, .load t x, ty, pos, aft, g⟩) v :=
  rd_load h fun w hw => by
    obtain ⟨A', n', c', e, _, _, _, h4⟩ := hs w hw
    cases e
    obtain ⟨a, rfl, hc⟩ := h4 i v hv
    exact hc

theorem getm (f : Int → Value) (xs : List Int) (i : Nat) (h : i < xs.length) : (xs.map f)[i]? = some (f (xs.getD i 0)) := by
  simp [h, List.getD_eq_getElem?_getD]

/-! ### rows of one's own -/
/-- The row of a slice v of n elements of type e (so many cells each), its cells xs: nil and nothing, or the beginning of a block of its own. -/
def HP.own (e : TypeId) (size : Nat) (v : Value) (n : Nat) (xs : List Value) : HP := fun h =>
  xs.length = n * size ∧
  ((v = .slice none 0 0 ∧ n = 0 ∧ h = PH.nil) ∨
   ∃ g cap cur, v = .slice (some ⟨g, 0, none⟩) n cap ∧ h = PH.one g (.cells cur e (0, 0)) ∧ n ≤ cap ∧ cap ≤ maxLen ∧ cur.size = cap * size ∧ cur.toList.take (n * size) = xs)
theorem own_nil0 (e size : Nat) : HP.own e size (.slice none 0 0) 0 [] PH.nil := ⟨by simp, .inl ⟨rfl, rfl, rfl⟩⟩
theorem Sat.own_nil {w : World} (e size : Nat) (h : Sat m L w) : Sat m (HP.own e size (.slice none 0 0) 0 [] :: L) w := by
  obtain ⟨h0, a, h1, h2⟩ := h
  exact ⟨h0, a, ⟨PH.nil, a, fun _ => .inl rfl, (PH.nil_un a).symm, own_nil0 e size, h1⟩, h2⟩
theorem PH.one_cell (b : Nat) (c : Array Value) (t : TypeId) (fr : Nat × Nat) (o : Nat) : (PH.one b (.cells c t fr)).cell ⟨b, o, none⟩ = c[o]? := by simp [PH.cell, PH.one]
theorem own_reads {e : TypeId} {v : Value} {k : Nat} {xs : List Value} {h : PH} (ho : HP.own e 1 v k xs h) : SlR h v xs := by
  obtain ⟨hl, ⟨rfl, rfl, rfl⟩ | ⟨g, cap, cur, rfl, rfl, h1, h2, h3, h4⟩⟩ := ho
  · have : xs = [] := List.eq_nil_of_length_eq_zero (by simpa using hl)
    subst this
    exact SlR.nil _
  · refine ⟨_, _, _, rfl, by simpa using hl, h1, h2, fun i x hx => ⟨_, rfl, ?_⟩⟩
    rw [addr_add, PH.one_cell, Nat.zero_add]
    subst h4
    rw [List.getElem?_take] at hx
    split at hx
    · simpa using hx
    · cases hx
theorem own_row {e : TypeId} {size : Nat} {v : Value} {k : Nat} {xs : List Value} {w : World} (h : Sat m (HP.own e size v k xs :: L) w) : w.ownsRow 0 e size v k xs := by
  obtain ⟨a, ha, hl, ⟨rfl, rfl, rfl⟩ | ⟨g, cap, cur, rfl, rfl, h1, h2, h3, h4⟩⟩ := h.head
  · exact ⟨hl, .inl ⟨rfl, rfl⟩⟩
  · exact ⟨hl, .inr ⟨g, cap, cur, rfl, Nat.zero_le _, PH.one_le.1 ha, h1, h2, h3, h4⟩⟩
/-- A row of the world's, new or the old one: the parts beside it stay. -/
theorem own_of_row {e : TypeId} {size : Nat} {v v' : Value} {k k' : Nat} {xs xs' : List Value} {w w' : World} (h : Sat m (HP.own e size v k xs :: L) w) (hr : w'.ownsRow 0 e size v' k' xs') (hg : w.grownBy w' v.ownBlock)
    (hb : v'.ownBlock = v.ownBlock ∨ v'.ownBlock = some w.heap.size) (hdr : w.drawn ≤ w'.drawn) : Sat m (HP.own e size v' k' xs' :: L) w' := by
  obtain ⟨h0, a, ⟨x, y, dj, rfl, hx, hy⟩, h2⟩ := h
  have hm : m.ok w' := ⟨hg.os.trans h0.1, hg.tape.trans h0.2.1, hg.output.trans h0.2.2.1, Nat.le_trans h0.2.2.2 hdr⟩
  have hyle : y.le (wph w') := fun i o ho => by
    have h3 : w.heap[i]? = some o := PH.le_trans (PH.le_un_r dj) h2 i o ho
    have hi : i < w.heap.size := (Array.getElem?_eq_some_iff.1 h3).1
    refine (hg.block i hi fun e => ?_).trans h3
    obtain ⟨_, ⟨rfl, _, _⟩ | ⟨g, cap, cur, rfl, rfl, _⟩⟩ := hx
    · simp [Value.ownBlock] at e
    · simp only [Value.ownBlock, Option.some.injEq] at e
      subst e
      have := dj i
      rw [ho] at this
      simp [PH.one] at this
  have hylt : ∀ i o, y i = some o → i < w.heap.size := fun i o ho => (Array.getElem?_eq_some_iff.1 (PH.le_trans (PH.le_un_r dj) h2 i o ho)).1
  obtain ⟨hl, ⟨rfl, rfl⟩ | ⟨g, cap, cur, rfl, _, hg', h1, h2', h3, h4⟩⟩ := hr
  · exact ⟨hm, y, ⟨PH.nil, y, fun _ => .inl rfl, (PH.nil_un y).symm, ⟨hl, .inl ⟨rfl, rfl, rfl⟩⟩, hy⟩, hyle⟩
  · refine ⟨hm, (PH.one g (.cells cur e (0, 0))).un y, ⟨_, y, fun i => ?_, rfl, ⟨hl, .inr ⟨g, cap, cur, rfl, rfl, h1, h2', h3, h4⟩⟩, hy⟩, PH.un_le (PH.one_le.2 hg') hyle⟩
    by_cases hi : i = g
    · subst hi
      refine .inr ?_
      cases hyi : y i with
      | none => rfl
      | some o =>
        exfalso
        rcases hb with hb | hb
        · obtain ⟨_, ⟨rfl, _, _⟩ | ⟨g', cap', cur', rfl, rfl, _⟩⟩ := hx
          · simp [Value.ownBlock] at hb
          · simp only [Value.ownBlock, Option.some.injEq] at hb
            subst hb
            have := dj i
            rw [hyi] at this
            simp [PH.one] at this
        · simp only [Value.ownBlock, Option.some.injEq] at hb
          have := hylt i o hyi
          omega
    · exact .inl (by simp [PH.one, hi])
/-- What a contract of the library hands back as a row of new memory. -/
theorem own_of_new {e : TypeId} {size : Nat} {v : Value} {k : Nat} {xs : List Value} {w w' : World} (h : Sat m L w) (hb : Below w.heap.size w w') (hdr : w.drawn ≤ w'.drawn) (hr : w'.ownsRow w.heap.size e size v k xs) : Sat m (HP.own e size v k xs :: L) w' := by
  obtain ⟨hl, ⟨rfl, rfl⟩ | ⟨g, cap, cur, rfl, hge, hg', h1, h2', h3, h4⟩⟩ := hr
  · exact h.below_new (h' := PH.nil) hb hdr (fun _ _ e => by cases e) (fun _ _ e => by cases e) ⟨hl, .inl ⟨rfl, rfl, rfl⟩⟩
  · refine h.below_new (h' := PH.one g (.cells cur e (0, 0))) hb hdr (fun i o e => ?_) (PH.one_le.2 hg') ⟨hl, .inr ⟨g, cap, cur, rfl, rfl, h1, h2', h3, h4⟩⟩
    simp only [PH.one] at e
    split at e
    · omega
    · cases e

/-! ### append -/
class TElem (P : Program) (t : TypeId) (e : outParam TypeId) (z : outParam Value) (size bytes : outParam Nat) : Prop where
  is : P.underlying t = some (.slice e)
  info : (P.info? e).map (fun i => (i.zero, i.size, i.bytes)) = some (some z, size, bytes)
  cells : z.cells.size = size
  pos : 0 < size
  posB : 0 < bytes
/-- append of what a slice reads as. -/
theorem up_append {t e size bytes : Nat} {z : Value} [ht : TElem P t e z size bytes] {v : Value} {k : Nat} {xs : List Value} {A : Option Addr} {j c : Nat} {news : List Value}
    (hl : news.length = j * size) (hn : Ent m (HP.own e size v k xs :: L) fun h => ∀ i x, news[i]? = some x → ∃ a, A = some a ∧ h.cell (a.add i) = some x) (h1 : ∀ u ∈ news, u.oneCell' = true)
    (hb : (k + j) * bytes ≤ 140737488355328) (h63 : k + j ≤ maxLen) {w : World} (hw : Sat m (HP.own e size v k xs :: L) w) (hA : A = none → j = 0) :
    ∃ v' w', (Builtin.append_ #[t, t] ty #[v, .slice A j c]).run P w = .ok v' w' ∧ Sat m (HP.own e size v' (k + j) (xs ++ news) :: L) w' := by
  obtain ⟨i, hi, hh⟩ := Option.map_eq_some_iff.1 ht.info
  simp only [Prod.mk.injEq] at hh
  obtain ⟨hz, hs, hby⟩ := hh
  have hrow := own_row hw
  cases A with
  | some a =>
    obtain ⟨v', w', hr, ho, hg, _, hat⟩ := run_append_own_at (P := P) w 0 t ty e i z size bytes ht.is hi hz hs hby ht.cells ht.pos v k xs hrow a j c news hl (fun q u hu => by
      obtain ⟨a', ha', hc⟩ := hn w hw q u hu
      cases ha'
      exact hc) h1 h63 hb (Nat.zero_le _)
    exact ⟨v', w', hr, own_of_row hw ho hg hat (run_drawn _ _ _ _ hr)⟩
  | none =>
    obtain rfl := hA rfl
    have hnil : news = [] := List.eq_nil_of_length_eq_zero (by simpa using hl)
    subst hnil
    refine ⟨v, w, ?_, by simpa using hw⟩
    obtain ⟨_, ⟨rfl, rfl⟩ | ⟨g', cap, cur, rfl, _, hg', h1', h2', h3', h4'⟩⟩ := hrow
    · simp [Builtin.append_, run_underlying ht.is, sizeOf, typeInfo, hi, Builtin.lenOf, Builtin.firstCells]
    · simp [Builtin.append_, run_underlying ht.is, sizeOf, typeInfo, hi, Builtin.lenOf, Builtin.firstCells, h1', storeCells]
end Go.Proofs.Ytkpkehfoilchaaa
