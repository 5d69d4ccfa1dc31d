/- Parts of memory that a call owns: partial heaps, assertions over them, and the list of assertions that a world satisfies. -/
import Derived.WalkKit
import Derived.Below
import Derived.Lib.Hide
import Derived.Deep.Draws
namespace Go.Proofs.Ytkpkehfoilchaaa
open Go.RowKit

/-! ### partial heaps -/
def PH := Nat → Option Obj
def PH.nil : PH := fun _ => none
def PH.one (b : Nat) (o : Obj) : PH := fun i => if i = b then some o else none
def PH.un (a b : PH) : PH := fun i => match a i with | some o => some o | none => b i
def PH.dj (a b : PH) : Prop := ∀ i, a i = none ∨ b i = none
def PH.le (a b : PH) : Prop := ∀ i o, a i = some o → b i = some o
def wph (w : World) : PH := fun i => w.heap[i]?
def PH.cell (h : PH) (a : Addr) : Option Value :=
  match h a.block with
  | some (.cells c _ _) => if a.spot.isSome then none else c[a.off]?
  | _ => none

theorem PH.un_nil (a : PH) : a.un PH.nil = a := by funext i; simp only [PH.un, PH.nil]; cases a i <;> rfl
theorem PH.nil_un (a : PH) : PH.nil.un a = a := by funext i; simp [PH.un, PH.nil]
theorem PH.un_assoc (a b c : PH) : (a.un b).un c = a.un (b.un c) := by funext i; simp only [PH.un]; cases a i <;> rfl
theorem PH.dj_comm {a b : PH} (h : a.dj b) : b.dj a := fun i => (h i).symm
theorem PH.un_comm {a b : PH} (h : a.dj b) : a.un b = b.un a := by
  funext i; simp only [PH.un]
  rcases h i with h | h <;> rw [h]
  · cases b i <;> rfl
  · cases a i <;> rfl
theorem PH.dj_un_l {a b c : PH} : (a.un b).dj c ↔ a.dj c ∧ b.dj c := by
  constructor
  · intro h
    refine ⟨fun i => ?_, fun i => ?_⟩
    · have := h i; simp only [PH.un] at this
      cases ha : a i with
      | none => exact .inl rfl
      | some o => rw [ha] at this; exact .inr (this.resolve_left (by simp))
    · have := h i; simp only [PH.un] at this
      cases ha : a i with
      | none => rw [ha] at this; exact this
      | some o => rw [ha] at this; exact .inr (this.resolve_left (by simp))
  · intro ⟨h1, h2⟩ i
    simp only [PH.un]
    cases ha : a i with
    | none => exact h2 i
    | some o => exact .inr ((h1 i).resolve_left (by simp [ha]))
theorem PH.dj_un_r {a b c : PH} : a.dj (b.un c) ↔ a.dj b ∧ a.dj c :=
  ⟨fun h => have := PH.dj_un_l.1 (PH.dj_comm h); ⟨PH.dj_comm this.1, PH.dj_comm this.2⟩, fun h => PH.dj_comm (PH.dj_un_l.2 ⟨PH.dj_comm h.1, PH.dj_comm h.2⟩)⟩
theorem PH.le_refl (a : PH) : a.le a := fun _ _ h => h
theorem PH.le_trans {a b c : PH} (h : a.le b) (k : b.le c) : a.le c := fun i o e => k i o (h i o e)
theorem PH.le_un_l (a b : PH) : a.le (a.un b) := fun i o h => by simp [PH.un, h]
theorem PH.le_un_r {a b : PH} (h : a.dj b) : b.le (a.un b) := by rw [PH.un_comm h]; exact PH.le_un_l b a
theorem PH.un_le {a b c : PH} (h : a.le c) (k : b.le c) : (a.un b).le c := fun i o e => by
  simp only [PH.un] at e
  cases ha : a i with
  | none => rw [ha] at e; exact k i o e
  | some o' => rw [ha] at e; exact h i o (by rw [ha]; exact e)
theorem PH.cell_le {a b : PH} (h : a.le b) {p : Addr} {v : Value} (e : a.cell p = some v) : b.cell p = some v := by
  unfold PH.cell at *
  cases ha : a p.block with
  | none => rw [ha] at e; cases e
  | some o => rw [ha] at e; rw [h _ _ ha]; exact e
theorem wph_cell (w : World) (p : Addr) : (wph w).cell p = w.cell? p := rfl

/-! ### assertions -/
abbrev HP := PH → Prop
def HP.star (P Q : HP) : HP := fun h => ∃ a b, a.dj b ∧ h = a.un b ∧ P a ∧ Q b
def HP.pure (p : Prop) : HP := fun h => p ∧ h = PH.nil
def HP.ex {α : Sort _} (P : α → HP) : HP := fun h => ∃ x, P x h
def HP.emp : HP := fun h => h = PH.nil
def HP.blk (b : Nat) (o : Obj) : HP := fun h => h = PH.one b o
def HP.cells (b : Nat) (t : TypeId) (cs : List Value) : HP := HP.blk b (.cells cs.toArray t (0, 0))
def Stars : List HP → HP
  | [] => HP.emp
  | P :: L => HP.star P (Stars L)

theorem HP.star_comm {P Q : HP} {h : PH} (hh : HP.star P Q h) : HP.star Q P h := by
  obtain ⟨a, b, d, rfl, p, q⟩ := hh
  exact ⟨b, a, PH.dj_comm d, PH.un_comm d, q, p⟩
theorem HP.star_assoc {P Q R : HP} {h : PH} : HP.star (HP.star P Q) R h ↔ HP.star P (HP.star Q R) h := by
  constructor
  · rintro ⟨ab, c, d, rfl, ⟨a, b, d', rfl, p, q⟩, r⟩
    have d1 := PH.dj_un_l.1 d
    exact ⟨a, b.un c, PH.dj_un_r.2 ⟨d', d1.1⟩, PH.un_assoc a b c, p, b, c, d1.2, rfl, q, r⟩
  · rintro ⟨a, bc, d, rfl, p, b, c, d', rfl, q, r⟩
    have d1 := PH.dj_un_r.1 d
    exact ⟨a.un b, c, PH.dj_un_l.2 ⟨d1.2, d'⟩, (PH.un_assoc a b c).symm, ⟨a, b, d1.1, rfl, p, q⟩, r⟩
theorem HP.star_mono {P P' Q Q' : HP} (hp : ∀ h, P h → P' h) (hq : ∀ h, Q h → Q' h) {h : PH} (hh : HP.star P Q h) : HP.star P' Q' h := by
  obtain ⟨a, b, d, rfl, p, q⟩ := hh
  exact ⟨a, b, d, rfl, hp _ p, hq _ q⟩
theorem HP.star_left_comm {P Q R : HP} {h : PH} (hh : HP.star P (HP.star Q R) h) : HP.star Q (HP.star P R) h :=
  HP.star_assoc.1 (HP.star_mono (fun _ x => HP.star_comm x) (fun _ x => x) (HP.star_assoc.2 hh))
theorem Stars.perm {L L' : List HP} (hp : L.Perm L') : ∀ h, Stars L h → Stars L' h := by
  induction hp with
  | nil => exact fun _ x => x
  | cons P _ ih => exact fun h x => HP.star_mono (fun _ y => y) ih x
  | swap P Q L => exact fun h x => HP.star_left_comm x
  | trans _ _ ih1 ih2 => exact fun h x => ih2 h (ih1 h x)
theorem Stars.append {L L' : List HP} {h : PH} : Stars (L ++ L') h ↔ HP.star (Stars L) (Stars L') h := by
  induction L generalizing h with
  | nil =>
    constructor
    · intro x; exact ⟨PH.nil, h, fun _ => .inl rfl, (PH.nil_un h).symm, rfl, x⟩
    · rintro ⟨a, b, _, rfl, rfl, q⟩; rw [PH.nil_un]; exact q
  | cons P L ih =>
    show HP.star P (Stars (L ++ L')) h ↔ HP.star (HP.star P (Stars L)) (Stars L') h
    rw [HP.star_assoc]
    exact ⟨HP.star_mono (fun _ y => y) fun _ y => ih.1 y, HP.star_mono (fun _ y => y) fun _ y => ih.2 y⟩
theorem Stars.mem {L : List HP} {P : HP} (hm : P ∈ L) {h : PH} (hh : Stars L h) : ∃ a, a.le h ∧ P a := by
  induction L generalizing h with
  | nil => cases hm
  | cons Q L ih =>
    obtain ⟨a, b, d, rfl, p, q⟩ := hh
    cases List.mem_cons.1 hm with
    | inl e => exact ⟨a, PH.le_un_l a b, e ▸ p⟩
    | inr e => obtain ⟨c, hc, pc⟩ := ih e q; exact ⟨c, PH.le_trans hc (PH.le_un_r d), pc⟩

/-! ### what stays as it is in all worlds of a call -/
structure Meta where
  os : Os
  tape : Nat → Question → Nat
  output : Array (Nat × ByteArray)
  drawn : Nat
/-- The streams are as they were; of the tape no less has been drawn. -/
def Meta.ok (m : Meta) (w : World) : Prop := w.os = m.os ∧ w.tape = m.tape ∧ w.output = m.output ∧ m.drawn ≤ w.drawn
def Meta.of (w : World) : Meta := ⟨w.os, w.tape, w.output, w.drawn⟩
theorem Meta.of_ok (w : World) : (Meta.of w).ok w := ⟨rfl, rfl, rfl, Nat.le_refl _⟩
theorem ask_drawn {α : Type} : ∀ (a : Ask α) (w : World), w.drawn ≤ (w.ask a).2.drawn
  | .done a, w => Nat.le_refl _
  | .ask what range k, w => by
    unfold World.ask
    simp only
    split
    · exact ask_drawn (k 0) w
    · exact Nat.le_trans (Nat.le_succ _) (ask_drawn (k _) { w with drawn := w.drawn + 1 })
theorem sys_drawn (w : World) (c : Sys) : w.drawn ≤ (w.sys c).2.drawn := by
  have := ask_drawn (Kernel.perform c w.os) w
  unfold World.sys
  split
  · exact Nat.le_refl _
  · rename_i h; rw [h] at this; exact this
theorem farStore_drawn {P : Program} {w w' : World} {a : Addr} {v : Value} {b : Bool} {l : List Addr} (h : w.farStore P a v b = .ok (w', l)) : w'.drawn = w.drawn := by
  unfold World.farStore at h
  split at h
  · split at h
    · rename_i hv
      cases h
      unfold World.viewStore at hv
      simp only [bind, Except.bind, pure, Except.pure] at hv
      repeat' (split at hv <;> try (cases hv; done))
      all_goals (first | (cases hv; rfl) | (split at hv <;> cases hv <;> rfl))
    · cases h
  · cases h
/-- A run draws; it takes no draw back. -/
theorem run_drawn {α : Type} {P : Program} : ∀ (s : Sem α) (w : World) (v : α) (w' : World), s.run P w = .ok v w' → w.drawn ≤ w'.drawn := by
  intro s
  induction s with
  | pure a => intro w v w' h; simp only [Sem.run, Result.ok.injEq] at h; rw [h.2]; exact Nat.le_refl _
  | load m a k ih =>
    intro w v w' h
    simp only [Sem.run] at h
    split at h
    · exact ih _ _ _ _ h
    · split at h
      · exact ih _ _ _ _ h
      · cases h
  | store m a u k ih =>
    intro w v w' h
    cases u
    case agg => simp only [Sem.run] at h; cases h
    case tuple => simp only [Sem.run] at h; cases h
    all_goals
      simp only [Sem.run] at h
      split at h
      · split at h
        · cases h
        · have := ih _ _ _ h; exact this
      · split at h
        · rename_i hf
          have := ih _ _ _ h
          have e := farStore_drawn hf
          omega
        · cases h
  | new o k ih => intro w v w' h; simp only [Sem.run] at h; have := ih _ _ _ _ h; exact this
  | shape r k ih => intro w v w' h; simp only [Sem.run] at h; exact ih _ _ _ _ h
  | freeze a n k ih =>
    intro w v w' h
    simp only [Sem.run] at h
    have := ih _ _ _ h
    unfold World.freeze at this
    split at this <;> exact this
  | frozen a k ih => intro w v w' h; simp only [Sem.run] at h; exact ih _ _ _ _ h
  | getObj r k ih =>
    intro w v w' h
    simp only [Sem.run] at h
    split at h
    · cases h
    · exact ih _ _ _ _ h
    · cases h
  | setObj r o k ih =>
    intro w v w' h
    simp only [Sem.run] at h
    split at h
    · cases h
    · have := ih _ _ _ h; exact this
    · cases h
  | choose q k ih =>
    intro w v w' h
    simp only [Sem.run] at h
    split at h
    · exact ih _ _ _ _ h
    · exact Nat.le_trans (Nat.le_succ _) (ih _ _ _ _ h)
  | sys c k ih => intro w v w' h; simp only [Sem.run] at h; exact Nat.le_trans (sys_drawn w c) (ih _ _ _ _ h)
  | program k ih => intro w v w' h; simp only [Sem.run] at h; exact ih _ _ _ _ h
  | mark m k ih => intro w v w' h; simp only [Sem.run] at h; exact ih _ _ _ h
  | halt h => intro w v w' h'; simp only [Sem.run] at h'; cases h'

/-- The world holds what the list says, part beside part, and maybe more. -/
def Sat (m : Meta) (L : List HP) (w : World) : Prop := m.ok w ∧ ∃ h, Stars L h ∧ h.le (wph w)

variable {m : Meta} {w w' : World} {L L' : List HP} {P Q : HP}

theorem Sat.perm (h : Sat m L w) (hp : L.Perm L') : Sat m L' w := by
  obtain ⟨h0, a, h1, h2⟩ := h
  exact ⟨h0, a, Stars.perm hp a h1, h2⟩
theorem Sat.drop (h : Sat m (P :: L) w) : Sat m L w := by
  obtain ⟨h0, a, ⟨x, y, d, rfl, _, q⟩, h2⟩ := h
  exact ⟨h0, y, q, PH.le_trans (PH.le_un_r d) h2⟩
theorem Sat.mono (h : Sat m (P :: L) w) (hp : ∀ h, P h → Q h) : Sat m (Q :: L) w := by
  obtain ⟨h0, a, h1, h2⟩ := h
  exact ⟨h0, a, HP.star_mono hp (fun _ y => y) h1, h2⟩
theorem Sat.of_star (h : Sat m (HP.star P Q :: L) w) : Sat m (P :: Q :: L) w := by
  obtain ⟨h0, a, h1, h2⟩ := h
  exact ⟨h0, a, HP.star_assoc.1 h1, h2⟩
theorem Sat.star (h : Sat m (P :: Q :: L) w) : Sat m (HP.star P Q :: L) w := by
  obtain ⟨h0, a, h1, h2⟩ := h
  exact ⟨h0, a, HP.star_assoc.2 h1, h2⟩
theorem Sat.of_stars (h : Sat m (Stars L :: L') w) : Sat m (L ++ L') w := by
  obtain ⟨h0, a, h1, h2⟩ := h
  exact ⟨h0, a, Stars.append.2 h1, h2⟩
theorem Sat.stars (h : Sat m (L ++ L') w) : Sat m (Stars L :: L') w := by
  obtain ⟨h0, a, h1, h2⟩ := h
  exact ⟨h0, a, Stars.append.1 h1, h2⟩
theorem Sat.of_ex {α : Sort _} {P : α → HP} (h : Sat m (HP.ex P :: L) w) : ∃ x, Sat m (P x :: L) w := by
  obtain ⟨h0, a, ⟨x, y, d, rfl, ⟨z, p⟩, q⟩, h2⟩ := h
  exact ⟨z, h0, _, ⟨x, y, d, rfl, p, q⟩, h2⟩
theorem Sat.ex {α : Sort _} {P : α → HP} (z : α) (h : Sat m (P z :: L) w) : Sat m (HP.ex P :: L) w :=
  h.mono fun _ p => ⟨z, p⟩
theorem Sat.of_pure {p : Prop} (h : Sat m (HP.pure p :: L) w) : p ∧ Sat m L w := by
  have h' := h.drop
  obtain ⟨h0, a, ⟨x, y, d, rfl, hp, q⟩, h2⟩ := h
  exact ⟨hp.1, h'⟩
theorem Sat.pure {p : Prop} (hp : p) (h : Sat m L w) : Sat m (HP.pure p :: L) w := by
  obtain ⟨h0, a, h1, h2⟩ := h
  exact ⟨h0, a, ⟨PH.nil, a, fun _ => .inl rfl, (PH.nil_un a).symm, ⟨hp, rfl⟩, h1⟩, h2⟩
theorem Sat.emp (h : Sat m L w) : Sat m (HP.emp :: L) w := by
  obtain ⟨h0, a, h1, h2⟩ := h
  exact ⟨h0, a, ⟨PH.nil, a, fun _ => .inl rfl, (PH.nil_un a).symm, rfl, h1⟩, h2⟩
theorem Sat.mem (h : Sat m L w) (hm : P ∈ L) : ∃ a, a.le (wph w) ∧ P a := by
  obtain ⟨h0, a, h1, h2⟩ := h
  obtain ⟨b, hb, pb⟩ := Stars.mem hm h1
  exact ⟨b, PH.le_trans hb h2, pb⟩
theorem Sat.head (h : Sat m (P :: L) w) : ∃ a, a.le (wph w) ∧ P a := h.mem (List.mem_cons_self ..)
theorem Sat.app (h : Sat m (L' ++ L) w) : Sat m L w := by
  obtain ⟨h0, a, h1, h2⟩ := h
  obtain ⟨x, y, d, rfl, _, q⟩ := Stars.append.1 h1
  exact ⟨h0, y, q, PH.le_trans (PH.le_un_r d) h2⟩
/-- Old blocks stay: so does what is known of them. -/
theorem Sat.same (h : Sat m L w) (hm : m.ok w') (hb : ∀ i, i < w.heap.size → w'.heap[i]? = w.heap[i]?) : Sat m L w' := by
  obtain ⟨h0, a, h1, h2⟩ := h
  refine ⟨hm, a, h1, fun i o e => ?_⟩
  have := h2 i o e
  have hi : i < w.heap.size := (Array.getElem?_eq_some_iff.1 this).1
  exact (hb i hi).trans this
theorem Sat.below (h : Sat m L w) (hb : Below w.heap.size w w') (hd : w.drawn ≤ w'.drawn) : Sat m L w' :=
  h.same ⟨hb.os.trans h.1.1, hb.tape.trans h.1.2.1, hb.output.trans h.1.2.2.1, Nat.le_trans h.1.2.2.2 hd⟩ hb.block
theorem Sat.drewN (h : Sat m L w) (n : Nat) : Sat m L (w.drewN n) := ⟨⟨h.1.1, h.1.2.1, h.1.2.2.1, Nat.le_trans h.1.2.2.2 (Nat.le_add_right _ _)⟩, h.2⟩
/-- New blocks: whatever lies in them comes to what was there. -/
theorem Sat.new {h' : PH} (h : Sat m L w) (hm : m.ok w') (hb : ∀ i, i < w.heap.size → w'.heap[i]? = w.heap[i]?)
    (hnew : ∀ i o, h' i = some o → w.heap.size ≤ i) (hle : h'.le (wph w')) (hp : P h') : Sat m (P :: L) w' := by
  obtain ⟨h0, a, h1, h2⟩ := h
  have ha : ∀ i o, a i = some o → i < w.heap.size := fun i o e => (Array.getElem?_eq_some_iff.1 (h2 i o e)).1
  refine ⟨hm, h'.un a, ⟨h', a, fun i => ?_, rfl, hp, h1⟩, PH.un_le hle fun i o e => ?_⟩
  · cases hi : h' i with
    | none => exact .inl rfl
    | some o =>
      refine .inr ?_
      cases hai : a i with
      | none => rfl
      | some o' => have := hnew i o hi; have := ha i o' hai; omega
  · exact (hb i (ha i o e)).trans (h2 i o e)
theorem Sat.below_new {h' : PH} (h : Sat m L w) (hb : Below w.heap.size w w') (hd : w.drawn ≤ w'.drawn) (hnew : ∀ i o, h' i = some o → w.heap.size ≤ i) (hle : h'.le (wph w')) (hp : P h') :
    Sat m (P :: L) w' :=
  h.new ⟨hb.os.trans h.1.1, hb.tape.trans h.1.2.1, hb.output.trans h.1.2.2.1, Nat.le_trans h.1.2.2.2 hd⟩ hb.block hnew hle hp
theorem Sat.alloc (h : Sat m L w) (o : Obj) : Sat m (HP.blk w.heap.size o :: L) (w.alloc o) := by
  refine h.new (h' := PH.one w.heap.size o) h.1 (fun i hi => ?_) (fun i o' e => ?_) (fun i o' e => ?_) rfl
  · exact Below.heap_alloc w o i hi
  · simp only [PH.one] at e
    split at e
    · omega
    · cases e
  · simp only [PH.one] at e
    split at e
    · rename_i hi; subst hi; show (w.heap.push o)[w.heap.size]? = _; simpa using e
    · cases e
theorem PH.one_le {b : Nat} {o : Obj} {h : PH} : (PH.one b o).le h ↔ h b = some o := by
  constructor
  · intro x; exact x b o (by simp [PH.one])
  · intro x i o' e; simp only [PH.one] at e; split at e <;> simp_all
theorem Sat.blk {b : Nat} {o : Obj} (h : Sat m L w) (hm : HP.blk b o ∈ L) : w.heap[b]? = some o := by
  obtain ⟨a, ha, rfl⟩ := h.mem hm
  exact PH.one_le.1 ha
/-- A block that is owned may be written. -/
theorem Sat.put {b : Nat} {o o' : Obj} (h : Sat m (HP.blk b o :: L) w) (hm : m.ok w') (hb : w'.heap[b]? = some o') (hs : ∀ i, i ≠ b → w'.heap[i]? = w.heap[i]?) : Sat m (HP.blk b o' :: L) w' := by
  obtain ⟨h0, a, ⟨x, y, d, rfl, rfl, q⟩, h2⟩ := h
  have hy : y b = none := by have := d b; simp [PH.one] at this; exact this
  refine ⟨hm, (PH.one b o').un y, ⟨_, y, fun i => ?_, rfl, rfl, q⟩, PH.un_le (PH.one_le.2 hb) fun i o'' e => ?_⟩
  · by_cases hi : i = b
    · subst hi; exact .inr hy
    · exact .inl (by simp [PH.one, hi])
  · have hne : i ≠ b := fun hi => by subst hi; rw [hy] at e; cases e
    exact (hs i hne).trans (PH.le_trans (PH.le_un_r d) h2 i o'' e)
theorem Sat.ne {b b' : Nat} {o o' : Obj} (h : Sat m (HP.blk b o :: HP.blk b' o' :: L) w) : b ≠ b' := by
  obtain ⟨h0, a, ⟨x, y, d, rfl, rfl, ⟨z, u, d', rfl, rfl, q⟩⟩, h2⟩ := h
  rintro rfl
  have := d b
  simp [PH.one, PH.un] at this

/-! ### picking out of the list -/
def pickL (L : List HP) (is : List Nat) : List HP := is.filterMap (L[·]?) ++ (L.zipIdx.filter fun p => !is.contains p.2).map (·.1)
theorem filterMap_congr' {α β : Type _} {f g : α → Option β} {l : List α} (h : ∀ a, a ∈ l → f a = g a) : l.filterMap f = l.filterMap g := by
  induction l with
  | nil => rfl
  | cons x l ih => rw [List.filterMap_cons, List.filterMap_cons, h x (by simp), ih fun a ha => h a (by simp [ha])]
theorem filterMap_get_perm {α : Type _} (L : List α) (is : List Nat) (hn : is.Nodup) (k : Nat) :
    ((is.filterMap fun i => if k ≤ i then L[i - k]? else none) ++ ((L.zipIdx k).filter fun p => !is.contains p.2).map (·.1)).Perm L := by
  induction L generalizing k with
  | nil => simp
  | cons x L ih =>
    have ih' := ih (k + 1)
    by_cases hk : k ∈ is
    · obtain ⟨l1, l2, rfl⟩ := List.append_of_mem hk
      have hk1 : k ∉ l1 := fun h => by
        have := (List.nodup_append.1 hn).2.2 k h k (by simp); exact this rfl
      have hk2 : k ∉ l2 := fun h => by
        have := (List.nodup_cons.1 (List.nodup_append.1 hn).2.1).1; exact this h
      have e1 : ∀ l : List Nat, k ∉ l → (l.filterMap fun i => if k ≤ i then (x :: L)[i - k]? else none) = l.filterMap fun i => if k + 1 ≤ i then L[i - (k + 1)]? else none := by
        intro l hl
        apply filterMap_congr'
        intro i hi
        have hne : i ≠ k := fun h => hl (h ▸ hi)
        by_cases h1 : k ≤ i
        · rw [if_pos h1, if_pos (by omega), show i - k = (i - (k + 1)) + 1 by omega, List.getElem?_cons_succ]
        · rw [if_neg h1, if_neg (by omega)]
      have e0 : (List.filterMap (fun i => if k ≤ i then (x :: L)[i - k]? else none) (k :: l2)) = x :: l2.filterMap fun i => if k + 1 ≤ i then L[i - (k + 1)]? else none := by
        rw [List.filterMap_cons]; simp only [Nat.le_refl, if_true, Nat.sub_self, List.getElem?_cons_zero]; rw [e1 l2 hk2]
      have e2 : (List.filterMap (fun i => if k + 1 ≤ i then L[i - (k + 1)]? else none) (k :: l2)) = l2.filterMap fun i => if k + 1 ≤ i then L[i - (k + 1)]? else none := by
        rw [List.filterMap_cons]; simp [show ¬ (k + 1 ≤ k) by omega]
      rw [List.filterMap_append, e1 l1 hk1, e0]
      rw [List.filterMap_append, e2] at ih'
      rw [List.zipIdx_cons, List.filter_cons]
      simp only [List.contains_eq_mem, List.mem_append, List.mem_cons, true_or, or_true, decide_true, Bool.not_true, Bool.false_eq_true, if_false]
      simp only [List.contains_eq_mem] at ih'
      refine List.Perm.trans ?_ (List.Perm.cons x ih')
      rw [List.append_assoc, List.cons_append, List.append_assoc]
      refine List.Perm.trans List.perm_middle ?_
      simp only [List.mem_append, List.mem_cons]
      exact List.Perm.refl _
    · have e1 : (is.filterMap fun i => if k ≤ i then (x :: L)[i - k]? else none) = is.filterMap fun i => if k + 1 ≤ i then L[i - (k + 1)]? else none := by
        apply filterMap_congr'
        intro i hi
        have hne : i ≠ k := fun h => hk (h ▸ hi)
        by_cases h1 : k ≤ i
        · rw [if_pos h1, if_pos (by omega), show i - k = (i - (k + 1)) + 1 by omega, List.getElem?_cons_succ]
        · rw [if_neg h1, if_neg (by omega)]
      rw [e1, List.zipIdx_cons, List.filter_cons]
      simp only [List.contains_eq_mem, hk, decide_false, Bool.not_false, if_true, List.map_cons]
      simp only [List.contains_eq_mem] at ih'
      exact List.Perm.trans List.perm_middle (List.Perm.cons x ih')
theorem pickL_perm (L : List HP) (is : List Nat) (hn : is.Nodup) : L.Perm (pickL L is) := by
  have := filterMap_get_perm L is hn 0
  simp only [Nat.zero_le, if_true, Nat.sub_zero] at this
  exact this.symm
theorem Sat.pick (h : Sat m L w) (is : List Nat) (hn : is.Nodup := by decide) : Sat m (pickL L is) w := h.perm (pickL_perm L is hn)
end Go.Proofs.Ytkpkehfoilchaaa
