/- Going through a map. -/
import Derived.Test.YtkpkehfoilchaaaDef
import Derived.Maps.RangeRun
namespace Go.Proofs.Ytkpkehfoilchaaa
open Go.RowKit
open Go.ChangeMaps (setBlock)
variable {P : Program} {ops : Array Oper} {m : Meta} {L L' : List HP} {Q : Exit → Act → World → Prop} {n : Nat} {f : Env} {ds : List Deferred} {rest : List Oper} {ρ : Operand → Value}
  {d : Option Tmp} {ty : TypeId} {pos : String} {aft : Array Edge} {g : Option (Nat × Bool)}
theorem nodup_map_inj {α β : Type _} {g : α → β} : ∀ {l : List α}, (l.map g).Nodup → ∀ {a b : α}, a ∈ l → b ∈ l → g a = g b → a = b
  | [], _, _, _, h, _, _ => by simp at h
  | x :: l, hn, a, b, ha, hb, e => by
    have hn' := List.nodup_cons.1 (by simpa using hn : (g x :: l.map g).Nodup)
    rcases List.mem_cons.1 ha with ha1 | ha1
    · rcases List.mem_cons.1 hb with hb1 | hb1
      · rw [ha1, hb1]
      · exact absurd (by rw [← ha1, e]; exact List.mem_map_of_mem hb1) hn'.1
    · rcases List.mem_cons.1 hb with hb1 | hb1
      · exact absurd (by rw [← hb1, ← e]; exact List.mem_map_of_mem ha1) hn'.1
      · exact nodup_map_inj hn'.2 ha1 hb1 e
/-- What an iterator has handed out: S, the last one first. -/
structure IterOk (kk : IntKind) (D : List (Int × Value)) (S : List Int) (es : Array MapEntry) (clock since : Nat) (seen : Array Nat) : Prop where
  map : MapOk kk D es.toList clock
  hold : ∀ e ∈ es.toList, e.born < since
  since : since ≤ clock
  met : ∀ e ∈ es.toList, ∀ k, e.key = .int kk k → (seen.contains e.born = true ↔ k ∈ S)
  last : ∀ k S', S = k :: S' → ∃ (seen' : Array Nat) (e : MapEntry), seen = seen'.push e.born ∧ e ∈ es.toList ∧ e.key = .int kk k
/-- A map that is gone through, and its iterator. -/
def HP.iter (b r : Nat) (kk : IntKind) (D : List (Int × Value)) (S : List Int) : HP := HP.ex fun es : Array MapEntry => HP.ex fun clock : Nat => HP.ex fun since : Nat => HP.ex fun seen : Array Nat =>
  HP.star (HP.pure (IterOk kk D S es clock since seen)) (HP.star (HP.blk b (.map es clock)) (HP.blk r (.mapIter (some b) since seen clock)))
theorem Sat.imap_open {w : World} {b : Nat} {kk : IntKind} {D : List (Int × Value)} (h : Sat m (HP.imap b kk D :: L) w) : ∃ es clock, MapOk kk D es.toList clock ∧ Sat m (HP.blk b (.map es clock) :: L) w := by
  obtain ⟨hm, h, ⟨x, y, dj, rfl, ⟨es, clock, rfl, ok⟩, hy⟩, hle⟩ := h
  exact ⟨es, clock, ok, hm, _, ⟨_, y, dj, rfl, rfl, hy⟩, hle⟩
theorem Sat.imap_close {w : World} {b : Nat} {kk : IntKind} {D : List (Int × Value)} {es : Array MapEntry} {clock : Nat} (ok : MapOk kk D es.toList clock) (h : Sat m (HP.blk b (.map es clock) :: L) w) : Sat m (HP.imap b kk D :: L) w :=
  h.mono fun _ e => ⟨es, clock, e, ok⟩
theorem Sat.iter_open {w : World} {b r : Nat} {kk : IntKind} {D : List (Int × Value)} {S : List Int} (h : Sat m (HP.iter b r kk D S :: L) w) : ∃ es clock since seen, IterOk kk D S es clock since seen ∧ Sat m (HP.blk b (.map es clock) :: HP.blk r (.mapIter (some b) since seen clock) :: L) w := by
  obtain ⟨es, h⟩ := h.of_ex
  obtain ⟨clock, h⟩ := h.of_ex
  obtain ⟨since, h⟩ := h.of_ex
  obtain ⟨seen, h⟩ := h.of_ex
  have := h.of_star.of_pure
  exact ⟨es, clock, since, seen, this.1, this.2.of_star⟩
theorem Sat.iter_close {w : World} {b r : Nat} {kk : IntKind} {D : List (Int × Value)} {S : List Int} {es : Array MapEntry} {clock since : Nat} {seen : Array Nat} (ok : IterOk kk D S es clock since seen)
    (h : Sat m (HP.blk b (.map es clock) :: HP.blk r (.mapIter (some b) since seen clock) :: L) w) : Sat m (HP.iter b r kk D S :: L) w :=
  Sat.ex es (Sat.ex clock (Sat.ex since (Sat.ex seen (Sat.star (Sat.pure ok (Sat.star h))))))
/-- The loop is over: the map alone. -/
theorem Sat.iter_end {w : World} {b r : Nat} {kk : IntKind} {D : List (Int × Value)} {S : List Int} (h : Sat m (HP.iter b r kk D S :: L) w) : Sat m (HP.imap b kk D :: L) w := by
  obtain ⟨es, clock, since, seen, ok, h⟩ := h.iter_open
  exact ((h.front 1 rfl).drop).imap_close ok.map
theorem wl_range {t kt et : TypeId} {kk : IntKind} [ht : TMap P t kt et] {x : Operand} {b : Nat} {D : List (Int × Value)} (k0 : Nat) (hk0 : L[k0]? = some (HP.imap b kk D))
    (hx : (acts n f ds).eval x = .map (some b)) (c : ∀ r, WL P ops m (L.set k0 (HP.iter b r kk D [])) Q rest n (updO f d (.pointer (some ⟨r, 0, none⟩))) ds) :
    WL P ops m L Q (⟨d, .range t x, ty, pos, aft, none⟩ :: rest) n f ds :=
  wl_upon (Kv := fun v w => ∃ r, v = .pointer (some ⟨r, 0, none⟩) ∧ Sat m (L.set k0 (HP.iter b r kk D [])) w) (fun w hw => by
    obtain ⟨es, clock, ok, h⟩ := (hw.front k0 hk0).imap_open
    have hb := h.blk (List.mem_cons_self ..)
    have hr := run_range_map (P := P) w t kt et b es clock ht.is hb
    have hs := (h.alloc (.mapIter (some b) clock #[] clock)).front 1 rfl
    have hi : Sat m (HP.iter b w.heap.size kk D [] :: L.eraseIdx k0) (w.alloc (.mapIter (some b) clock #[] clock)) := hs.iter_close ⟨ok, ok.old, Nat.le_refl _, by simp, by simp⟩
    simp only [execOp, hx, Sem.run_bind, hr, Result.andThen_ok, Sem.run_pure, uponV]
    exact ⟨_, rfl, Sat.back k0 (List.getElem?_eq_some_iff.1 hk0).1 hi⟩) fun v w ⟨r, e, h⟩ => by subst e; exact c r w h
theorem MapOk.at {kk : IntKind} {D : List (Int × Value)} {es : List MapEntry} {clock : Nat} (ok : MapOk kk D es clock) {e : MapEntry} (he : e ∈ es) : ∃ p ∈ D, e.key = .int kk p.1 ∧ e.val = p.2 := by
  have : (e.key, e.val) ∈ es.map (fun e => (e.key, e.val)) := List.mem_map_of_mem (f := fun e : MapEntry => (e.key, e.val)) he
  rw [ok.reads] at this
  obtain ⟨p, hp, e'⟩ := List.mem_map.1 this
  simp only [Prod.mk.injEq] at e'
  exact ⟨p, hp, e'.1.symm, e'.2.symm⟩
theorem MapOk.back {kk : IntKind} {D : List (Int × Value)} {es : List MapEntry} {clock : Nat} (ok : MapOk kk D es clock) {p : Int × Value} (hp : p ∈ D) : ∃ e ∈ es, e.key = .int kk p.1 ∧ e.val = p.2 := by
  have : (Value.int kk p.1, p.2) ∈ es.map (fun e => (e.key, e.val)) := by rw [ok.reads]; exact List.mem_map_of_mem (f := fun p : Int × Value => (Value.int kk p.1, p.2)) hp
  obtain ⟨e, he, e'⟩ := List.mem_map.1 this
  simp only [Prod.mk.injEq] at e'
  exact ⟨e, he, e'.1, e'.2⟩
theorem MapOk.inj {kk : IntKind} {D : List (Int × Value)} {es : List MapEntry} {clock : Nat} (ok : MapOk kk D es clock) {e e' : MapEntry} (he : e ∈ es) (he' : e' ∈ es) : e.key = e'.key ↔ e.born = e'.born := by
  have hk : (es.map (·.key)).Nodup := by
    have : es.map (·.key) = D.map fun p => Value.int kk p.1 := by
      have := congrArg (List.map Prod.fst) ok.reads
      simpa [List.map_map, Function.comp_def] using this
    rw [this, show (D.map fun p => Value.int kk p.1) = (D.map (·.1)).map (Value.int kk) by simp [List.map_map, Function.comp_def]]
    exact List.Pairwise.map _ (fun a b h e => h (by cases e; rfl)) ok.nodup
  exact ⟨fun h => by rw [nodup_map_inj hk he he' h], fun h => by rw [nodup_map_inj ok.born he he' h]⟩
theorem wl_next {x : Operand} {b r : Nat} {kk : IntKind} {D : List (Int × Value)} {S : List Int} (k0 : Nat) (hk0 : L[k0]? = some (HP.iter b r kk D S)) (hx : (acts n f ds).eval x = .pointer (some ⟨r, 0, none⟩))
    (c0 : (∀ p ∈ D, p.1 ∈ S) → WL P ops m L Q rest n (updO f d (.tuple #[.bool false])) ds)
    (c1 : ∀ p ∈ D, p.1 ∉ S → WL P ops m (L.set k0 (HP.iter b r kk D (p.1 :: S))) Q rest n (updO f d (.tuple #[.bool true, .int kk p.1, p.2])) ds) :
    WL P ops m L Q (⟨d, .next x false, ty, pos, aft, none⟩ :: rest) n f ds :=
  wl_upon (Kv := fun v w => (v = .tuple #[.bool false] ∧ (∀ p ∈ D, p.1 ∈ S) ∧ Sat m L w) ∨ ∃ p ∈ D, p.1 ∉ S ∧ v = .tuple #[.bool true, .int kk p.1, p.2] ∧ Sat m (L.set k0 (HP.iter b r kk D (p.1 :: S))) w) (fun w hw => by
    obtain ⟨es, clock, since, seen, ok, h⟩ := (hw.front k0 hk0).iter_open
    have hb := h.blk (List.mem_cons_self ..)
    have hr := h.blk (List.mem_cons_of_mem _ (List.mem_cons_self ..))
    rcases run_next_at (P := P) w ty r b since clock seen es clock hr hb ok.hold ok.since with ⟨h0, hrun⟩ | ⟨e, he, w1, hal, hrun⟩
    · simp only [execOp, hx, Sem.run_bind, hrun, Result.andThen_ok, Sem.run_pure, uponV]
      refine .inl ⟨trivial, fun p hp => ?_, hw⟩
      obtain ⟨e, he, hk, _⟩ := ok.map.back hp
      have : leftOf es seen = #[] := Array.eq_empty_of_size_eq_zero h0
      unfold leftOf at this
      rw [Array.filter_eq_empty_iff] at this
      have := this e (by simpa using he)
      exact (ok.met e he _ hk).1 (by simpa using this)
    · simp only [execOp, hx, Sem.run_bind, hrun, Result.andThen_ok, Sem.run_pure, uponV]
      have he' : e ∈ es.toList ∧ seen.contains e.born = false := by
        unfold leftOf at he
        simp only [Array.toList_filter, List.mem_filter, Bool.not_eq_true'] at he
        exact he
      obtain ⟨p, hp, hk, hv⟩ := ok.map.at he'.1
      refine .inr ⟨p, hp, fun hs => ?_, by rw [hk, hv], ?_⟩
      · have := (ok.met e he'.1 _ hk).2 hs
        rw [he'.2] at this; simp at this
      · refine Sat.back k0 (List.getElem?_eq_some_iff.1 hk0).1 ?_
        have h1 : Sat m (HP.blk r (.mapIter (some b) since seen clock) :: HP.blk b (.map es clock) :: L.eraseIdx k0) w1 := by
          rcases hal with rfl | rfl
          · exact h.front 1 rfl
          · exact (h.front 1 rfl).drewN 1
        have h2 : Sat m (HP.blk r (.mapIter (some b) since (seen.push e.born) clock) :: HP.blk b (.map es clock) :: L.eraseIdx k0) (setBlock w1 r (.mapIter (some b) since (seen.push e.born) clock)) := by
          refine h1.put h1.1 ?_ ?_
          · have := h1.blk (List.mem_cons_self ..)
            have hlt := (Array.getElem?_eq_some_iff.1 this).1
            simp [setBlock, hlt]
          · intro i hi
            simp [setBlock, Ne.symm hi]
        refine (h2.front 1 rfl).iter_close ⟨ok.map, ok.hold, ok.since, ?_, ?_⟩
        · intro e1 he1 k hk1
          have hkk : e1.born = e.born ↔ k = p.1 := by
            rw [← ok.map.inj he1 he'.1, hk1, hk]
            simp
          have := ok.met e1 he1 k hk1
          simp only [Array.contains_iff_mem, Array.mem_push] at this ⊢
          rw [this, hkk, List.mem_cons]
          exact Or.comm
        · rintro k S' h'
          simp only [List.cons.injEq] at h'
          exact ⟨seen, e, rfl, he'.1, by rw [hk, h'.1]⟩) fun v w h => by
    rcases h with ⟨rfl, h1, h2⟩ | ⟨p, hp, hS, rfl, h2⟩
    · exact c0 h1 w h2
    · exact c1 p hp hS w h2
theorem rd_entry {x : Operand} {b r : Nat} {kk : IntKind} {D : List (Int × Value)} {S : List Int} {p : Int × Value} (k0 : Nat) (hk0 : L[k0]? = some (HP.iter b r kk D (p.1 :: S))) (hp : p ∈ D) (hx : ρ x = .pointer (some ⟨r, 0, none⟩)) :
    Reads P m L (execOp ρ ⟨d, .entry x, ty, pos, aft, g⟩) (.tuple #[.int kk p.1, p.2]) := fun w hw => by
  obtain ⟨es, clock, since, seen, ok, h⟩ := (hw.front k0 hk0).iter_open
  have hb := h.blk (List.mem_cons_self ..)
  have hr := h.blk (List.mem_cons_of_mem _ (List.mem_cons_self ..))
  obtain ⟨seen', e, rfl, he, hk⟩ := ok.last _ _ rfl
  have := run_entry_at (P := P) w r b since seen' es clock e hr hb he ok.map.born
  obtain ⟨e', he', hk', hv'⟩ := ok.map.back hp
  have hbb : e.born = e'.born := (ok.map.inj he he').1 (by rw [hk, hk'])
  have hee : e.val = p.2 := by
    obtain ⟨p', hp', h1, h2⟩ := ok.map.at he
    rw [hk] at h1
    have h3 : p.1 = p'.1 := by cases p; cases p'; simpa using h1
    have h4 : p' = p := (nodup_map_inj ok.map.nodup hp hp' h3).symm
    rw [h2, h4]
  simp only [execOp, hx, Sem.run_bind, this, Result.andThen_ok, Sem.run_pure, hk, hee]
theorem rd_lookupOkS {t kt et : TypeId} {kk : IntKind} {z v : Value} [ht : TMap P t kt et] [hk : TInt P kt kk] [hz : TZero P et z] {x y : Operand} {b : Nat} {k : Int} {D : List (Int × Value)} (k0 : Nat) (hk0 : L[k0]? = some (HP.imap b kk D)) (ha : alook D k = some v)
    (hx : ρ x = .map (some b)) (hy : ρ y = .int kk k) : Reads P m L (execOp ρ ⟨d, .lookup t x y true, ty, pos, aft, g⟩) (.tuple #[v, .bool true]) := by
  have := rd_lookupOk (P := P) (m := m) (d := d) (ty := ty) (pos := pos) (aft := aft) (g := g) (t := t) (kt := kt) k0 hk0 hx hy
  rwa [ha] at this
theorem rd_lookupOkN {t kt et : TypeId} {kk : IntKind} {z : Value} [ht : TMap P t kt et] [hk : TInt P kt kk] [hz : TZero P et z] {x y : Operand} {b : Nat} {k : Int} {D : List (Int × Value)} (k0 : Nat) (hk0 : L[k0]? = some (HP.imap b kk D)) (ha : alook D k = none)
    (hx : ρ x = .map (some b)) (hy : ρ y = .int kk k) : Reads P m L (execOp ρ ⟨d, .lookup t x y true, ty, pos, aft, g⟩) (.tuple #[z, .bool false]) := by
  have := rd_lookupOk (P := P) (m := m) (d := d) (ty := ty) (pos := pos) (aft := aft) (g := g) (t := t) (kt := kt) k0 hk0 hx hy
  rwa [ha] at this
theorem rd_lookupS {t kt et : TypeId} {kk : IntKind} {z v : Value} [ht : TMap P t kt et] [hk : TInt P kt kk] [hz : TZero P et z] {x y : Operand} {b : Nat} {k : Int} {D : List (Int × Value)} (k0 : Nat) (hk0 : L[k0]? = some (HP.imap b kk D)) (ha : alook D k = some v)
    (hx : ρ x = .map (some b)) (hy : ρ y = .int kk k) : Reads P m L (execOp ρ ⟨d, .lookup t x y false, ty, pos, aft, g⟩) v := by
  have := rd_lookup (P := P) (m := m) (d := d) (ty := ty) (pos := pos) (aft := aft) (g := g) (t := t) (kt := kt) k0 hk0 hx hy
  rwa [ha] at this
theorem rd_lookupN {t kt et : TypeId} {kk : IntKind} {z : Value} [ht : TMap P t kt et] [hk : TInt P kt kk] [hz : TZero P et z] {x y : Operand} {b : Nat} {k : Int} {D : List (Int × Value)} (k0 : Nat) (hk0 : L[k0]? = some (HP.imap b kk D)) (ha : alook D k = none)
    (hx : ρ x = .map (some b)) (hy : ρ y = .int kk k) : Reads P m L (execOp ρ ⟨d, .lookup t x y false, ty, pos, aft, g⟩) z := by
  have := rd_lookup (P := P) (m := m) (d := d) (ty := ty) (pos := pos) (aft := aft) (g := g) (t := t) (kt := kt) k0 hk0 hx hy
  rwa [ha] at this
end Go.Proofs.Ytkpkehfoilchaaa
