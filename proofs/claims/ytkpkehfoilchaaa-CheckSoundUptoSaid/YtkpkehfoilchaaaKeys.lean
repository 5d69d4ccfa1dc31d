/- The keys of a map, in order: the library's contracts on parts of one's own. -/
import Derived.Test.YtkpkehfoilchaaaCk16
namespace Go.Proofs.Ytkpkehfoilchaaa
open Go.RowKit Go.Shelf Go.Maps
set_option linter.unusedSimpArgs false
set_option linter.unusedVariables false
set_option maxHeartbeats 1000000
variable {m : Meta} {L : List HP}
/-- Nothing is asked of the draws. -/
class M0 (m : Meta) : Prop where z : m.drawn = 0
theorem own_of_new0 [hz : M0 m] {e : TypeId} {size : Nat} {v : Value} {k : Nat} {xs : List Value} {w w' : World} (h : Sat m L w) (hb : Below w.heap.size w w') (hr : w'.ownsRow w.heap.size e size v k xs) : Sat m (HP.own e size v k xs :: L) w' := by
  have hm : m.ok w' := ⟨hb.os.trans h.1.1, hb.tape.trans h.1.2.1, hb.output.trans h.1.2.2.1, by rw [hz.z]; exact Nat.zero_le _⟩
  obtain ⟨hl, ⟨rfl, rfl⟩ | ⟨g, cap, cur, rfl, hge, hg', h1, h2', h3, h4⟩⟩ := hr
  · exact h.new (h' := PH.nil) hm hb.block (fun _ _ e => by cases e) (fun _ _ e => by cases e) ⟨hl, .inl ⟨rfl, rfl, rfl⟩⟩
  · refine h.new (h' := PH.one g (.cells cur e (0, 0))) hm hb.block (fun i o e => ?_) (PH.one_le.2 hg') ⟨hl, .inr ⟨g, cap, cur, rfl, rfl, h1, h2', h3, h4⟩⟩
    simp only [PH.one] at e
    split at e
    · omega
    · cases e
def keysF (D : List (Int × Value)) : List Int := (D.map (·.1)).mergeSort fun x y => decide (x ≤ y)
theorem keysF_mem (D : List (Int × Value)) (k : Int) : k ∈ keysF D ↔ k ∈ D.map (·.1) := (List.mergeSort_perm _ _).mem_iff
theorem keysF_len (D : List (Int × Value)) : (keysF D).length = D.length := by unfold keysF; rw [List.length_mergeSort]; simp
abbrev R0 : Value → Option (DataW Unit × List MemPlace) := fun _ => some (.nil, [])
theorem imap_owns {P : Program} {kt : TypeId} (hk : P.underlying kt = some (.int .i64)) {b : Nat} {D : List (Int × Value)} (hr : ∀ x ∈ D, -9223372036854775808 ≤ x.1 ∧ x.1 ≤ 9223372036854775807) (hl : D.length ≤ 16777216) {w : World} (h : Sat m L w) (hm : HP.imap b .i64 D ∈ L) :
    ∃ D0 : DataW Unit, w.ownsMap P kt R0 b D.length D0 ∧ (intKeys D0).Perm (D.map (·.1)) ∧ Maps.size D0 = D.length := by
  obtain ⟨es, clock, hb, ok⟩ := imap_at h hm
  have hlen : es.size = D.length := by simpa using congrArg List.length ok.reads
  have hkey : ∀ x ∈ es.toList, ∃ a : Int, x.key = .int .i64 a ∧ keyOf P kt x.key = some (.int .i64 a) := fun x hx => by
    obtain ⟨p, hp, e, _⟩ := ok.at hx
    refine ⟨p.1, e, ?_⟩
    rw [e]
    refine keyOf_int_mk hk ?_
    have := hr p hp
    simp [Lit.wf, IntKind.min, IntKind.max, IntKind.bits, IntKind.signed]
    omega
  refine ⟨_, ⟨es, clock, hb, ⟨by rw [hlen]; simp only [maxLen]; omega, ⟨ok.old, ok.born, ?_⟩, ?_⟩, by omega, rfl⟩, ?_, ?_⟩
  · have hk2 : es.toList.map (·.key) = D.map fun p => Value.int .i64 p.1 := by
      have := congrArg (List.map Prod.fst) ok.reads
      simpa [List.map_map, Function.comp_def] using this
    rw [hk2, show (D.map fun p => Value.int .i64 p.1) = (D.map (·.1)).map (Value.int .i64) by simp [List.map_map, Function.comp_def]]
    exact List.Pairwise.map _ (fun a b h e => h (by cases e; rfl)) ok.nodup
  · intro x hx
    obtain ⟨a, _, h2⟩ := hkey x hx
    exact ⟨(.int .i64 a, .nil), by simp [WideElems.rd, h2]⟩
  · simp only [intKeys]
    refine ((Go.WideShapes.sorted_perm _).map _).trans ?_
    rw [List.map_map]
    have e1 : es.toList.map ((fun p : Lit × DataW Unit => Go.intOf p.1) ∘ WideElems.rg P kt R0) = es.toList.map fun x => match x.key with | .int _ a => a | _ => 0 := by
      apply List.map_congr_left
      intro x hx
      obtain ⟨a, h1, h2⟩ := hkey x hx
      simp [WideElems.rg, WideElems.rd, h1 ▸ h2, h1, Go.intOf]
    rw [e1]
    have e2 : (es.toList.map fun x => match x.key with | .int _ a => a | _ => 0) = (es.toList.map fun e => (e.key, e.val)).map fun p => match p.1 with | .int _ a => a | _ => 0 := by simp [List.map_map, Function.comp_def]
    rw [e2, ok.reads]
    simp [List.map_map, Function.comp_def]
  · simp only [Maps.size, length_read, hlen]
theorem sorts64 (k : Nat) : AnyZI.SortsIn Try.prog Go.Proofs.Try.sorted_int64_ren Fence.wide k :=
  ⟨fun blk off cap ss W hH hblk hsz => callsIn_wide.2 (AnyM.slices_Sort_int Go.Proofs.Try.sort_int64 blk off cap ss W hH hblk hsz),
   fun p cap W => callsIn_wide.2 (AnyM.slices_Sort_int_none Go.Proofs.Try.sort_int64 p cap W)⟩
theorem keys_tri (mb : Nat) : Tri Try.prog m 34 #[.map (some mb)] L
    fun v w => ∃ bk : Nat, v = .func (.func 49) #[] #[.pointer (some ⟨bk, 0, none⟩)] ∧ True ∧ Sat m (HP.cells bk 52 [.map (some mb)] :: L) w := fun w hw => by
  refine Calls.mono (callsIn_wide.1 (AnyZI.keys_in Go.Proofs.Try.keys_int64_held Fence.wide 5 trivial rfl (some mb) w)) ?_
  rintro e w' ⟨rfl, rfl⟩
  exact ⟨_, rfl, w.heap.size, rfl, trivial, hw.alloc _⟩
theorem sorted_tri [M0 m] (bk mb : Nat) (D : List (Int × Value)) (hr : ∀ x ∈ D, -9223372036854775808 ≤ x.1 ∧ x.1 ≤ 9223372036854775807) (hl : D.length ≤ 16777216) :
    Tri Try.prog m 33 #[.func (.func 49) #[] #[.pointer (some ⟨bk, 0, none⟩)]] (HP.cells bk 52 [.map (some mb)] :: HP.imap mb .i64 D :: L)
      fun v w => ∃ x : Option Addr × Nat, v = .slice x.1 (keysF D).length x.2 ∧ True ∧ Sat m (HP.own 2 1 (.slice x.1 (keysF D).length x.2) (keysF D).length (i64s (keysF D)) :: HP.cells bk 52 [.map (some mb)] :: HP.imap mb .i64 D :: L) w := fun w hw => by
  have hb := hw.blk (List.mem_cons_self ..)
  have hlt : bk < w.heap.size := (Array.getElem?_eq_some_iff.1 hb).1
  obtain ⟨D0, hown, hperm, hsz⟩ := imap_owns (P := Try.prog) (kt := 2) (by kernel_rfl) hr hl hw (List.mem_cons_of_mem _ (List.mem_cons_self ..))
  have hseq : SeqGives Fence.wide 2 Try.prog 49 #[.pointer (some ⟨bk, 0, none⟩)] encZ (fun ss => ss.Perm (intKeys D0)) (Maps.size D0) w :=
    AnyZI.keys_gives (ρ := Go.Proofs.Try.keys_int64_held_ren) { Go.Proofs.Try.keys_int64_held with } Fence.wide _ trivial rfl (by omega) bk mb D.length D0 w hlt (by simp [World.cell?, hb]) hown
  have cS := AnyZI.sorted_in Go.Proofs.Try.sorted_int64 Fence.wide 5 trivial trivial trivial trivial rfl (by omega) (sorts64 _) (fun args w => (inferInstance : TFunc Try.prog 48).enters args w) 49 #[.pointer (some ⟨bk, 0, none⟩)] trivial
    (fun args w => (inferInstance : TFunc Try.prog 49).enters args w) _ _ (by rw [hsz]; simp only [maxLen]; omega) (by rw [hsz]; omega) w hseq
  refine Calls.mono (callsIn_wide.1 cS) ?_
  rintro e w' ⟨v, ss, rfl, hp, hrow, _, hbel⟩
  have e1 : ss.mergeSort (fun x y => decide (x ≤ y)) = keysF D := mergeSort_of_perm_i (hp.trans hperm)
  have e2 : ss.length = (keysF D).length := by rw [← e1, List.length_mergeSort]
  rw [e1, e2] at hrow
  have h2 := own_of_new0 hw hbel hrow
  obtain ⟨A', c', rfl⟩ := own_slice' h2
  exact ⟨_, rfl, (A', c'), rfl, trivial, h2⟩
end Go.Proofs.Ytkpkehfoilchaaa
