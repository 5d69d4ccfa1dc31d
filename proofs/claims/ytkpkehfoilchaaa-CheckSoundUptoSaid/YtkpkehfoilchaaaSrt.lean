/- Sorting of literals: the library's sort as a contract on a row of one's own. -/
import Derived.Test.YtkpkehfoilchaaaCk12
import Derived.Test.YtkpkehfoilchaaaLay
import Derived.Shelf.SlSortCmp.NoneTotal
namespace Go.Proofs.Ytkpkehfoilchaaa
open Go.RowKit Go.Sort Go.Shelf
set_option linter.unusedSimpArgs false
set_option linter.unusedVariables false
set_option maxHeartbeats 1000000
variable {m : Meta} {L : List HP}
/-! ### the row behind a sort -/
theorem Sat.sortWorld {α : Type} [Inhabited α] {enc : α → Value} {e blk n cap k : Nat} {xs : List Value} {d' : Array α} {os : Array Obj} {w : World} (h : Sat m (HP.own e 1 (.slice (some ⟨blk, 0, none⟩) n cap) n xs :: L) w) (hd : d'.size = n) :
    Sat m (HP.own e 1 (.slice (some ⟨blk, 0, none⟩) n cap) n (d'.toList.map enc) :: L) (sortWorld enc w blk 0 k d' os) := by
  obtain ⟨h0, a, ⟨x, y, dj, rfl, ⟨hl, ⟨hn, _, _⟩ | ⟨g', cap', cur, hv, rfl, h1, h2, h3, h4⟩⟩, hy⟩, hle⟩ := h
  · cases hn
  · cases hv
    have hg : w.heap[blk]? = some (.cells cur e (0, 0)) := PH.one_le.1 (PH.le_trans (PH.le_un_l _ _) hle)
    have hblk0 : Sat m (HP.blk blk (.cells cur e (0, 0)) :: L) w := ⟨h0, _, ⟨_, y, dj, rfl, rfl, hy⟩, hle⟩
    have hblk : Sat m (HP.blk blk (.cells cur e (0, 0)) :: L) (Sort.ahead w k) := hblk0.drewN k
    have hlt : blk < w.heap.size := (Array.getElem?_eq_some_iff.1 hg).1
    have h5 : Sat m (HP.blk blk (.cells (putCells enc 0 d' cur) e (0, 0)) :: L) (putRow enc (Sort.ahead w k) blk 0 d') := by
      refine Sat.put hblk ⟨hblk.1.1, hblk.1.2.1, hblk.1.2.2.1, hblk.1.2.2.2⟩ ?_ ?_
      · simp [putRow, mapBlock, Sort.ahead, Array.getElem?_modify, hg, onCells]
      · intro i hi
        simp [putRow, mapBlock, Sort.ahead, Array.getElem?_modify, Ne.symm hi]
    have h6 : Sat m (HP.blk blk (.cells (putCells enc 0 d' cur) e (0, 0)) :: L) (Go.Proofs.sortWorld enc w blk 0 k d' os) := by
      refine h5.same ⟨h5.1.1, h5.1.2.1, h5.1.2.2.1, h5.1.2.2.2⟩ fun i hi => ?_
      simp only [Go.Proofs.sortWorld, grow]
      rw [Array.getElem?_append, if_pos hi]
    refine h6.mono fun hh e' => ⟨by simp [hd], .inr ⟨blk, cap, _, rfl, e', h1, h2, by simpa [putCells] using h3, ?_⟩⟩
    apply List.ext_getElem?
    intro i
    simp only [putCells, List.getElem?_take, Nat.mul_one, Array.getElem?_toList, Array.getElem?_mapIdx, List.getElem?_map, Nat.zero_le, true_and, Nat.zero_add, Nat.sub_zero]
    by_cases hi : i < n
    · have hi2 : i < cur.size := by omega
      have hi3 : i < d'.size := by omega
      simp [hi, hi2, hi3]
    · have : d'[i]? = none := by simp; omega
      simp [hi, this]

/-! ### the order of literals -/
def keyL (x : Int) : Nat := 2 * x.natAbs + (if x < 0 then 0 else 1)
theorem keyL_inj {x y : Int} (h : keyL x = keyL y) : x = y := by
  unfold keyL at h
  split at h <;> split at h <;> omega
theorem ordF_key (x y : Int) : (ordF x y < 0) ↔ keyL x < keyL y := by
  unfold ordF cmpF keyL
  by_cases h1 : (x.natAbs : Int) < y.natAbs
  · simp [orF, h1]; split <;> split <;> omega
  · by_cases h2 : (y.natAbs : Int) < x.natAbs
    · simp [orF, h1, h2]; split <;> split <;> omega
    · by_cases h3 : x < y
      · simp [orF, h1, h2, h3]; split <;> split <;> omega
      · by_cases h4 : y < x
        · simp [orF, h1, h2, h3, h4]; split <;> split <;> omega
        · simp [orF, h1, h2, h3, h4]; split <;> split <;> omega
def insK (x : Int) : List Int → List Int
  | [] => [x]
  | y :: r => if keyL x ≤ keyL y then x :: y :: r else y :: insK x r
def sortK : List Int → List Int
  | [] => []
  | x :: r => insK x (sortK r)
theorem insK_perm (x : Int) : ∀ l : List Int, (insK x l).Perm (x :: l)
  | [] => List.Perm.refl _
  | y :: r => by
    unfold insK
    split
    · exact List.Perm.refl _
    · exact (List.Perm.cons y (insK_perm x r)).trans (List.Perm.swap _ _ _)
theorem sortK_perm : ∀ l : List Int, (sortK l).Perm l
  | [] => List.Perm.refl _
  | x :: r => (insK_perm x _).trans (List.Perm.cons x (sortK_perm r))
abbrev SortedK (l : List Int) : Prop := l.Pairwise fun x y => keyL x ≤ keyL y
theorem insK_sorted (x : Int) : ∀ l : List Int, SortedK l → SortedK (insK x l)
  | [], _ => by simp [insK, SortedK]
  | y :: r, h => by
    have h' := List.pairwise_cons.1 h
    unfold insK
    split
    · rename_i hk
      refine List.pairwise_cons.2 ⟨fun z hz => ?_, h⟩
      rcases List.mem_cons.1 hz with rfl | hz
      · exact hk
      · exact Nat.le_trans hk (h'.1 z hz)
    · rename_i hk
      refine List.pairwise_cons.2 ⟨fun z hz => ?_, insK_sorted x r h'.2⟩
      rcases List.mem_cons.1 ((insK_perm x r).mem_iff.1 hz) with rfl | hz
      · omega
      · exact h'.1 z hz
theorem sortK_sorted : ∀ l : List Int, SortedK (sortK l)
  | [] => List.Pairwise.nil
  | x :: r => insK_sorted x _ (sortK_sorted r)
theorem sortedK_unique : ∀ {a b : List Int}, a.Perm b → SortedK a → SortedK b → a = b
  | [], b, hp, _, _ => by have := hp.symm.eq_nil; exact this.symm
  | x :: a, [], hp, _, _ => by have := hp.eq_nil; simp at this
  | x :: a, y :: b, hp, ha, hb => by
    have ha' := List.pairwise_cons.1 ha
    have hb' := List.pairwise_cons.1 hb
    have hxy : x = y := by
      apply keyL_inj
      have h1 : x ∈ y :: b := hp.mem_iff.1 (by simp)
      have h2 : y ∈ x :: a := hp.mem_iff.2 (by simp)
      rcases List.mem_cons.1 h1 with rfl | h1
      · rfl
      · rcases List.mem_cons.1 h2 with rfl | h2
        · rfl
        · exact Nat.le_antisymm (ha'.1 y h2) (hb'.1 x h1)
    subst hxy
    rw [sortedK_unique (List.Perm.cons_inv hp) ha'.2 hb'.2]
theorem sortK_eq {l l' : List Int} (hp : l'.Perm l) (hs : SortedK l') : l' = sortK l := sortedK_unique (hp.trans (sortK_perm l).symm) hs (sortK_sorted l)

/-! ### the contract -/
abbrev SmL := {x : Int // x.natAbs ≤ 1048576}
instance : Inhabited SmL := ⟨⟨0, by simp⟩⟩
def encL (x : SmL) : Value := .int .i32 x.1
def cfL (x y : SmL) : Int := ordF x.1 y.1
theorem ltL (x y : SmL) : ltOf cfL x y = decide (keyL x.1 < keyL y.1) := by
  have := ordF_key x.1 y.1
  unfold ltOf cfL
  by_cases h : keyL x.1 < keyL y.1
  · simp [h, this.2 h]
  · have h' : ¬ ordF x.1 y.1 < 0 := fun e => h (this.1 e)
    simp [h, h']
theorem swoL : SWO (ltOf cfL) where
  irrefl x := by rw [ltL]; simp
  trans x y z h1 h2 := by rw [ltL] at *; simp at *; omega
  ntrans x y z h1 h2 := by rw [ltL] at *; simp at *; omega
theorem cmpLays (blk n : Nat) (w : World) : CmpLays1 Try.prog 43 #[] encL cfL blk 0 n w := fun k os dk _ x y => by
  have := Tri.grows (P := Try.prog) (g := 43) (args := #[.int .i32 x.1, .int .i32 y.1]) (u := .int .i64 (ordF x.1 y.1)) (fun m L => order_tri x.1 y.1 x.2 y.2) (sortWorld encL w blk 0 k dk os)
  simpa [encL, cfL] using this
theorem pdq_tri (A : Option Addr) (c : Nat) (xs : List Int) (lim : Nat) (hx : ∀ x ∈ xs, x.natAbs ≤ 1048576) (hlen : xs.length ≤ 16777216) (hlim : lim < 4611686018427387904) :
    Tri Try.prog m 56 #[.slice A xs.length c, .int .i64 0, .int .i64 xs.length, .int .i64 lim, .func (.func 43) #[] #[]]
      (HP.own 46 1 (.slice A xs.length c) xs.length (l32 xs) :: L) fun v w => v = .tuple #[] ∧ Sat m (HP.own 46 1 (.slice A xs.length c) xs.length (l32 (sortK xs)) :: L) w := by
  intro w hw
  by_cases hn : xs.length = 0
  · have hnil : xs = [] := List.eq_nil_of_length_eq_zero hn
    subst hnil
    refine (AnyF.pdqsortCmpFunc_none (P := Try.prog) { Go.Proofs.Try.pdq_Lit with } A c lim _ w).mono ?_
    rintro e w' ⟨rfl, rfl⟩
    exact ⟨_, rfl, rfl, by simpa [sortK] using hw⟩
  · obtain ⟨blk, cur, rfl, hg, hc, hkc⟩ := own_block hw (by omega)
    obtain ⟨ys, hys⟩ : ∃ ys : List SmL, ys.map (·.1) = xs := ⟨xs.attach.map fun p => ⟨p.1, hx p.1 p.2⟩, by simp⟩
    have hysl : ys.length = xs.length := by rw [← hys]; simp
    have hb : blk < w.heap.size := (Array.getElem?_eq_some_iff.1 hg).1
    have hrow : w.ownsRow 0 46 1 (.slice (some ⟨blk, 0, none⟩) xs.length c) xs.length (l32 xs) := own_row hw
    have hH : Holds encL w blk 0 ys.toArray := by
      intro j hj
      have hj' : j < ys.length := by simpa using hj
      refine ⟨?_, by simp [World.frozen?, hg]⟩
      have hcell := hrow.cells (g := blk) rfl j (encL ys[j]) (by
        rw [← hys]; simp [l32, hj', encL])
      rw [addr_add, Nat.zero_add] at hcell
      rw [Nat.zero_add, hcell]
      simp [hj']
    have key := Any.pdqsortCmpFunc_all (P := Try.prog) Go.Proofs.Try.pdq_Lit encL cfL 43 #[] swoL blk 0 c ys.toArray w (fun args w => (inferInstance : TFunc Try.prog 43).enters args w) (cmpLays blk _ w)
      ⟨fun _ => rfl, hH, hb⟩ (ys.toArray.size + 1) 0 ys.toArray.size lim ys.toArray w (by omega) rfl (SW.start hH) (Nat.zero_le _) (Nat.le_refl _) (by simp; omega) hlim (Or.inl rfl)
    have hsz : ys.toArray.size = xs.length := by simpa using hysl
    rw [hsz] at key
    refine Calls.mono key ?_
    rintro e w' ⟨rfl, k, os, rfl⟩
    have hps := pdq_sorts (ltOf cfL) swoL ys.toArray 0 ys.toArray.size lim true true (Nat.zero_le _) (Nat.le_refl _) (Or.inl rfl)
    rw [hsz] at hps
    generalize pdq (ltOf cfL) ys.toArray 0 xs.length lim true true = d' at hps
    obtain ⟨⟨hs1, _, hs3⟩, hs4⟩ := hps
    have hd : d'.size = xs.length := hs1.trans hsz
    refine ⟨_, rfl, rfl, ?_⟩
    have hfin := hw.sortWorld (enc := encL) (k := k) (os := os) hd
    have e1 : d'.toList.map (·.1) = sortK xs := by
      apply sortK_eq
      · rw [← hys]
        refine List.Perm.map _ ?_
        have e2 : d'.extract 0 xs.length = d' := by rw [← hd]; exact Array.extract_size
        have e3 : ys.toArray.extract 0 xs.length = ys.toArray := by rw [← hsz]; exact Array.extract_size
        rw [e2, e3] at hs3
        simpa using hs3
      · refine List.pairwise_map.2 (List.pairwise_iff_getElem.2 fun i j hi hj hij => ?_)
        have hi' : i < d'.size := by simpa using hi
        have hj' : j < d'.size := by simpa using hj
        have := hs4 i j (Nat.zero_le _) hij (by omega)
        rw [ltL] at this
        simp only [getElem!_pos, hi', hj', decide_eq_false_iff_not] at this
        simp only [Array.getElem_toList]
        omega
    rwa [show l32 (sortK xs) = d'.toList.map encL by rw [← e1]; simp [l32, encL, List.map_map, Function.comp_def]]
end Go.Proofs.Ytkpkehfoilchaaa
