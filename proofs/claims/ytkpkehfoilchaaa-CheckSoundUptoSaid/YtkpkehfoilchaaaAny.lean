/- A region that draws its order: one walk in the order of the text serves every order, where each operation reads, or makes something new beside what is there; what is written is written at the end. -/
import Derived.Test.YtkpkehfoilchaaaSep
import Derived.StillTail
namespace Go.Proofs.Ytkpkehfoilchaaa

/-- An operation that takes the part c and makes something new: what it tells of its value, and what it makes; u: the operations whose products it reads, and whose values it is told by. -/
abbrev Rel := Nat → Value → Prop
structure QS where
  u : List Nat
  c : HP
  p : Rel → Value → Prop
  q : Rel → Value → HP
def qsOf (qs : List (Nat × QS)) (i : Nat) : Option QS := match qs with
  | [] => none
  | (j, q) :: qs => if j = i then some q else qsOf qs i

def uponV (P : Program) (K : Value → World → Prop) : Result Next → Prop
  | .ok (.value v) w' => K v w'
  | .ok .skip w' => K undef w'
  | .ok (.enter f args) w' => Calls P f args w' fun e w'' => ∃ v, e = .returned v ∧ K v w''
  | .ok (.row row args) w' => Rows P row args w' K
  | _ => False

section
variable {P : Program} {ops : Array Oper} {md : Region.Mode} {m : Meta} {L : List HP} {Qs : Nat → Option QS} {qs : List (Nat × QS)}

theorem uponV_inh {K : Value → World → Prop} {r : Result Next} (h : uponV P K r) : ∃ v w, K v w := by
  cases r with
  | ok n w' =>
    cases n <;> simp only [uponV] at h
    case value v => exact ⟨v, w', h⟩
    case skip => exact ⟨_, w', h⟩
    case enter f args =>
      obtain ⟨e, w'', fr, ⟨v, _, hk⟩, _⟩ := h []
      exact ⟨v, w'', hk⟩
    case row row args =>
      obtain ⟨v, w'', hk, _⟩ := h default []
      exact ⟨v, w'', hk⟩
  | halt x w' => simp only [uponV] at h

theorem wp_of_uponV {o : Oper} {a : Act} {w : World} {K : Value → World → Prop} {K' : Act → World → Prop} {Q : Exit → Act → World → Prop} (h : uponV P K ((execOp a.eval o).run P w)) (hk : ∀ v w', K v w' → K' (a.put o.dst v) w') : o.wp P a w K' Q := by
  unfold Oper.wp
  generalize (execOp a.eval o).run P w = r at *
  cases r with
  | ok n w' =>
    cases n <;> simp only [uponV] at h <;> simp only [Oper.upon]
    case value v => exact hk _ _ h
    case skip => exact hk _ _ h
    case enter f args => exact h.mono fun e w'' ⟨v, he, hv⟩ => by subst he; exact hk _ _ hv
    case row row args => exact h.mono fun v w'' hv => hk _ _ hv
  | halt x w' => simp only [uponV] at h

/-- It reads: in every world that holds L it yields v. -/
def Reads (P : Program) (m : Meta) (L : List HP) (s : Sem Next) (v : Value) : Prop := ∀ w, Sat m L w → s.run P w = .ok (.value v) w
/-- It makes something new out of its part, beside whatever else is there. -/
def Makes (P : Program) (m : Meta) (L : List HP) (s : Sem Next) (q : QS) (r : Rel) : Prop := ∀ R w, Sat m (q.c :: (R ++ L)) w → uponV P (fun v w' => q.p r v ∧ Sat m (q.q r v :: (R ++ L)) w') (s.run P w)

/-- What has been made, each with the number of its operation. -/
abbrev Made := List (Nat × Value × HP)
def Made.used (u : List Nat) (R : Made) : List HP := (R.filter fun p => u.contains p.1).map (·.2.2)
def Made.all (R : Made) : List HP := R.map (·.2.2)
def Made.rel (u : List Nat) (R : Made) : Rel := fun j v => j ∈ u ∧ ∃ h, (j, v, h) ∈ R
theorem Made.rel_perm {u : List Nat} {R S : Made} (h : R.Perm S) : Made.rel u R = Made.rel u S := by
  funext j v; simp only [Made.rel, h.mem_iff]
theorem Made.rel_other {u : List Nat} {R : Made} {i : Nat} {p : Value × HP} (h : i ∉ u) : Made.rel u ((i, p) :: R) = Made.rel u R := by
  funext j v
  simp only [Made.rel, List.mem_cons, Prod.mk.injEq, eq_iff_iff]
  constructor
  · rintro ⟨h1, k, ⟨rfl, _⟩ | h2⟩
    · exact absurd h1 h
    · exact ⟨h1, k, h2⟩
  · rintro ⟨h1, k, h2⟩; exact ⟨h1, k, .inr h2⟩
theorem Made.used_perm {u : List Nat} {R S : Made} (h : R.Perm S) : (Made.used u R).Perm (Made.used u S) := (h.filter _).map _
theorem Made.all_perm {R S : Made} (h : R.Perm S) : (Made.all R).Perm (Made.all S) := h.map _
theorem Made.used_other {u : List Nat} {R : Made} {i : Nat} {p : Value × HP} (h : i ∉ u) : Made.used u ((i, p) :: R) = Made.used u R := by
  simp [Made.used, h]
theorem Made.all_used (u : List Nat) (R : Made) : ∃ S : List HP, (Made.all R).Perm (S ++ Made.used u R) := by
  induction R with
  | nil => exact ⟨[], List.Perm.refl _⟩
  | cons x R ih =>
    obtain ⟨S, hS⟩ := ih
    by_cases h : u.contains x.1
    · refine ⟨S, ?_⟩
      have e : Made.used u (x :: R) = x.2.2 :: Made.used u R := by simp only [Made.used, List.filter_cons, h, if_true, List.map_cons]
      rw [e]
      exact (List.Perm.cons x.2.2 hS).trans List.perm_middle.symm
    · refine ⟨x.2.2 :: S, ?_⟩
      have e : Made.used u (x :: R) = Made.used u R := by simp only [Made.used, List.filter_cons, h]; simp
      rw [e]
      exact List.Perm.cons x.2.2 hS
theorem Makes.perm {s : Sem Next} {q : QS} {r : Rel} {L L' : List HP} (hp : L.Perm L') (h : Makes P m L s q r) : Makes P m L' s q r := fun R w hw => by
  have h1 : Sat m (q.c :: (R ++ L)) w := hw.perm (List.Perm.cons _ (hp.symm.append_left R))
  have h2 := h R w h1
  generalize s.run P w = res at *
  have key : ∀ v w', (q.p r v ∧ Sat m (q.q r v :: (R ++ L)) w') → (q.p r v ∧ Sat m (q.q r v :: (R ++ L')) w') := fun v w' ⟨a, b⟩ => ⟨a, b.perm (List.Perm.cons _ (hp.append_left R))⟩
  cases res with
  | ok nx w' =>
    cases nx <;> simp only [uponV] at h2 ⊢
    case value v => exact key _ _ h2
    case skip => exact key _ _ h2
    case enter f args => exact h2.mono fun e w'' ⟨v, he, hv⟩ => ⟨v, he, key _ _ hv⟩
    case row row args => exact h2.mono fun v w'' hv => key _ _ hv
  | halt x w' => simp only [uponV] at h2

def stepA (P : Program) (m : Meta) (L : List HP) (i : Nat) (s : Sem Next) (oq : Option QS) (Kc : Value → Made → Prop) (R : Made) : Prop :=
  match oq with
  | none => ∃ v, Reads P m L s v ∧ Kc v R
  | some q => Makes P m (R.used q.u ++ L) s q (R.rel q.u) ∧ (∃ v, q.p (R.rel q.u) v) ∧ ∀ v, q.p (R.rel q.u) v → Kc v ((i, v, q.q (R.rel q.u) v) :: R)

def aOp (P : Program) (ops : Array Oper) (m : Meta) (L : List HP) (Qs : Nat → Option QS) (i : Nat) (Kc : Act → Made → Prop) (a : Act) (R : Made) : Prop :=
  match ops[i]? with
  | none => Kc a R
  | some o => if Region.wanted o (yielded ops a.tmps) then stepA P m L i (execOp a.eval o) (Qs i) (fun v R' => Kc (a.put o.dst v) R') R else Kc (a.put o.dst undef) R

theorem stepA_mono {i : Nat} {s : Sem Next} {oq : Option QS} {K K' : Value → Made → Prop} {R R' : Made} (hp : R.Perm R') (hk : ∀ v S S', S.Perm S' → K v S → K' v S') (h : stepA P m L i s oq K R) : stepA P m L i s oq K' R' := by
  cases oq with
  | none => exact let ⟨v, h1, h2⟩ := h; ⟨v, h1, hk _ _ _ hp h2⟩
  | some q =>
    unfold stepA at h ⊢
    simp only at h ⊢
    rw [Made.rel_perm hp] at h
    exact ⟨h.1.perm ((Made.used_perm hp).append_right L), h.2.1, fun v hv => hk _ _ _ (List.Perm.cons _ hp) (h.2.2 v hv)⟩
theorem aOp_mono {i : Nat} {K K' : Act → Made → Prop} {a : Act} {R R' : Made} (hp : R.Perm R') (hk : ∀ a S S', S.Perm S' → K a S → K' a S') (h : aOp P ops m L Qs i K a R) : aOp P ops m L Qs i K' a R' := by
  unfold aOp at *
  split
  · exact hk _ _ _ hp (by simpa [*] using h)
  · rename_i o ho
    simp only [ho] at h
    split
    · rename_i hw; simp only [hw, if_true] at h; exact stepA_mono hp (fun v S S' hS h' => hk _ _ _ hS h') h
    · rename_i hw; simp only [hw] at h; exact hk _ _ _ hp h

theorem reads_det {s : Sem Next} {v u : Value} (hw : ∃ w, Sat m L w) (h : Reads P m L s v) (k : Reads P m L s u) : v = u := by
  obtain ⟨w, hw⟩ := hw
  have := (h w hw).symm.trans (k w hw)
  simpa using this
/-- Two operations that look at nothing of each other may change places. -/
theorem aOp_comm {i j : Nat} {oi oj : Oper} (hi : ops[i]? = some oi) (hj : ops[j]? = some oj) (hap : oi.apart ops oj = true)
    (hsi : ∀ cs b, oi.op ≠ .select cs b) (hsj : ∀ cs b, oj.op ≠ .select cs b) (hui : ∀ q, Qs i = some q → j ∉ q.u) (huj : ∀ q, Qs j = some q → i ∉ q.u)
    {X : Act → Made → Prop} (hX : ∀ a S S', S.Perm S' → X a S → X a S') {a : Act} {R : Made} (hW : ∃ w, Sat m L w)
    (h : aOp P ops m L Qs i (fun a1 R1 => aOp P ops m L Qs j X a1 R1) a R) : aOp P ops m L Qs j (fun a1 R1 => aOp P ops m L Qs i X a1 R1) a R := by
  obtain ⟨h1, h2, h3⟩ := Oper.apart_spec hap
  have e1 : ∀ v, execOp (a.put oi.dst v).eval oj = execOp a.eval oj := fun v => execOp_put oj hsj a oi.dst v h1
  have e2 : ∀ v, execOp (a.put oj.dst v).eval oi = execOp a.eval oi := fun v => execOp_put oi hsi a oj.dst v h3
  have w1 : ∀ v, Region.wanted oj (yielded ops (a.put oi.dst v).tmps) = Region.wanted oj (yielded ops a.tmps) := fun v => wanted_put oj a oi.dst v h1
  have w2 : ∀ v, Region.wanted oi (yielded ops (a.put oj.dst v).tmps) = Region.wanted oi (yielded ops a.tmps) := fun v => wanted_put oi a oj.dst v h3
  have cm : ∀ v u, (a.put oj.dst u).put oi.dst v = (a.put oi.dst v).put oj.dst u := fun v u => (Act.put_comm a v u h2).symm
  simp only [aOp, hi, hj, e1, w1, e2, w2] at h ⊢
  cases hwi : Region.wanted oi (yielded ops a.tmps) <;> cases hwj : Region.wanted oj (yielded ops a.tmps) <;> simp only [hwi, hwj, if_true, Bool.false_eq_true, if_false] at h ⊢
  · rw [cm]; exact h
  · exact stepA_mono (List.Perm.refl _) (fun v S S' hS h' => by rw [cm]; exact hX _ _ _ hS h') h
  · exact stepA_mono (List.Perm.refl _) (fun v S S' hS h' => by rw [cm]; exact hX _ _ _ hS h') h
  · generalize execOp a.eval oi = si at *
    generalize execOp a.eval oj = sj at *
    cases hqi : Qs i with
    | none =>
      rw [hqi] at h
      obtain ⟨v, hv, h⟩ := h
      cases hqj : Qs j with
      | none =>
        rw [hqj] at h
        obtain ⟨u, hu, h⟩ := h
        exact ⟨u, hu, v, hv, by show X _ _; rw [cm]; exact h⟩
      | some q =>
        rw [hqj] at h
        exact ⟨h.1, h.2.1, fun u hu => ⟨v, hv, by show X _ _; rw [cm]; exact h.2.2 u hu⟩⟩
    | some q =>
      rw [hqi] at h
      obtain ⟨hm, hex, h⟩ := h
      obtain ⟨v0, hv0⟩ := hex
      cases hqj : Qs j with
      | none =>
        rw [hqj] at h
        obtain ⟨u, hu, _⟩ := h v0 hv0
        refine ⟨u, hu, hm, ⟨v0, hv0⟩, fun v hv => ?_⟩
        obtain ⟨u', hu', hx⟩ := h v hv
        show X _ _
        rw [reads_det hW hu hu', cm]
        exact hx
      | some q' =>
        rw [hqj] at h
        have hmj := (h v0 hv0).1
        rw [Made.used_other (huj q' hqj), Made.rel_other (huj q' hqj)] at hmj
        have hrj : ∀ p, Made.rel q'.u ((i, p) :: R) = Made.rel q'.u R := fun p => Made.rel_other (huj q' hqj)
        have hri : ∀ p, Made.rel q.u ((j, p) :: R) = Made.rel q.u R := fun p => Made.rel_other (hui q hqi)
        have h2 := (h v0 hv0).2.1
        rw [hrj] at h2
        refine ⟨hmj, h2, fun u hu => ⟨?_, ⟨v0, by rw [hri]; exact hv0⟩, fun v hv => ?_⟩⟩
        · rw [Made.used_other (hui q hqi), hri]; exact hm
        · show X _ _
          rw [cm]
          rw [hri] at hv ⊢
          have h3 := (h v hv).2.2
          rw [hrj] at h3
          exact hX _ _ _ (List.Perm.swap _ _ _) (h3 u hu)

/-- Whatever order is picked of the operations 'hd'. -/
def AnyA (P : Program) (md : Region.Mode) (ops : Array Oper) (m : Meta) (L : List HP) (Qs : Nat → Option QS) (hd : List Nat) (Lq : Array Bool → Act → Made → Prop) : Nat → Array Bool → Act → Made → Prop
  | 0, listed, a, R => Lq listed a R
  | f + 1, listed, a, R => Region.ready md ops listed ≠ [] ∧ ∀ i ∈ Region.ready md ops listed, i ∈ hd ∧ aOp P ops m L Qs i (AnyA P md ops m L Qs hd Lq f (listed.setIfInBounds i true)) a R

variable {hd0 : List Nat} {Lq : Array Bool → Act → Made → Prop}

theorem anyA_perm (hL : ∀ l a S S', S.Perm S' → Lq l a S → Lq l a S') : ∀ (f : Nat) (listed : Array Bool) (a : Act) (S S' : Made), S.Perm S' → AnyA P md ops m L Qs hd0 Lq f listed a S → AnyA P md ops m L Qs hd0 Lq f listed a S'
  | 0, _, _, _, _, hp, h => hL _ _ _ _ hp h
  | f + 1, _, _, _, _, hp, h => ⟨h.1, fun i hi => ⟨(h.2 i hi).1, aOp_mono hp (fun a S S' hS h' => anyA_perm hL f _ a S S' hS h') (h.2 i hi).2⟩⟩

/-- The parts of the operations that have not come up. -/
def pend : List (Nat × QS) → Array Bool → List HP
  | [], _ => []
  | (i, q) :: qs, listed => if listed.getD i true then pend qs listed else q.c :: pend qs listed
theorem pend_other {i : Nat} : ∀ (qs : List (Nat × QS)) (listed : Array Bool), (∀ p ∈ qs, p.1 ≠ i) → pend qs (listed.setIfInBounds i true) = pend qs listed
  | [], _, _ => rfl
  | (j, q) :: qs, listed, h => by
    unfold pend
    rw [getD_set_ne true (Ne.symm (h (j, q) (by simp))), pend_other qs listed fun p hp => h p (by simp [hp])]
theorem pend_take {i : Nat} {q : QS} : ∀ (qs : List (Nat × QS)) (listed : Array Bool), (qs.map (·.1)).Nodup → qsOf qs i = some q → listed.getD i true = false → (pend qs listed).Perm (q.c :: pend qs (listed.setIfInBounds i true))
  | [], _, _, h, _ => by cases h
  | (j, q') :: qs, listed, hn, h, hl => by
    have hn' := List.nodup_cons.1 hn
    unfold qsOf at h
    by_cases hj : j = i
    · subst hj
      simp only [if_true, Option.some.injEq] at h
      subst h
      have h1 : (listed.setIfInBounds j true).getD j true = true := by
        have hi : j < listed.size := by
          rcases Nat.lt_or_ge j listed.size with h' | h'
          · exact h'
          · simp [Array.getElem?_eq_none h'] at hl
        simp [hi]
      unfold pend
      rw [hl, h1, pend_other qs listed fun p hp he => hn'.1 (by simpa [he] using List.mem_map_of_mem (f := (·.1)) hp)]
      simp
    · rw [if_neg hj] at h
      have ih := pend_take qs listed hn'.2 h hl
      unfold pend
      rw [getD_set_ne true (Ne.symm hj)]
      split
      · exact ih
      · exact (List.Perm.cons _ ih).trans (List.Perm.swap _ _ _)
theorem qsOf_none {i : Nat} : ∀ (qs : List (Nat × QS)), qsOf qs i = none → ∀ p ∈ qs, p.1 ≠ i
  | [], _, _, h => by cases h
  | (j, q) :: qs, h, p, hp => by
    unfold qsOf at h
    split at h
    · cases h
    · rename_i hj
      cases List.mem_cons.1 hp with
      | inl e => subst e; exact hj
      | inr e => exact qsOf_none qs h p e
theorem Sat.perm_app {L0 L1 L' : List HP} {w : World} (h : Sat m (L0 ++ L') w) (hp : L0.Perm L1) : Sat m (L1 ++ L') w := h.perm (hp.append_right L')

theorem wpAny_of_anyA {g : Nat} {Q' : Exit → Act → World → Prop} (hn : (qs.map (·.1)).Nodup) (hL : ∀ listed a R w, Lq listed a R → Sat m (R.all ++ L) w → wpAny P md ops Q' g listed a w) :
    ∀ (f : Nat) (listed : Array Bool) (a : Act) (R : Made) (w : World), AnyA P md ops m L (qsOf qs) hd0 Lq f listed a R → Sat m (pend qs listed ++ (R.all ++ L)) w → wpAny P md ops Q' (f + g) listed a w
  | 0, listed, a, R, w, h, hs => by rw [Nat.zero_add]; exact hL _ _ _ _ h hs.app
  | f + 1, listed, a, R, w, h, hs => by
    rw [show f + 1 + g = (f + g) + 1 by omega]
    refine ⟨fun h0 => absurd h0 h.1, fun i hi => ?_⟩
    have h1 := (h.2 i hi).2
    have hun := (mem_ready.1 hi).1
    have hskip : Sat m (pend qs (listed.setIfInBounds i true) ++ (R.all ++ L)) w := by
      cases hq : qsOf qs i with
      | none => rw [pend_other qs listed (qsOf_none qs hq)]; exact hs
      | some q => exact (hs.perm_app (pend_take qs listed hn hq hun)).drop
    unfold aOp at h1
    unfold wpOp
    split
    · rename_i ho
      simp only [ho] at h1
      exact wpAny_of_anyA hn hL f _ a R w h1 hskip
    · rename_i o ho
      simp only [ho] at h1
      split
      · rename_i hw
        simp only [hw, if_true] at h1
        refine .inl ?_
        cases hq : qsOf qs i with
        | none =>
          rw [hq] at h1
          obtain ⟨v, hv, h2⟩ := h1
          simp only [Oper.wp, hv w hs.app.app, Oper.upon]
          exact wpAny_of_anyA hn hL f _ _ R w h2 hskip
        | some q =>
          rw [hq] at h1
          obtain ⟨S, hS⟩ := Made.all_used q.u R
          have hs1 : Sat m (q.c :: ((pend qs (listed.setIfInBounds i true) ++ S) ++ (R.used q.u ++ L))) w := by
            have h3 : Sat m (q.c :: (pend qs (listed.setIfInBounds i true) ++ (R.all ++ L))) w := hs.perm_app (pend_take qs listed hn hq hun)
            refine h3.perm (List.Perm.cons _ ?_)
            rw [List.append_assoc]
            refine List.Perm.append_left _ ?_
            rw [← List.append_assoc]
            exact hS.append_right L
          refine wp_of_uponV (h1.1 _ w hs1) fun v w' ⟨hp, hs'⟩ => wpAny_of_anyA hn hL f _ _ ((i, v, q.q (R.rel q.u) v) :: R) w' (h1.2.2 v hp) ?_
          have h4 : Sat m (q.q (R.rel q.u) v :: (pend qs (listed.setIfInBounds i true) ++ (R.all ++ L))) w' := by
            refine hs'.perm (List.Perm.cons _ ?_)
            rw [List.append_assoc]
            refine List.Perm.append_left _ ?_
            rw [← List.append_assoc]
            exact hS.symm.append_right L
          exact h4.perm List.perm_middle.symm
      · rename_i hw
        simp only [hw] at h1
        exact wpAny_of_anyA hn hL f _ _ R w h1 hskip

/-- What has come up is closed: what it waited for has come up too; of the tail nothing has. -/
structure HInv (md : Region.Mode) (ops : Array Oper) (tl : List Nat) (listed : Array Bool) : Prop where
  size : listed.size = ops.size
  closed : ∀ j oj, ops[j]? = some oj → listed.getD j false = true → ∀ e ∈ oj.after, Region.binds md e = true → listed.getD e.on false = true
  tail : ∀ t ∈ tl, listed.getD t true = false

def sinkO (md : Region.Mode) (ops : Array Oper) : List Nat → Nat → Bool
  | [], _ => true
  | i :: hd, t => (hd.any (Region.waitsFor md ops · i) || Region.waitsFor md ops t i) && sinkO md ops hd t
def chainO (md : Region.Mode) (ops : Array Oper) : Nat → List Nat → Bool
  | _, [] => true
  | s, t :: tl => Region.waitsFor md ops t s && chainO md ops t tl
def apartL (hd tl : List Nat) : Bool := hd.all fun i => !tl.contains i
/-- The tail waits for the head. -/
def sinksO (md : Region.Mode) (ops : Array Oper) (hd tl : List Nat) : Bool :=
  ((List.range ops.size).all fun i => hd.contains i || tl.contains i) && apartL hd tl &&
  match tl with
  | [] => true
  | t :: tl => sinkO md ops hd t && chainO md ops t tl

theorem waits_unlisted {tl : List Nat} {listed : Array Bool} (inv : HInv md ops tl listed) {i j : Nat} (hij : Region.waitsFor md ops j i = true) (hi : listed.getD i false = false) : listed.getD j false = false := by
  obtain ⟨oj, hoj, e, he, hb, hon⟩ := Region.waitsFor_spec hij
  cases hl : listed.getD j false with
  | false => rfl
  | true =>
    have := inv.closed j oj hoj hl e he hb
    rw [hon, hi] at this
    cases this
theorem waits_ready {listed : Array Bool} {i t : Nat} (hti : Region.waitsFor md ops t i = true) (hr : t ∈ Region.ready md ops listed) : listed.getD i false = true := by
  obtain ⟨oj, hoj, e, he, hb, hon⟩ := Region.waitsFor_spec hti
  obtain ⟨_, ot, hot, hall⟩ := mem_ready.1 hr
  have : oj = ot := Option.some.inj (hoj.symm.trans hot)
  subst this
  have := hall e he hb
  rwa [hon] at this
theorem sinkO_listed {tl : List Nat} {listed : Array Bool} (inv : HInv md ops tl listed) {t : Nat} (hr : t ∈ Region.ready md ops listed) : ∀ hd : List Nat, sinkO md ops hd t = true → ∀ i ∈ hd, listed.getD i false = true
  | [], _, i, hi => by cases hi
  | x :: hd, hs, i, hi => by
    simp only [sinkO, Bool.and_eq_true, Bool.or_eq_true, List.any_eq_true] at hs
    have ih := sinkO_listed inv hr hd hs.2
    cases List.mem_cons.1 hi with
    | inr h => exact ih i h
    | inl h =>
      subst h
      rcases hs.1 with ⟨j, hj, hw⟩ | hw
      · cases hl : listed.getD i false with
        | true => rfl
        | false =>
          have h1 := waits_unlisted inv hw hl
          rw [ih j hj] at h1
          cases h1
      · exact waits_ready hw hr
theorem getD_false_of_true {listed : Array Bool} {i : Nat} (h : listed.getD i true = false) : listed.getD i false = false := getD_both h
theorem chainO_waits : ∀ (tl : List Nat) (s t : Nat), chainO md ops s tl = true → t ∈ tl → ∃ u, (u = s ∨ u ∈ tl) ∧ Region.waitsFor md ops t u = true
  | [], _, _, _, h => by cases h
  | x :: tl, s, t, hc, h => by
    simp only [chainO, Bool.and_eq_true] at hc
    cases List.mem_cons.1 h with
    | inl e => subst e; exact ⟨s, .inl rfl, hc.1⟩
    | inr e =>
      obtain ⟨u, hu, hw⟩ := chainO_waits tl x t hc.2 e
      exact ⟨u, .inr (by rcases hu with rfl | hu <;> simp [*]), hw⟩
theorem sinksO_wait {hd tl : List Nat} {listed : Array Bool} (hs : sinksO md ops hd tl = true) (inv : HInv md ops tl listed) {i : Nat} (hi : i ∈ hd) (hun : listed.getD i true = false) : ∀ t ∈ Region.ready md ops listed, t ∈ hd := by
  intro t hr
  simp only [sinksO, Bool.and_eq_true, List.all_eq_true, List.mem_range, Bool.or_eq_true, List.contains_iff_mem] at hs
  obtain ⟨⟨hcov, hap⟩, hs⟩ := hs
  obtain ⟨_, ot, hot, hall⟩ := mem_ready.1 hr
  have htlt : t < ops.size := (Array.getElem?_eq_some_iff.1 hot).1
  rcases hcov t htlt with h | h
  · exact h
  · exfalso
    cases htl : tl with
    | nil => subst htl; cases h
    | cons t1 tl' =>
      subst htl
      simp only [Bool.and_eq_true] at hs
      cases List.mem_cons.1 h with
      | inl e =>
        subst e
        have := sinkO_listed inv hr hd hs.1 i hi
        rw [getD_both hun] at this
        cases this
      | inr e =>
        obtain ⟨u, hu, hw⟩ := chainO_waits tl' t1 t hs.2 e
        have h1 := waits_ready hw hr
        have h2 := inv.tail u (by rcases hu with rfl | hu <;> simp [*])
        rw [getD_both h2] at h1
        cases h1

theorem HInv.set {hd tl : List Nat} {i : Nat} {listed : Array Bool} (inv : HInv md ops tl listed) (hap : apartL hd tl = true) (hi : i ∈ Region.ready md ops listed) (hin : i ∈ hd) : HInv md ops tl (listed.setIfInBounds i true) := by
  obtain ⟨_, oi, hoi, hall⟩ := mem_ready.1 hi
  refine ⟨by simp [inv.size], fun j oj hj hl e he hb => ?_, fun t ht => ?_⟩
  · by_cases hij : i = j
    · subst hij
      have : oj = oi := Option.some.inj (hj.symm.trans hoi)
      subst this
      exact getD_set_true (hall e he hb)
    · rw [getD_set_ne false hij] at hl
      exact getD_set_true (inv.closed j oj hj hl e he hb)
  · have hne : i ≠ t := fun h => by
      subst h
      have := List.all_eq_true.1 hap i hin
      simp [ht] at this
    rw [getD_set_ne true hne]
    exact inv.tail t ht

/-- An operation waits for another, directly or through others. -/
def waitsT (md : Region.Mode) (ops : Array Oper) : Nat → Nat → Nat → Bool
  | 0, i, j => Region.waitsFor md ops i j
  | k + 1, i, j => Region.waitsFor md ops i j || (List.range ops.size).any fun x => Region.waitsFor md ops i x && waitsT md ops k x j
/-- What may come up now may be taken first. -/
theorem anyA_first {tl : List Nat} (hW : ∃ w, Sat m L w) (hU : ∀ i q, Qs i = some q → ∀ j ∈ q.u, waitsT md ops 6 i j = true) (hLp : ∀ l a S S', S.Perm S' → Lq l a S → Lq l a S') (hs : sinksO md ops hd0 tl = true)
    (hdone : ∀ listed a R, Lq listed a R → ∀ j ∈ Region.ready md ops listed, j ∈ tl)
    {i : Nat} {oi : Oper} (hi : ops[i]? = some oi) (hsel : ∀ (j : Nat) (o : Oper) cs b, ops[j]? = some o → o.op ≠ .select cs b) (hin : i ∈ hd0) :
    ∀ (f : Nat) (listed : Array Bool) (a : Act) (R : Made), HInv md ops tl listed →
      (∀ j oj, ops[j]? = some oj → j ≠ i → listed.getD j true = false → (∀ e ∈ oj.after, Region.binds md e = true → e.on ≠ i) → oi.apart ops oj = true) →
      i ∈ Region.ready md ops listed →
      aOp P ops m L Qs i (AnyA P md ops m L Qs hd0 Lq f (listed.setIfInBounds i true)) a R → AnyA P md ops m L Qs hd0 Lq (f + 1) listed a R := by
  have hap : apartL hd0 tl = true := by simp only [sinksO, Bool.and_eq_true] at hs; exact hs.1.2
  intro f
  induction f with
  | zero =>
    intro listed a R inv _ hr H
    have hun := (mem_ready.1 hr).1
    refine ⟨fun h => (by rw [h] at hr; cases hr), fun j hj => ?_⟩
    have hjn : j ∈ hd0 := sinksO_wait hs inv hin hun j hj
    refine ⟨hjn, ?_⟩
    by_cases hji : j = i
    · subst hji; exact H
    · exfalso
      have hex : ∃ a' R', Lq (listed.setIfInBounds i true) a' R' := by
        unfold aOp at H
        simp only [hi] at H
        split at H
        · cases hq : Qs i with
          | none => rw [hq] at H; obtain ⟨v, _, h⟩ := H; exact ⟨_, _, h⟩
          | some q => rw [hq] at H; obtain ⟨v, hv⟩ := H.2.1; exact ⟨_, _, H.2.2 v hv⟩
        · exact ⟨_, _, H⟩
      obtain ⟨a', R', hl⟩ := hex
      have h1 := hdone _ _ _ hl j (ready_mono hj hji)
      have h2 := List.all_eq_true.1 hap j hjn
      simp [h1] at h2
  | succ f ih =>
    intro listed a R inv hfree hr H
    have hun := (mem_ready.1 hr).1
    refine ⟨fun h => (by rw [h] at hr; cases hr), fun j hj => ?_⟩
    have hjn : j ∈ hd0 := sinksO_wait hs inv hin hun j hj
    refine ⟨hjn, ?_⟩
    by_cases hji : j = i
    · subst hji; exact H
    · obtain ⟨hjun, oj, hoj, hall⟩ := mem_ready.1 hj
      have hnot : ∀ e ∈ oj.after, Region.binds md e = true → e.on ≠ i := fun e he hb heq => by
        have h1 := hall e he hb
        rw [heq, getD_both hun] at h1
        cases h1
      have hfree' : ∀ k ok, ops[k]? = some ok → k ≠ i → (listed.setIfInBounds j true).getD k true = false →
          (∀ e ∈ ok.after, Region.binds md e = true → e.on ≠ i) → oi.apart ops ok = true := fun k ok hk hki hun' hno => by
        refine hfree k ok hk hki ?_ hno
        by_cases hjk : j = k
        · subst hjk; exact hjun
        · rw [getD_set_ne true hjk] at hun'; exact hun'
      have h2 : aOp P ops m L Qs i (fun a1 R1 => aOp P ops m L Qs j (AnyA P md ops m L Qs hd0 Lq f ((listed.setIfInBounds j true).setIfInBounds i true)) a1 R1) a R := by
        refine aOp_mono (List.Perm.refl _) (fun a' S S' hS h' => ?_) H
        have h3 := (h'.2 j (ready_mono hj hji)).2
        rw [Array.setIfInBounds_comm _ _ (Ne.symm hji)] at h3
        exact aOp_mono hS (fun a'' T T' hT h4 => anyA_perm hLp f _ a'' T T' hT h4) h3
      have hlw : ∀ {x y : Nat}, Region.waitsFor md ops x y = true → listed.getD x false = true → listed.getD y false = true := fun hw hx => by
        obtain ⟨ox, hox, e, he, hb, hon⟩ := Region.waitsFor_spec hw
        rw [← hon]; exact inv.closed _ ox hox hx e he hb
      have hlt : ∀ (k : Nat) {x y : Nat}, waitsT md ops k x y = true → listed.getD x false = true → listed.getD y false = true := by
        intro k
        induction k with
        | zero => intro x y hw hx; exact hlw hw hx
        | succ k ihk =>
          intro x y hw hx
          simp only [waitsT, Bool.or_eq_true, List.any_eq_true, Bool.and_eq_true] at hw
          rcases hw with hw | ⟨z, _, hz1, hz2⟩
          · exact hlw hw hx
          · exact ihk hz2 (hlw hz1 hx)
      have hnf : ∀ {x y : Nat}, Region.waitsFor md ops x y = true → x ∈ Region.ready md ops listed → listed.getD y false = true := fun hw hx => by
        obtain ⟨ox, hox, e, he, hb, hon⟩ := Region.waitsFor_spec hw
        obtain ⟨_, ox', hox', hall'⟩ := mem_ready.1 hx
        have : ox = ox' := Option.some.inj (hox.symm.trans hox')
        subst this
        rw [← hon]; exact hall' e he hb
      have hnw : ∀ {x y : Nat}, waitsT md ops 6 x y = true → x ∈ Region.ready md ops listed → listed.getD y true = false → False := fun {x y} hw hx hy => by
        have hy' : listed.getD y false = true := by
          rw [waitsT] at hw
          simp only [Bool.or_eq_true, List.any_eq_true, Bool.and_eq_true] at hw
          rcases hw with hw | ⟨z, _, hz1, hz2⟩
          · exact hnf hw hx
          · exact hlt 5 hz2 (hnf hz1 hx)
        rw [getD_both hy] at hy'
        cases hy'
      have h5 := aOp_comm hi hoj (hfree j oj hoj hji hjun hnot) (fun cs b => hsel i oi cs b hi) (fun cs b => hsel j oj cs b hoj) (fun q hq hm => hnw (hU i q hq j hm) hr hjun) (fun q hq hm => hnw (hU j q hq i hm) hj hun)
        (fun a' S S' hS h' => anyA_perm hLp f _ a' S S' hS h') hW h2
      refine aOp_mono (List.Perm.refl _) (fun a' S S' hS h3 => ?_) h5
      exact anyA_perm hLp (f + 1) _ a' S S' hS (ih (listed.setIfInBounds j true) a' S (inv.set hap hj hjn) hfree' (ready_mono hr (Ne.symm hji)) h3)

/-- The walk, in an order of one's choice. -/
def AW (P : Program) (ops : Array Oper) (m : Meta) (L : List HP) (Qs : Nat → Option QS) (K : Act → Made → Prop) : List Nat → Act → Made → Prop
  | [], a, R => K a R
  | i :: rest, a, R => aOp P ops m L Qs i (fun a' R' => AW P ops m L Qs K rest a' R') a R

theorem AW_perm {K : Act → Made → Prop} (hK : ∀ a S S', S.Perm S' → K a S → K a S') : ∀ (l : List Nat) (a : Act) (S S' : Made), S.Perm S' → AW P ops m L Qs K l a S → AW P ops m L Qs K l a S'
  | [], _, _, _, hp, h => hK _ _ _ hp h
  | _ :: l, _, _, _, hp, h => aOp_mono hp (fun a T T' hT h' => AW_perm hK l a T T' hT h') h

def seqT (md : Region.Mode) (ops : Array Oper) : List Nat → Array Bool → Bool
  | [], listed => (Region.ready md ops listed).isEmpty
  | t :: tl, listed => decide (Region.ready md ops listed = [t]) && seqT md ops tl (listed.setIfInBounds t true)
def lexO (md : Region.Mode) (ops : Array Oper) (tl : List Nat) : List Nat → Array Bool → Bool
  | [], listed => seqT md ops tl listed
  | i :: hd, listed => (Region.ready md ops listed).contains i && Region.free md ops listed i && lexO md ops tl hd (listed.setIfInBounds i true)
def orderO (md : Region.Mode) (ops : Array Oper) (hd tl : List Nat) : Bool :=
  Region.noSelect ops && sinksO md ops hd tl && lexO md ops tl hd (Array.replicate ops.size false)

theorem seqT_ready {tl : List Nat} {listed : Array Bool} (h : seqT md ops tl listed = true) : ∀ j ∈ Region.ready md ops listed, j ∈ tl := by
  cases tl with
  | nil => intro j hj; simp only [seqT, List.isEmpty_iff] at h; rw [h] at hj; cases hj
  | cons t tl =>
    intro j hj
    simp only [seqT, Bool.and_eq_true, decide_eq_true_eq] at h
    rw [h.1] at hj
    have : j = t := by simpa using hj
    simp [this]

theorem wpAny_of_seqT {Q' : Exit → Act → World → Prop} : ∀ (tl : List Nat) (listed : Array Bool) (a : Act) (w : World),
    seqT md ops tl listed = true → wpOps P ops Q' tl a w → wpAny P md ops Q' tl.length listed a w
  | [], _, _, _, hB, h => ⟨by simpa [seqT] using hB, h⟩
  | t :: tl, listed, a, w, hB, h => by
    simp only [seqT, Bool.and_eq_true, decide_eq_true_eq] at hB
    refine ⟨fun h1 => (by rw [hB.1] at h1; cases h1), fun i hi => ?_⟩
    rw [hB.1] at hi
    have hik : i = t := by simpa using hi
    subst hik
    rw [wpOps_cons] at h
    exact wpOp_mono (fun a' w' h' => wpAny_of_seqT tl _ a' w' hB.2 h') h

theorem anyA_lex {K : Act → Made → Prop} {tl : List Nat} (hW : ∃ w, Sat m L w) (hU : ∀ i q, Qs i = some q → ∀ j ∈ q.u, waitsT md ops 6 i j = true) (hK : ∀ a S S', S.Perm S' → K a S → K a S') (hs : sinksO md ops hd0 tl = true) (hsel : Region.noSelect ops = true) :
    ∀ (l : List Nat) (listed : Array Bool) (a : Act) (R : Made), (∀ i ∈ l, i ∈ hd0) → HInv md ops tl listed →
    lexO md ops tl l listed = true → AW P ops m L Qs K l a R →
    AnyA P md ops m L Qs hd0 (fun listed' a' R' => seqT md ops tl listed' = true ∧ K a' R') l.length listed a R
  | [], listed, a, R, _, _, hB, h => ⟨by simpa [lexO] using hB, h⟩
  | i :: l, listed, a, R, hl, inv, hB, h => by
    have hap : apartL hd0 tl = true := by simp only [sinksO, Bool.and_eq_true] at hs; exact hs.1.2
    simp only [lexO, Bool.and_eq_true] at hB
    obtain ⟨⟨hr, hf⟩, hB'⟩ := hB
    have hr' : i ∈ Region.ready md ops listed := by simpa using hr
    obtain ⟨_, oi, hoi, _⟩ := mem_ready.1 hr'
    refine anyA_first hW hU (fun l a S S' hS h' => ⟨h'.1, hK _ _ _ hS h'.2⟩) hs (fun listed' a' R' hL => seqT_ready hL.1) hoi (Region.noSelect_spec hsel) (hl i (by simp)) l.length listed a R inv (Region.free_spec hoi hf) hr' ?_
    refine aOp_mono (List.Perm.refl _) (fun a' S S' hS h' => ?_) h
    exact anyA_lex hW hU hK hs hsel l _ a' S' (fun j hj => hl j (by simp [hj])) (inv.set hap hr' (hl i (by simp))) hB' (AW_perm hK l _ S S' hS h')

theorem pend_all : ∀ (qs : List (Nat × QS)) (listed : Array Bool), (∀ p ∈ qs, listed.getD p.1 true = false) → pend qs listed = qs.map (·.2.c)
  | [], _, _ => rfl
  | (i, q) :: qs, listed, h => by
    unfold pend
    rw [h (i, q) (by simp), pend_all qs listed fun p hp => h p (by simp [hp])]
    simp
theorem qsOf_mem {i : Nat} {q : QS} : ∀ (qs : List (Nat × QS)), qsOf qs i = some q → (i, q) ∈ qs
  | [], h => by cases h
  | (j, q') :: qs, h => by
    unfold qsOf at h
    split at h
    · rename_i hj; subst hj; cases h; simp
    · exact List.mem_cons_of_mem _ (qsOf_mem qs h)

/-- **A region that draws**: the operations 'hd' read, or make something new of parts of their own; those of 'tl' are forced, and walked one by one. -/
theorem wp_region_aw {id : Nat} {Q : Exit → Act → World → Prop} {a : Act} {l : List Oper} (hd tl : List Nat) (qs : List (Nat × QS)) (hm : P.follows .mixedOrders = true)
    (hB : (orderO .any l.toArray hd tl && decide (hd.length + tl.length = l.length) && decide ((qs.map (·.1)).Nodup) && qs.all fun p => decide (p.1 < l.length) && p.2.u.all fun j => waitsT .any l.toArray 6 p.1 j) = true)
    (h : AW P l.toArray m L (qsOf qs) (fun a' R => ∀ w, Sat m (R.all ++ L) w → wpOps P l.toArray Q tl a' w) hd a []) : ∀ w, Sat m (qs.map (·.2.c) ++ L) w → (Code.region id l.toArray true).wp P Q a w := by
  intro w hw
  simp only [orderO, Bool.and_eq_true, decide_eq_true_eq, List.all_eq_true] at hB
  obtain ⟨⟨⟨⟨⟨hsel, hs⟩, hlex⟩, hlen⟩, hnd⟩, hlt⟩ := hB
  have hK : ∀ (a' : Act) (S S' : Made), S.Perm S' → (∀ w, Sat m (S.all ++ L) w → wpOps P l.toArray Q tl a' w) → ∀ w, Sat m (S'.all ++ L) w → wpOps P l.toArray Q tl a' w :=
    fun a' S S' hp h w hs => h w (hs.perm ((Made.all_perm hp.symm).append_right L))
  refine wp_region_any hm ?_
  have htl : ∀ t ∈ tl, (Array.replicate l.toArray.size false).getD t true = false := by
    intro t ht
    by_cases hts : t < l.toArray.size
    · exact getD_in (by simpa using hts) (getD_replicate_false _ _)
    · exfalso
      have key : ∀ (tl : List Nat) (listed : Array Bool), seqT .any l.toArray tl listed = true → t ∈ tl → False := by
        intro tl
        induction tl with
        | nil => intro _ _ h; cases h
        | cons x tl ih =>
          intro listed h hx
          simp only [seqT, Bool.and_eq_true, decide_eq_true_eq] at h
          cases List.mem_cons.1 hx with
          | inl e =>
            subst e
            have : t ∈ Region.ready .any l.toArray listed := by rw [h.1]; simp
            obtain ⟨_, o, ho, _⟩ := mem_ready.1 this
            exact hts (Array.getElem?_eq_some_iff.1 ho).1
          | inr e => exact ih _ h.2 e
      have key2 : ∀ (hd : List Nat) (listed : Array Bool), lexO .any l.toArray tl hd listed = true → False := by
        intro hd
        induction hd with
        | nil => intro listed h; exact key tl listed h ht
        | cons x hd ih => intro listed h; simp only [lexO, Bool.and_eq_true] at h; exact ih _ h.2
      exact key2 _ _ hlex
  have inv0 : HInv .any l.toArray tl (Array.replicate l.toArray.size false) := ⟨by simp, fun j oj _ hl => (by rw [getD_replicate_false] at hl; cases hl), htl⟩
  have hp0 : pend qs (Array.replicate l.toArray.size false) = qs.map (·.2.c) := pend_all qs _ fun p hp => getD_in (by simpa using (hlt p hp).1) (getD_replicate_false _ _)
  have H := anyA_lex (md := .any) (hd0 := hd) ⟨w, hw.app⟩ (fun i q hq j hj => (hlt (i, q) (qsOf_mem qs hq)).2 j hj) hK hs hsel hd _ a [] (fun _ h => h) inv0 hlex h
  have := wpAny_of_anyA (Q' := Q) (g := tl.length) hnd (fun listed a' R' w' hL hs => wpAny_of_seqT tl listed a' w' hL.1 (hL.2 w' hs)) hd.length _ a [] { w with drawn := w.drawn + 1 } H (by rw [hp0]; exact (hw.drewN 1))
  rwa [show hd.length + tl.length = l.toArray.size by simpa using hlen] at this
end
end Go.Proofs.Ytkpkehfoilchaaa
