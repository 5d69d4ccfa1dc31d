/- The steps of a walk: frames as functions, operations that read, calls, and the rules of code, over worlds that hold a list of parts. -/
import Derived.Test.YtkpkehfoilchaaaAny
namespace Go.Proofs.Ytkpkehfoilchaaa
open Go.RowKit

/-! ### frames -/
abbrev Env := Nat → Value
def upd (f : Env) (d : Nat) (v : Value) : Env := fun t => if t = d then v else f t
def updO (f : Env) : Option Nat → Value → Env
  | some d, v => upd f d v
  | none, _ => f
def acts (n : Nat) (f : Env) (ds : List Deferred) : Act := { tmps := Array.ofFn (n := n) fun i => f i, defers := ds }
theorem upd_apply (f : Env) (d : Nat) (v : Value) (t : Nat) : upd f d v t = if t = d then v else f t := rfl
theorem updO_some (f : Env) (d : Nat) (v : Value) : updO f (some d) v = upd f d v := rfl
theorem updO_none (f : Env) (v : Value) : updO f none v = f := rfl
theorem acts_tmp (n : Nat) (f : Env) (ds : List Deferred) (t : Nat) : (acts n f ds).eval (.tmp t) = if t < n then f t else undef := by
  unfold acts Act.eval
  by_cases h : t < n <;> simp [h]
theorem acts_const (n : Nat) (f : Env) (ds : List Deferred) (v : Value) : (acts n f ds).eval (.const v) = v := rfl
theorem acts_func (n : Nat) (f : Env) (ds : List Deferred) (g : Nat) : (acts n f ds).eval (.func g) = .func (.func g) #[] #[] := rfl
theorem acts_get (n : Nat) (f : Env) (ds : List Deferred) (t : Nat) : (acts n f ds).tmps.getD t undef = if t < n then f t else undef := by
  unfold acts
  by_cases h : t < n <;> simp [h]
theorem acts_put (n : Nat) (f : Env) (ds : List Deferred) (d : Option Nat) (v : Value) : (acts n f ds).put d v = acts n (updO f d v) ds := by
  cases d with
  | none => rfl
  | some d =>
    simp only [Act.put, acts, updO]
    congr 1
    apply Array.ext_getElem?
    intro i
    rw [Array.getElem?_setIfInBounds, Array.getElem?_ofFn, Array.getElem?_ofFn]
    by_cases h : d = i
    · subst h; simp [upd]
    · have h' : ¬ i = d := fun e => h e.symm
      simp [upd, h, h']
theorem acts_defers (n : Nat) (f : Env) (ds : List Deferred) : (acts n f ds).defers = ds := rfl

def argEnv : List Value → Nat → Env
  | [], _ => fun _ => undef
  | v :: vs, i => upd (argEnv vs (i + 1)) i v
theorem argEnv_get : ∀ (l : List Value) (i t : Nat), argEnv l i t = if i ≤ t then l.getD (t - i) undef else undef
  | [], i, t => by simp [argEnv]
  | v :: l, i, t => by
    unfold argEnv upd
    by_cases h : t = i
    · subst h; simp
    · rw [if_neg h, argEnv_get l (i + 1) t]
      by_cases h1 : i ≤ t
      · rw [if_pos h1, if_pos (by omega), show t - i = (t - (i + 1)) + 1 by omega]; simp
      · rw [if_neg h1, if_neg (by omega)]
theorem acts_enter (args : Array Value) (n : Nat) (h : args.size ≤ n) : ({ tmps := args ++ Array.replicate (n - args.size) undef, defers := [] } : Act) = acts n (argEnv args.toList 0) [] := by
  unfold acts
  congr 1
  apply Array.ext_getElem?
  intro i
  rw [Array.getElem?_ofFn]
  simp only [argEnv_get]
  by_cases h1 : i < args.size
  · have h2 : i < n := by omega
    simp [Array.getElem?_append, h1, h2]
  · by_cases h2 : i < n
    · have h3 : i - args.size < n - args.size := by omega
      have h4 : ¬ i < args.toList.length := by simpa using h1
      simp [Array.getElem?_append, h1, h2, h3]
    · have h3 : ¬ i - args.size < n - args.size := by omega
      simp [Array.getElem?_append, h1, h2, h3]

/-- whether a guarded operation is wanted, out of what its test has left -/
theorem acts_yielded (ops : Array Oper) (n : Nat) (f : Env) (ds : List Deferred) (j d : Nat) (o : Oper) (b : Bool) (ho : ops[j]? = some o) (hd : o.dst = some d) (hn : d < n) (hf : f d = .bool b) :
    yielded ops (acts n f ds).tmps j = some b := by
  simp [yielded, ho, hd, acts, hn, hf]

/-! ### judgements -/
def WL (P : Program) (ops : Array Oper) (m : Meta) (L : List HP) (Q : Exit → Act → World → Prop) (l : List Oper) (n : Nat) (f : Env) (ds : List Deferred) : Prop := ∀ w, Sat m L w → wpList P ops Q l (acts n f ds) w
def CS (P : Program) (m : Meta) (L : List HP) (c : Code) (Q : Exit → Act → World → Prop) (n : Nat) (f : Env) (ds : List Deferred) : Prop := ∀ w, Sat m L w → c.wp P Q (acts n f ds) w
/-- What stands behind a piece of code. -/
def KS (m : Meta) (L : List HP) (Q : Exit → Act → World → Prop) (e : Exit) (n : Nat) (f : Env) (ds : List Deferred) : Prop := ∀ w, Sat m L w → Q e (acts n f ds) w
def AWl (P : Program) (ops : Array Oper) (m : Meta) (L : List HP) (Qs : Nat → Option QS) (K : Act → Made → Prop) : List (Nat × Oper) → Act → Made → Prop
  | [], a, R => K a R
  | (i, o) :: rest, a, R =>
    if Region.wanted o (yielded ops a.tmps) then stepA P m L i (execOp a.eval o) (Qs i) (fun v R' => AWl P ops m L Qs K rest (a.put o.dst v) R') R
    else AWl P ops m L Qs K rest (a.put o.dst undef) R
def AR (P : Program) (ops : Array Oper) (m : Meta) (L : List HP) (Qs : Nat → Option QS) (K : Act → Made → Prop) (l : List (Nat × Oper)) (n : Nat) (f : Env) (ds : List Deferred) (R : Made) : Prop := AWl P ops m L Qs K l (acts n f ds) R
/-- A call: what its arguments come to, what is there, and what is there behind it. -/
def Tri (P : Program) (m : Meta) (g : FuncId) (args : Array Value) (L : List HP) (Post : Value → World → Prop) : Prop := ∀ w, Sat m L w → Calls P g args w fun e w' => ∃ v, e = .returned v ∧ Post v w'

variable {P : Program} {ops : Array Oper} {m : Meta} {L L' : List HP} {Q : Exit → Act → World → Prop} {n : Nat} {f : Env} {ds : List Deferred} {Qs : Nat → Option QS} {K : Act → Made → Prop} {R : Made}

theorem stepA_imp {i : Nat} {s : Sem Next} {oq : Option QS} {K K' : Value → Made → Prop} {R : Made} (hk : ∀ v S, K v S → K' v S) (h : stepA P m L i s oq K R) : stepA P m L i s oq K' R := by
  cases oq with
  | none => exact let ⟨v, h1, h2⟩ := h; ⟨v, h1, hk _ _ h2⟩
  | some q => exact ⟨h.1, h.2.1, fun v hv => hk _ _ (h.2.2 v hv)⟩
theorem awl_aw : ∀ (hd : List Nat) (a : Act) (R : Made), AWl P ops m L Qs K (hd.filterMap fun i => (ops[i]?).map fun o => (i, o)) a R → AW P ops m L Qs K hd a R
  | [], _, _, h => h
  | i :: hd, a, R, h => by
    unfold AW aOp
    cases ho : ops[i]? with
    | none => simp only [List.filterMap_cons, ho, Option.map_none] at h; exact awl_aw hd a R h
    | some o =>
      simp only [List.filterMap_cons, ho, Option.map_some, AWl] at h
      simp only []
      split
      · rename_i hw; simp only [hw, if_true] at h; exact stepA_imp (fun v S h' => awl_aw hd _ S h') h
      · rename_i hw; simp only [hw] at h; exact awl_aw hd _ _ h
theorem wpOps_list : ∀ (tl : List Nat) (a : Act) (w : World), wpList P ops Q (tl.filterMap fun i => ops[i]?) a w → wpOps P ops Q tl a w
  | [], _, _, h => h
  | i :: tl, a, w, h => by
    rw [wpOps_cons]
    unfold wpOp
    cases ho : ops[i]? with
    | none => simp only [List.filterMap_cons, ho] at h; exact wpOps_list tl a w h
    | some o =>
      simp only [List.filterMap_cons, ho, wpList] at h
      simp only []
      split
      · rename_i hw
        simp only [hw, if_true] at h
        exact h.imp (fun h => Oper.wp_mono (fun a w h' => wpOps_list tl a w h') h) id
      · rename_i hw; simp only [hw] at h; exact wpOps_list tl _ w h

/-! ### code -/
/-- The end of a body: it returns what Post says. -/
def FP (P : Program) (fn : Func) (Post : Value → World → Prop) : Exit → Act → World → Prop := bodyPost P fn fun e w' => ∃ v, e = .returned v ∧ Post v w'

theorem tri_enter {g : FuncId} {args : Array Value} {Post : Value → World → Prop} {fn : Func} {c : Code} {n : Nat} (hf : P.funcs[g]? = some fn) (hb : fn.body = some c) (hn : fn.ntmps = n) (hle : decide (args.size ≤ n) = true)
    (h : CS P m L c (FP P fn Post) n (argEnv args.toList 0) []) : Tri P m g args L Post := fun w hw =>
  calls_of_wp hf hb (by rw [hn, acts_enter args n (of_decide_eq_true hle)]; exact h w hw)
theorem cs_seq {x y : Code} (h : ∀ K : Act → World → Prop, (∀ a w, y.wp P Q a w → K a w) → CS P m L x (Exit.then K Q) n f ds) : CS P m L (.seq x y) Q n f ds := fun w hw => wp_seq_k fun K hK => h K hK w hw
theorem cs_skip (h : KS m L Q .normal n f ds) : CS P m L .skip Q n f ds := fun w hw => wp_skip (h w hw)
theorem cs_ret (h : KS m L Q .ret n f ds) : CS P m L .ret Q n f ds := fun w hw => wp_ret (h w hw)
theorem cs_exit {id : Nat} (h : KS m L Q (.exit id) n f ds) : CS P m L (.exit id) Q n f ds := fun w hw => wp_exit (h w hw)
theorem cs_label {l : Nat} (h : KS m L Q .normal n f ds) : CS P m L (.label l) Q n f ds := fun w hw => wp_label (h w hw)
theorem cs_block {id : Nat} {c : Code} (h : CS P m L c (Exit.inBlock id Q) n f ds) : CS P m L (.block id c) Q n f ds := fun w hw => wp_block (h w hw)
theorem cs_cond {c : Operand} {x y : Code} {t : Bool} (hc : (acts n f ds).eval c = .bool t) (h1 : t = true → CS P m L x Q n f ds) (h2 : t = false → CS P m L y Q n f ds) : CS P m L (.cond c x y) Q n f ds := fun w hw =>
  wp_cond_split hc (fun h => h1 h w hw) (fun h => h2 h w hw)
theorem cs_true {c : Operand} {x y : Code} (hc : (acts n f ds).eval c = .bool true) (h1 : CS P m L x Q n f ds) : CS P m L (.cond c x y) Q n f ds := fun w hw => wp_cond_true hc (h1 w hw)
theorem cs_false {c : Operand} {x y : Code} (hc : (acts n f ds).eval c = .bool false) (h1 : CS P m L y Q n f ds) : CS P m L (.cond c x y) Q n f ds := fun w hw => wp_cond_false hc (h1 w hw)
theorem cs_region {id : Nat} {l : List Oper} (h : WL P l.toArray m L Q l n f ds) : CS P m L (.region id l.toArray false) Q n f ds := fun w hw => wp_region_lit (h w hw)
theorem cs_draw {id : Nat} {l : List Oper} (hd tl : List Nat) (qs : List (Nat × QS)) (hm : P.follows .mixedOrders = true)
    (hB : (orderO .any l.toArray hd tl && decide (hd.length + tl.length = l.length) && decide ((qs.map (·.1)).Nodup) && qs.all fun p => decide (p.1 < l.length) && p.2.u.all fun j => waitsT .any l.toArray 6 p.1 j) = true) (hL : ∀ w, Sat m L' w → Sat m (qs.map (·.2.c) ++ L) w)
    (h : AR P l.toArray m L (qsOf qs) (fun a' R => ∀ w, Sat m (R.all ++ L) w → wpList P l.toArray Q (tl.filterMap fun i => l.toArray[i]?) a' w) (hd.filterMap fun i => (l.toArray[i]?).map fun o => (i, o)) n f ds []) :
    CS P m L' (.region id l.toArray true) Q n f ds := fun w hw =>
  wp_region_aw hd tl qs hm hB (AW_imp (fun a' _ h'' w hs => wpOps_list tl a' w (h'' w hs)) hd _ _ (awl_aw hd _ _ h)) w (hL w hw)
where
  AW_imp {ops : Array Oper} {K K' : Act → Made → Prop} {Qs : Nat → Option QS} (hk : ∀ a R, K a R → K' a R) : ∀ (l : List Nat) (a : Act) (R : Made), AW P ops m L Qs K l a R → AW P ops m L Qs K' l a R
    | [], _, _, h => hk _ _ h
    | i :: l, a, R, h => by
      unfold AW aOp at *
      split
      · rename_i ho; simp only [ho] at h; exact AW_imp hk l _ _ h
      · rename_i o ho
        simp only [ho] at h
        split
        · rename_i hw; simp only [hw, if_true] at h; exact stepA_imp (fun v S h' => AW_imp hk l _ S h') h
        · rename_i hw; simp only [hw] at h; exact AW_imp hk l _ _ h
theorem ks_then {x : Code} {Q' : Exit → Act → World → Prop} {K : Act → World → Prop} (hK : ∀ a w, x.wp P Q' a w → K a w) (h : CS P m L x Q' n f ds) : KS m L (Exit.then K Q) .normal n f ds := fun w hw => hK _ _ (h w hw)
theorem ks_other {e : Exit} {K : Act → World → Prop} (he : e ≠ .normal) (h : KS m L Q e n f ds) : KS m L (Exit.then K Q) e n f ds := fun w hw => by
  have := h w hw
  cases e <;> first | exact absurd rfl he | exact this
theorem ks_block {id : Nat} (h : KS m L Q .normal n f ds) : KS m L (Exit.inBlock id Q) (.exit id) n f ds := fun w hw => by simp only [Exit.inBlock, if_true]; exact h w hw
theorem ks_blockN {id : Nat} {e : Exit} (he : ∀ i, e ≠ .exit i) (h : KS m L Q e n f ds) : KS m L (Exit.inBlock id Q) e n f ds := fun w hw => by
  have := h w hw
  cases e <;> first | exact absurd rfl (he _) | exact this
theorem ks_block' {id id' : Nat} (hne : id' ≠ id) (h : KS m L Q (.exit id') n f ds) : KS m L (Exit.inBlock id Q) (.exit id') n f ds := fun w hw => by simp only [Exit.inBlock, if_neg hne]; exact h w hw

theorem ks_thenRet {K : Act → World → Prop} (h : KS m L Q .ret n f ds) : KS m L (Exit.then K Q) .ret n f ds := h
theorem ks_thenExit {K : Act → World → Prop} {id : Nat} (h : KS m L Q (.exit id) n f ds) : KS m L (Exit.then K Q) (.exit id) n f ds := h
theorem ks_blkRet {id : Nat} (h : KS m L Q .ret n f ds) : KS m L (Exit.inBlock id Q) .ret n f ds := h
theorem ks_blkNormal {id : Nat} (h : KS m L Q .normal n f ds) : KS m L (Exit.inBlock id Q) .normal n f ds := h
/-- A loop: what holds at each round's head, and a measure that goes down. -/
theorem cs_loop {α : Sort _} {c : Code} (I : α → Act → World → Prop) (μ : α → Nat) (x0 : α) (h0 : KS m L (fun _ a w => I x0 a w) .normal n f ds)
    (h : ∀ x a w, I x a w → c.wp P (Exit.then (fun a' w' => ∃ y, I y a' w' ∧ μ y < μ x) Q) a w) : CS P m L (.loop c) Q n f ds := by
  intro w hw
  intro b k cs
  have key : ∀ (N : Nat) (x : α) (a : Act) (w : World), μ x = N → I x a w →
      ∃ e a' w', Q e a' w' ∧ Arrives P (lone (b.at a (.code c :: .inLoop c :: k)) cs w) b k cs e a' w' := by
    intro N
    induction N using Nat.strongRecOn with
    | _ N ih =>
      intro x a w hN hI
      obtain ⟨e, a₁, w₁, hq, harr⟩ := h x a w hI b (.inLoop c :: k) cs
      cases e with
      | normal =>
        obtain ⟨y, hI₁, hlt⟩ := hq
        obtain ⟨e₂, a₂, w₂, hq₂, harr₂⟩ := ih (μ y) (hN ▸ hlt) y a₁ w₁ rfl hI₁
        exact ⟨e₂, a₂, w₂, hq₂, .of_steps (Steps.trans harr (.one step_inLoop)) harr₂⟩
      | exit id => exact ⟨_, a₁, w₁, hq, .pass (x := .inLoop c) rfl (fun _ _ => .inl (by simp)) harr⟩
      | goto l => exact ⟨_, a₁, w₁, hq, .pass (x := .inLoop c) rfl (fun _ _ => .inl (by simp)) harr⟩
      | ret => exact ⟨_, a₁, w₁, hq, .pass (x := .inLoop c) rfl (fun _ _ => .inl (by simp)) harr⟩
      | panic ch => exact ⟨_, a₁, w₁, hq, .pass (x := .inLoop c) rfl (fun _ _ => .inl (by simp)) harr⟩
      | outgrown => exact ⟨_, a₁, w₁, hq, .pass (x := .inLoop c) rfl (fun _ _ => .inl (by simp)) harr⟩
  obtain ⟨e, a', w', hq, harr⟩ := key _ x0 _ w rfl (h0 w hw)
  exact ⟨e, a', w', hq, .of_steps (.one step_loop) harr⟩

/-! ### frames of which some slots are known; loops, and ways that meet again -/
def upds (g : Env) : List (Nat × Value) → Env
  | [] => g
  | (d, v) :: l => upd (upds g l) d v
def Slots (f : Env) : List (Nat × Value) → Prop
  | [] => True
  | (d, v) :: l => f d = v ∧ Slots f l
theorem upd_self {f : Env} {d : Nat} {v : Value} (h : f d = v) : upd f d v = f := by
  funext t; unfold upd; split
  · rename_i e; subst e; exact h.symm
  · rfl
theorem upds_self {f : Env} : ∀ {l : List (Nat × Value)}, Slots f l → upds f l = f
  | [], _ => rfl
  | (d, v) :: l, h => by unfold upds; rw [upds_self h.2, upd_self h.1]
/-- The frame's slots are as S says (whatever else it holds), the world holds LL. -/
def At (m : Meta) (n : Nat) (ds : List Deferred) (S : List (Nat × Value)) (L : List HP) (a : Act) (w : World) : Prop := ∃ g, a = acts n (upds g S) ds ∧ Sat m L w
def Ends {α : Sort _} (m : Meta) (n : Nat) (ds : List Deferred) (S : α → List (Nat × Value)) (LL : α → List HP) (φ : α → Prop) (a : Act) (w : World) : Prop := ∃ y, φ y ∧ At m n ds (S y) (LL y) a w
theorem cs_loopS {α : Sort _} {c : Code} (S : α → List (Nat × Value)) (LL : α → List HP) (φ : α → Prop) (μ : α → Nat) (x0 : α) (h0 : φ x0) (hs : Slots f (S x0)) (hL : ∀ w, Sat m L w → Sat m (LL x0) w)
    (h : ∀ x g, φ x → CS P m (LL x) c (Exit.then (Ends m n ds S LL fun y => φ y ∧ μ y < μ x) Q) n (upds g (S x)) ds) : CS P m L (.loop c) Q n f ds := by
  refine cs_loop (fun x a w => φ x ∧ At m n ds (S x) (LL x) a w) μ x0 (fun w hw => ⟨h0, f, by rw [upds_self hs], hL w hw⟩) ?_
  rintro x a w ⟨hx, g, rfl, hw⟩
  refine wp_mono (h x g hx w hw) fun e a' w' hq => ?_
  cases e <;> first | exact hq | (obtain ⟨y, ⟨h1, h2⟩, h3⟩ := hq; exact ⟨y, ⟨h1, h3⟩, h2⟩)
theorem ks_ends {α : Sort _} {S : α → List (Nat × Value)} {LL : α → List HP} {φ : α → Prop} (y : α) (hy : φ y) (hs : Slots f (S y)) (hL : ∀ w, Sat m L w → Sat m (LL y) w) : KS m L (Exit.then (Ends m n ds S LL φ) Q) .normal n f ds :=
  fun w hw => ⟨y, hy, f, by rw [upds_self hs], hL w hw⟩
theorem cs_cut {α : Sort _} {x y : Code} (S : α → List (Nat × Value)) (LL : α → List HP) (φ : α → Prop) (h1 : CS P m L x (Exit.then (Ends m n ds S LL φ) Q) n f ds) (h2 : ∀ i g, φ i → CS P m (LL i) y Q n (upds g (S i)) ds) : CS P m L (.seq x y) Q n f ds := fun w hw =>
  wp_seq (wp_mono (h1 w hw) fun e a w' hq => by
    cases e <;> first | exact hq | (obtain ⟨i, hi, g, rfl, hs⟩ := hq; exact h2 i g hi w' hs))

/-! ### facts that the parts tell -/
theorem Tri.facts {g : FuncId} {args : Array Value} {Post : Value → World → Prop} {φ : Prop} (h : ∀ w, Sat m L w → φ) (k : φ → Tri P m g args L Post) : Tri P m g args L Post := fun w hw => k (h w hw) w hw
theorem CS.facts {c : Code} {φ : Prop} (h : ∀ w, Sat m L w → φ) (k : φ → CS P m L c Q n f ds) : CS P m L c Q n f ds := fun w hw => k (h w hw) w hw
theorem WL.facts {l : List Oper} {φ : Prop} (h : ∀ w, Sat m L w → φ) (k : φ → WL P ops m L Q l n f ds) : WL P ops m L Q l n f ds := fun w hw => k (h w hw) w hw
theorem KS.facts {e : Exit} {φ : Prop} (h : ∀ w, Sat m L w → φ) (k : φ → KS m L Q e n f ds) : KS m L Q e n f ds := fun w hw => k (h w hw) w hw
theorem WL.pre {l : List Oper} (h : ∀ w, Sat m L w → Sat m L' w) (k : WL P ops m L' Q l n f ds) : WL P ops m L Q l n f ds := fun w hw => k w (h w hw)
theorem CS.pre {c : Code} (h : ∀ w, Sat m L w → Sat m L' w) (k : CS P m L' c Q n f ds) : CS P m L c Q n f ds := fun w hw => k w (h w hw)
theorem KS.pre {e : Exit} (h : ∀ w, Sat m L w → Sat m L' w) (k : KS m L' Q e n f ds) : KS m L Q e n f ds := fun w hw => k w (h w hw)

/-! ### the end of a body -/
theorem fp_ret1 {fn : Func} {Post : Value → World → Prop} {t : Tmp} {v : Value} (hr : fn.results = #[.tmp t]) (hv : (acts n f []).tmps.getD t undef = v) (h : ∀ w, Sat m L w → Post v w) : KS m L (FP P fn Post) .ret n f [] := fun w hw =>
  bodyPost_ret (results_tmp hr _ _ _) rfl ⟨_, rfl, by rw [hv]; exact h w hw⟩
theorem fp_ret2 {fn : Func} {Post : Value → World → Prop} {t u : Tmp} {v v' : Value} (hr : fn.results = #[.tmp t, .tmp u]) (hv : (acts n f []).tmps.getD t undef = v) (hv' : (acts n f []).tmps.getD u undef = v')
    (h : ∀ w, Sat m L w → Post (.tuple #[v, v']) w) : KS m L (FP P fn Post) .ret n f [] := fun w hw =>
  bodyPost_ret (results_tmp2 hr _ _ _) rfl ⟨_, rfl, by rw [hv, hv']; exact h w hw⟩
theorem results_tmp3' {fn : Func} {t u s : Tmp} (h : fn.results = #[.tmp t, .tmp u, .tmp s]) (tmps : Array Value) (P : Program) (w : World) :
    (results fn tmps).run P w = .ok (.tuple #[tmps.getD t undef, tmps.getD u undef, tmps.getD s undef]) w := by
  simp [results, h]
theorem fp_ret3 {fn : Func} {Post : Value → World → Prop} {t u s : Tmp} {v v' v'' : Value} (hr : fn.results = #[.tmp t, .tmp u, .tmp s]) (hv : (acts n f []).tmps.getD t undef = v) (hv' : (acts n f []).tmps.getD u undef = v') (hv'' : (acts n f []).tmps.getD s undef = v'')
    (h : ∀ w, Sat m L w → Post (.tuple #[v, v', v'']) w) : KS m L (FP P fn Post) .ret n f [] := fun w hw =>
  bodyPost_ret (results_tmp3' hr _ _ _) rfl ⟨_, rfl, by rw [hv, hv', hv'']; exact h w hw⟩
theorem fp_end {fn : Func} {Post : Value → World → Prop} (hr : fn.results = #[]) (h : ∀ w, Sat m L w → Post (.tuple #[]) w) : KS m L (FP P fn Post) .normal n f [] := fun w hw =>
  bodyPost_end (results_none hr _ _ _) rfl ⟨_, rfl, h w hw⟩
theorem fp_ret0 {fn : Func} {Post : Value → World → Prop} (hr : fn.results = #[]) (h : ∀ w, Sat m L w → Post (.tuple #[]) w) : KS m L (FP P fn Post) .ret n f [] := fun w hw =>
  bodyPost_ret (results_none hr _ _ _) rfl ⟨_, rfl, h w hw⟩

/-! ### operations one by one -/
section
variable {d : Option Tmp} {op : Op} {ty : TypeId} {pos : String} {aft : Array Edge} {rest : List Oper} {resta : List (Nat × Oper)} {i : Nat} {v : Value}

theorem wl_nil (h : KS m L Q .normal n f ds) : WL P ops m L Q [] n f ds := h
theorem wl_of {o : Oper} (hg : o.guard = none) (h : ∀ w, Sat m L w → o.wp P (acts n f ds) w (wpList P ops Q rest) Q) : WL P ops m L Q (o :: rest) n f ds := fun w hw => by
  unfold wpList
  rw [if_pos (by simp [Region.wanted, hg])]
  exact .inl (h w hw)
theorem wl_read (h : Reads P m L (execOp (acts n f ds).eval ⟨d, op, ty, pos, aft, none⟩) v) (k : WL P ops m L Q rest n (updO f d v) ds) : WL P ops m L Q (⟨d, op, ty, pos, aft, none⟩ :: rest) n f ds :=
  wl_of rfl fun w hw => by
    simp only [Oper.wp, h w hw, Oper.upon, acts_put]
    exact k w hw
theorem ar_read (hq : Qs i = none) (h : Reads P m L (execOp (acts n f ds).eval ⟨d, op, ty, pos, aft, none⟩) v) (k : AR P ops m L Qs K resta n (updO f d v) ds R) : AR P ops m L Qs K ((i, ⟨d, op, ty, pos, aft, none⟩) :: resta) n f ds R := by
  unfold AR AWl
  rw [if_pos (by simp [Region.wanted]), hq]
  refine ⟨v, h, ?_⟩
  show AWl P ops m L Qs K resta _ _
  rw [acts_put]
  exact k
theorem ar_make {q : QS} (hq : Qs i = some q) (h : Makes P m (R.used q.u ++ L) (execOp (acts n f ds).eval ⟨d, op, ty, pos, aft, none⟩) q (R.rel q.u)) (hex : ∃ v, q.p (R.rel q.u) v)
    (k : ∀ v, q.p (R.rel q.u) v → AR P ops m L Qs K resta n (updO f d v) ds ((i, v, q.q (R.rel q.u) v) :: R)) : AR P ops m L Qs K ((i, ⟨d, op, ty, pos, aft, none⟩) :: resta) n f ds R := by
  unfold AR AWl
  rw [if_pos (by simp [Region.wanted]), hq]
  refine ⟨h, hex, fun v hv => ?_⟩
  show AWl P ops m L Qs K resta _ _
  rw [acts_put]
  exact k v hv
theorem ar_nil (h : K (acts n f ds) R) : AR P ops m L Qs K [] n f ds R := h
theorem ar_end {tl : List Oper} (h : WL P ops m (R.all ++ L) Q tl n f ds) : AR P ops m L Qs (fun a' R => ∀ w, Sat m (R.all ++ L) w → wpList P ops Q tl a' w) [] n f ds R := h
/-- a guarded operation: wanted, or not -/
theorem wl_want {j : Nat} {b : Bool} (hy : yielded ops (acts n f ds).tmps j = some b) (k : WL P ops m L Q (⟨d, op, ty, pos, aft, none⟩ :: rest) n f ds) : WL P ops m L Q (⟨d, op, ty, pos, aft, some (j, b)⟩ :: rest) n f ds := fun w hw => by
  have := k w hw
  unfold wpList at *
  rw [if_pos (by simp [Region.wanted, hy])]
  rw [if_pos (by simp [Region.wanted])] at this
  exact this
theorem wl_pass {j : Nat} {b b' : Bool} (hy : yielded ops (acts n f ds).tmps j = some b') (hne : b' ≠ b) (k : WL P ops m L Q rest n (updO f d undef) ds) : WL P ops m L Q (⟨d, op, ty, pos, aft, some (j, b)⟩ :: rest) n f ds := fun w hw => by
  unfold wpList
  rw [if_neg (by simp [Region.wanted, hy, hne]), acts_put]
  exact k w hw
theorem ar_want {j : Nat} {b : Bool} (hy : yielded ops (acts n f ds).tmps j = some b) (k : AR P ops m L Qs K ((i, ⟨d, op, ty, pos, aft, none⟩) :: resta) n f ds R) : AR P ops m L Qs K ((i, ⟨d, op, ty, pos, aft, some (j, b)⟩) :: resta) n f ds R := by
  unfold AR AWl at *
  rw [if_pos (by simp [Region.wanted, hy])]
  rw [if_pos (by simp [Region.wanted])] at k
  exact k
theorem ar_pass {j : Nat} {b b' : Bool} (hy : yielded ops (acts n f ds).tmps j = some b') (hne : b' ≠ b) (k : AR P ops m L Qs K resta n (updO f d undef) ds R) : AR P ops m L Qs K ((i, ⟨d, op, ty, pos, aft, some (j, b)⟩) :: resta) n f ds R := by
  unfold AR AWl
  rw [if_neg (by simp [Region.wanted, hy, hne]), acts_put]
  exact k
theorem wl_guard {j d' : Nat} {o' : Oper} {b bv : Bool} (ho : ops[j]? = some o') (hd : o'.dst = some d') (hn : d' < n) (hf : f d' = .bool bv) (k1 : bv = b → WL P ops m L Q (⟨d, op, ty, pos, aft, none⟩ :: rest) n f ds)
    (k2 : bv = !b → WL P ops m L Q rest n (updO f d undef) ds) : WL P ops m L Q (⟨d, op, ty, pos, aft, some (j, b)⟩ :: rest) n f ds := by
  have hy := acts_yielded ops n f ds j d' o' bv ho hd hn hf
  by_cases h : bv = b
  · subst h; exact wl_want hy (k1 rfl)
  · exact wl_pass hy h (k2 (by cases bv <;> cases b <;> simp_all))
theorem ar_guard {j d' : Nat} {o' : Oper} {b bv : Bool} (ho : ops[j]? = some o') (hd : o'.dst = some d') (hn : d' < n) (hf : f d' = .bool bv) (k1 : bv = b → AR P ops m L Qs K ((i, ⟨d, op, ty, pos, aft, none⟩) :: resta) n f ds R)
    (k2 : bv = !b → AR P ops m L Qs K resta n (updO f d undef) ds R) : AR P ops m L Qs K ((i, ⟨d, op, ty, pos, aft, some (j, b)⟩) :: resta) n f ds R := by
  have hy := acts_yielded ops n f ds j d' o' bv ho hd hn hf
  by_cases h : bv = b
  · subst h; exact ar_want hy (k1 rfl)
  · exact ar_pass hy h (k2 (by cases bv <;> cases b <;> simp_all))
/-- An unguarded operation that yields nothing that passes through a reading: whatever it comes to. -/
theorem wl_upon {Kv : Value → World → Prop} (h : ∀ w, Sat m L w → uponV P Kv ((execOp (acts n f ds).eval ⟨d, op, ty, pos, aft, none⟩).run P w)) (k : ∀ v w, Kv v w → wpList P ops Q rest (acts n (updO f d v) ds) w) :
    WL P ops m L Q (⟨d, op, ty, pos, aft, none⟩ :: rest) n f ds :=
  wl_of rfl fun w hw => wp_of_uponV (h w hw) fun v w' hv => by rw [acts_put]; exact k v w' hv
theorem wl_go {w : World} (H : Sat m L' w) (k : WL P ops m L' Q rest n f ds) : wpList P ops Q rest (acts n f ds) w := k w H
end
end Go.Proofs.Ytkpkehfoilchaaa
