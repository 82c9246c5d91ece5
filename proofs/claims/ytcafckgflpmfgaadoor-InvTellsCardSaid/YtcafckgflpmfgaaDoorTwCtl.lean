/- The typed layer: control; entering and leaving a function. -/
import Derived.Test.YtcafckgflpmfgaaDoorTwCore
import Derived.RangeFuncLeaves
import Derived.RangeFuncRecord
namespace Go.Tw
open Go Go.RowKit

abbrev Post := Env → Heap → Prop
/-- .. and the calls that are put off: marks of ranges over functions -/
abbrev DPost := List Deferred → Post

def mkQ (n : Nat) (r : World) (N : DPost) (X : Nat → DPost) (R : DPost) : Exit → Act → World → Prop
  | .normal, a, w => ∃ d e h dr, a = act n e d ∧ w = wd r h dr ∧ N d e h
  | .exit i, a, w => ∃ d e h dr, a = act n e d ∧ w = wd r h dr ∧ X i d e h
  | .ret, a, w => ∃ d e h dr, a = act n e d ∧ w = wd r h dr ∧ R d e h
  | _, _, _ => False

/-- where a piece of code is walked -/
structure Pl where
  P : Program
  r : World
  ro : Option Nat
  n : Nat

def Pl.cx (p : Pl) (d : List Deferred) (ops : Array Oper) : Cx := ⟨p.P, p.r, p.ro, p.n, d, ops⟩

def W (p : Pl) (d : List Deferred) (c : Code) (N : DPost) (X : Nat → DPost) (R : DPost) (e : Env) (h : Heap) : Prop :=
  ∀ dr, c.wpIn (FW p.ro) 0 p.P (mkQ p.n p.r N X R) (act p.n e d) (wd p.r h dr)

/-- within a loop, at a round's head -/
def WL (p : Pl) (d : List Deferred) (c : Code) (N : DPost) (X : Nat → DPost) (R : DPost) (e : Env) (h : Heap) : Prop :=
  ∀ dr, ∀ (b : Frame) (k : List Item) (cs : List Frame), b.roundOf = (FW p.ro).round → (FW p.ro).fn b.fn → (FW p.ro).room (cs.length + 1 + 0) →
    ∃ x a' w', mkQ p.n p.r N X R x a' w' ∧ ArrivesIn (Machine.fenced p.P (FW p.ro)) p.P (lone (b.atR (act p.n e d) (.code c :: .inLoop c :: k)) cs (wd p.r h dr)) b k cs x a' w'

section control
variable {p : Pl} {d : List Deferred} {N : DPost} {X : Nat → DPost} {R : DPost} {e : Env} {h : Heap}

theorem mkQ_mono {n : Nat} {r : World} {N' : DPost} {X' : Nat → DPost} {R' : DPost} (hN : ∀ d e h, N d e h → N' d e h) (hX : ∀ i d e h, X i d e h → X' i d e h) (hR : ∀ d e h, R d e h → R' d e h) :
    ∀ x a w, mkQ n r N X R x a w → mkQ n r N' X' R' x a w := fun x a w hq => by
  cases x with
  | normal => obtain ⟨d, e, h, dr, ha, hw, hn⟩ := hq; exact ⟨d, e, h, dr, ha, hw, hN _ _ _ hn⟩
  | exit i => obtain ⟨d, e, h, dr, ha, hw, hn⟩ := hq; exact ⟨d, e, h, dr, ha, hw, hX _ _ _ _ hn⟩
  | ret => obtain ⟨d, e, h, dr, ha, hw, hn⟩ := hq; exact ⟨d, e, h, dr, ha, hw, hR _ _ _ hn⟩
  | _ => exact hq

theorem W.mono {c : Code} {N' : DPost} {X' : Nat → DPost} {R' : DPost} (hw : W p d c N X R e h) (hN : ∀ d e h, N d e h → N' d e h) (hX : ∀ i d e h, X i d e h → X' i d e h) (hR : ∀ d e h, R d e h → R' d e h) : W p d c N' X' R' e h := fun dr =>
  wpIn_mono (hw dr) (mkQ_mono hN hX hR)

theorem W_skip (h1 : N d e h) : W p d .skip N X R e h := fun _ => wpIn_skip ⟨_, _, _, _, rfl, rfl, h1⟩
theorem W_ret (h1 : R d e h) : W p d .ret N X R e h := fun _ => wpIn_ret ⟨_, _, _, _, rfl, rfl, h1⟩
theorem W_exit {i : Nat} (h1 : X i d e h) : W p d (.exit i) N X R e h := fun _ => wpIn_exit ⟨_, _, _, _, rfl, rfl, h1⟩
theorem W_seq {x y : Code} (h1 : W p d x (fun d e h => W p d y N X R e h) X R e h) : W p d (.seq x y) N X R e h := fun dr =>
  wpIn_seq (wpIn_mono (h1 dr) fun q a w hq => by
    cases q with
    | normal => obtain ⟨d, e, h, dr, rfl, rfl, hn⟩ := hq; exact hn dr
    | exit i => exact hq
    | ret => exact hq
    | _ => exact hq)
theorem W_if {c : Operand} {x y : Code} (t : Bool) (hc : ev p.n e c = .bool t) (h1 : t = true → W p d x N X R e h) (h2 : t = false → W p d y N X R e h) : W p d (.cond c x y) N X R e h := fun dr =>
  wpIn_cond_split (t := t) (by rw [act_eval]; exact hc) (fun ht => h1 ht dr) (fun ht => h2 ht dr)

def inX (id : Nat) (N : DPost) (X : Nat → DPost) : Nat → DPost := fun i => bif Nat.beq i id then N else X i
theorem W_block {id : Nat} {c : Code} (h1 : W p d c N (inX id N X) R e h) : W p d (.block id c) N X R e h := fun dr =>
  wpIn_block (wpIn_mono (h1 dr) fun q a w hq => by
    cases q with
    | normal => exact hq
    | exit i =>
      obtain ⟨d, e, h, dr, ha, hw, hn⟩ := hq
      simp only [Exit.inBlock]
      by_cases hi : i = id
      · subst hi
        have : Nat.beq i i = true := Nat.beq_refl i
        simp only [inX, this, cond_true] at hn
        simp only [if_true]; exact ⟨d, e, h, dr, ha, hw, hn⟩
      · have : Nat.beq i id = false := by
          cases hb : Nat.beq i id with
          | false => rfl
          | true => exact absurd (Nat.eq_of_beq_eq_true hb) hi
        simp only [inX, this, cond_false] at hn
        simp only [hi, if_false]; exact ⟨d, e, h, dr, ha, hw, hn⟩
    | ret => exact hq
    | _ => exact hq)

/-- a round of a loop -/
theorem WL_round {c : Code} (h1 : W p d c (fun d e h => WL p d c N X R e h) X R e h) : WL p d c N X R e h := by
  intro dr b k cs hro hb hr
  obtain ⟨x, a₁, w₁, hq, harr⟩ := h1 dr b (.inLoop c :: k) cs hro hb hr
  cases x with
  | normal =>
    obtain ⟨d, e, h, dr, rfl, rfl, hn⟩ := hq
    obtain ⟨x₂, a₂, w₂, hq₂, harr₂⟩ := hn dr b k cs hro hb hr
    exact ⟨x₂, a₂, w₂, hq₂, .of_steps (StepsIn.trans harr (.one (fenced_calm hb hr rfl) stepR_inLoop)) harr₂⟩
  | exit id => exact ⟨.exit id, a₁, w₁, hq, .pass (x := .inLoop c) rfl (fun _ _ => .inl (by simp)) harr⟩
  | goto l => exact ⟨.goto l, a₁, w₁, hq, .pass (x := .inLoop c) rfl (fun _ _ => .inl (by simp)) harr⟩
  | ret => exact ⟨.ret, a₁, w₁, hq, .pass (x := .inLoop c) rfl (fun _ _ => .inl (by simp)) harr⟩
  | panic ch => exact ⟨.panic ch, a₁, w₁, hq, .pass (x := .inLoop c) rfl (fun _ _ => .inl (by simp)) harr⟩
  | outgrown => exact ⟨.outgrown, a₁, w₁, hq, .pass (x := .inLoop c) rfl (fun _ _ => .inl (by simp)) harr⟩

theorem W_loop {c : Code} (h1 : WL p d c N X R e h) : W p d (.loop c) N X R e h := by
  intro dr b k cs hro hb hr
  obtain ⟨x, a', w', hq, harr⟩ := h1 dr b k cs hro hb hr
  exact ⟨x, a', w', hq, .of_steps (.one (fenced_calm hb hr rfl) stepR_loop) harr⟩

theorem W_region {id : Nat} {ops : Array Oper} (t : Tr) (hl : lin t = some (List.range ops.size)) (hd : noDefers ops = true) (hs : S (p.cx d ops) (N d) t [] e h) : W p d (.region id ops false) N X R e h := fun _ =>
  region_lin (c := p.cx d ops) hl hd (fun e h dr hk => ⟨d, e, h, dr, rfl, rfl, hk⟩) hs

theorem W_draw {id : Nat} {ops : Array Oper} (bm : List Nat) (t : Tr) (hf : p.P.follows .mixedOrders = true) (h1 : (okMask ops.toList bm 0 ops.toList && okLook ops bm && okT ops bm t 0 0 && noDefers ops) = true)
    (hs : S (p.cx d ops) (N d) t [] e h) : W p d (.region id ops true) N X R e h := fun _ =>
  region_any (c := p.cx d ops) bm hf h1 (fun e h dr hk => ⟨d, e, h, dr, rfl, rfl, hk⟩) hs
end control

/-! ### Environments that are known at some slots -/

def mkE : List (Nat × Value) → Env → Env
  | [], b => b
  | (t, v) :: l, b => upd (mkE l b) t v

def At (e : Env) : List (Nat × Value) → Prop
  | [] => True
  | (t, v) :: l => e t = v ∧ At e l

theorem upd_self {e : Env} {t : Nat} {v : Value} (h : e t = v) : upd e t v = e := by
  funext s
  by_cases hs : s = t
  · subst hs; rw [upd_same, h]
  · rw [upd_ne _ _ hs]

theorem mkE_self {e : Env} {l : List (Nat × Value)} (h : At e l) : mkE l e = e := by
  induction l with
  | nil => rfl
  | cons x l ih =>
    obtain ⟨t, v⟩ := x
    obtain ⟨h1, h2⟩ := h
    rw [mkE, ih h2, upd_self h1]

/-- what holds of every environment that has these values holds of this one -/
theorem of_mk {Q : Env → Prop} {l : List (Nat × Value)} (hq : ∀ b, Q (mkE l b)) {e : Env} (h : At e l) : Q e := by
  have := hq e
  rwa [mkE_self h] at this

/-! ### A function -/

/-- a call, told by heaps: whatever has been drawn -/
def CallsH (P : Program) (r : World) (f : FuncId) (args : List Value) (h : Heap) (R : Value → Heap → Prop) : Prop :=
  ∀ dr, Calls P f args.toArray (wd r h dr) fun x w => ∃ v h' dr', x = .returned v ∧ w = wd r h' dr' ∧ R v h'

theorem CallsH.mono {P : Program} {r : World} {f : FuncId} {args : List Value} {h : Heap} {R R' : Value → Heap → Prop} (hc : CallsH P r f args h R) (hr : ∀ v h, R v h → R' v h) : CallsH P r f args h R' := fun dr =>
  (hc dr).mono fun _ _ ⟨v, h', dr', hx, hw, hR⟩ => ⟨v, h', dr', hx, hw, hr _ _ hR⟩

/-- what a function hands back -/
def Res (P : Program) (r : World) (n : Nat) (e : Env) (h : Heap) : List ResultVar → List Value → Prop
  | [], vs => vs = []
  | .tmp t :: l, vs => ∃ v vs', vs = v :: vs' ∧ ev n e (.tmp t) = v ∧ Res P r n e h l vs'
  | .cell a t :: l, vs => ∃ v vs' p, vs = v :: vs' ∧ ev n e (.tmp a) = .pointer (some p) ∧ (∀ dr, (loadVar t p).run P (wd r h dr) = .ok v (wd r h dr)) ∧ Res P r n e h l vs'

def tup : List Value → Value
  | [v] => v
  | l => .tuple l.toArray

theorem getD_act (n : Nat) (e : Env) (d : List Deferred) (t : Nat) : (act n e d).tmps.getD t undef = ev n e (.tmp t) := by
  have := congrFun (act_eval n e d) (.tmp t)
  simpa [Act.eval] using this

/-- one result -/
def resF (tmps : Array Value) : ResultVar → Sem Value
  | .tmp t => pure (tmps.getD t undef)
  | .cell a t => do loadVar t (← asAddr (tmps.getD a undef))

theorem run_res1 {P : Program} {r : World} {n : Nat} {e : Env} {d : List Deferred} {h : Heap} {x : ResultVar} {v : Value} (hr : Res P r n e h [x] [v]) (dr : Nat) :
    (resF (act n e d).tmps x).run P (wd r h dr) = .ok v (wd r h dr) := by
  cases x with
  | tmp t =>
    obtain ⟨v', vs', hv, he, _⟩ := hr
    obtain ⟨rfl, _⟩ := List.cons.inj hv
    simp only [resF, getD_act, he]
    rfl
  | cell a t =>
    obtain ⟨v', vs', p, hv, he, hl, _⟩ := hr
    obtain ⟨rfl, _⟩ := List.cons.inj hv
    simp only [resF, getD_act, he]
    exact hl dr

theorem results_eq (fn : Func) (tmps : Array Value) : results fn tmps = (do let vs ← fn.results.mapM (resF tmps); pure (if h : vs.size = 1 then vs[0] else .tuple vs)) := rfl

theorem run_results {P : Program} {r : World} {fn : Func} {n : Nat} {e : Env} {d : List Deferred} {h : Heap} {l : List ResultVar} {vs : List Value} (hl : fn.results = l.toArray) (h4 : l.length ≤ 4) (hr : Res P r n e h l vs) (dr : Nat) :
    (results fn (act n e d).tmps).run P (wd r h dr) = .ok (tup vs) (wd r h dr) := by
  have split : ∀ (x : ResultVar) (l : List ResultVar) (vs : List Value), Res P r n e h (x :: l) vs → ∃ v vs', vs = v :: vs' ∧ Res P r n e h [x] [v] ∧ Res P r n e h l vs' := by
    intro x l vs hr
    cases x with
    | tmp t => obtain ⟨v, vs', rfl, hv, hr⟩ := hr; exact ⟨v, vs', rfl, ⟨v, [], rfl, hv, rfl⟩, hr⟩
    | cell a t => obtain ⟨v, vs', p, rfl, hp, hl, hr⟩ := hr; exact ⟨v, vs', rfl, ⟨v, [], p, rfl, hp, hl, rfl⟩, hr⟩
  rw [results_eq, hl]
  generalize hf : resF (act n e d).tmps = f
  have one : ∀ x v, Res P r n e h [x] [v] → (f x).run P (wd r h dr) = .ok v (wd r h dr) := fun x v hx => by rw [← hf]; exact run_res1 hx dr
  match l, h4, hr with
  | [], _, hr => obtain rfl : vs = [] := hr; simp [go_sem, tup]
  | [a], _, hr =>
    obtain ⟨v, vs', rfl, h1, hr⟩ := split _ _ _ hr
    obtain rfl : vs' = [] := hr
    have e1 := one _ _ h1
    simp [go_sem, e1, tup]
  | [a, b], _, hr =>
    obtain ⟨v, vs', rfl, h1, hr⟩ := split _ _ _ hr
    obtain ⟨u, vs', rfl, h2, hr⟩ := split _ _ _ hr
    obtain rfl : vs' = [] := hr
    have e1 := one _ _ h1
    have e2 := one _ _ h2
    simp [go_sem, e1, e2, tup]
  | [a, b, c], _, hr =>
    obtain ⟨v, vs', rfl, h1, hr⟩ := split _ _ _ hr
    obtain ⟨u, vs', rfl, h2, hr⟩ := split _ _ _ hr
    obtain ⟨u3, vs', rfl, h3, hr⟩ := split _ _ _ hr
    obtain rfl : vs' = [] := hr
    have e1 := one _ _ h1
    have e2 := one _ _ h2
    have e3 := one _ _ h3
    simp [go_sem, e1, e2, e3, tup]
  | [a, b, c, x], _, hr =>
    obtain ⟨v, vs', rfl, h1, hr⟩ := split _ _ _ hr
    obtain ⟨u, vs', rfl, h2, hr⟩ := split _ _ _ hr
    obtain ⟨u3, vs', rfl, h3, hr⟩ := split _ _ _ hr
    obtain ⟨u4, vs', rfl, h4, hr⟩ := split _ _ _ hr
    obtain rfl : vs' = [] := hr
    have e1 := one _ _ h1
    have e2 := one _ _ h2
    have e3 := one _ _ h3
    have e4 := one _ _ h4
    simp [go_sem, e1, e2, e3, e4, tup]
  | _ :: _ :: _ :: _ :: _ :: _, h, _ => simp at h

def hput (h : Heap) (b : Nat) (o : Obj) : Heap := h.setIfInBounds b o
theorem wd_put (r : World) (h : Heap) (dr b : Nat) (o : Obj) : (wd r h dr).putObj b o = wd r (hput h b o) dr := rfl

/-- a function, out of its body: the marks are taken off, then the results are read -/
def Ret (p : Pl) (l : List ResultVar) (R : Value → Heap → Prop) : DPost
  | [], e, h => ∃ vs, Res p.P p.r p.n e h l vs ∧ R (tup vs) h
  | d :: ds, e, h => ∃ D, d = ⟨.collected D, #[]⟩ ∧ h[D]? = some (.deferred (some [])) ∧ Ret p l R ds e (hput h D (.deferred none))

theorem ret_leaves {P : Program} {r : World} {fn : Func} {n : Nat} {l : List ResultVar} {R : Value → Heap → Prop} {e : Env} {d0 : List Deferred} (hl : fn.results = l.toArray) (h4 : l.length ≤ 4) : ∀ (d : List Deferred) (h : Heap) (dr : Nat), Ret ⟨P, r, .none, n⟩ l R d e h →
    LeavesInM (FW .none) 0 P fn (act n e d0).tmps (fun x w => ∃ v h' dr', x = .returned v ∧ w = wd r h' dr' ∧ R v h') d .returning (wd r h dr)
  | [], h, dr, ⟨vs, hr, hR⟩ => ⟨tup vs, run_results hl h4 hr dr, _, _, _, rfl, rfl, hR⟩
  | d :: ds, h, dr, ⟨D, hd, hD, hrest⟩ => by
    subst hd
    refine ⟨by simp, .inl ⟨D, _, rfl, ?_, ret_leaves hl h4 ds _ dr hrest⟩⟩
    exact run_takeDeferred (w := wd r h dr) hD

theorem calls_of {P : Program} {r : World} {f : FuncId} {fn : Func} {c : Code} {args : List Value} {h : Heap} {R : Value → Heap → Prop} (n : Nat) (l : List ResultVar)
    (hf : P.funcs[f]? = some fn) (hb : fn.body = some c) (hn : fn.ntmps = n) (hl : fn.results = l.toArray) (h4 : Nat.ble l.length 4 = true) (ha : Nat.ble args.length n = true)
    (hw : W ⟨P, r, .none, n⟩ [] c (Ret ⟨P, r, .none, n⟩ l R) (fun _ _ _ _ => False) (Ret ⟨P, r, .none, n⟩ l R) (ini args) h) : CallsH P r f args h R := by
  subst hn
  intro dr
  refine of_callsFW (ro := .none) (n := 0) (callsIn_of_wp_marks hf hb trivial ?_)
  rw [act_ini _ _ (Nat.le_of_ble_eq_true ha)]
  refine wpIn_mono (hw dr) fun x a w hq => ?_
  cases x with
  | normal =>
    obtain ⟨d, e, h, dr, rfl, rfl, hr⟩ := hq
    exact ret_leaves hl (Nat.le_of_ble_eq_true h4) d h dr hr
  | ret =>
    obtain ⟨d, e, h, dr, rfl, rfl, hr⟩ := hq
    exact ret_leaves hl (Nat.le_of_ble_eq_true h4) d h dr hr
  | exit i => obtain ⟨d, e, h, dr, _, _, hf⟩ := hq; exact hf.elim
  | _ => exact hq.elim

section small
variable {p : Pl} {d : List Deferred} {N : DPost} {X : Nat → DPost} {R : DPost} {e : Env} {h : Heap} {c : Code} {l : List (Nat × Value)}
theorem W_set (hw : ∀ N', N' = N → W p d c N' X R e h) : W p d c N X R e h := hw N rfl
theorem W_mk (hq : ∀ b, W p d c N X R (mkE l b) h) (ha : At e l) : W p d c N X R e h := of_mk (Q := fun e => W p d c N X R e h) hq ha
theorem WL_mk (hq : ∀ b, WL p d c N X R (mkE l b) h) (ha : At e l) : WL p d c N X R e h := of_mk (Q := fun e => WL p d c N X R e h) hq ha
theorem N_mk (hq : ∀ b, N d (mkE l b) h) (ha : At e l) : N d e h := of_mk (Q := fun e => N d e h) hq ha
theorem S_mk {c : Cx} {K : Post} {t : Tr} {C : Held} (hq : ∀ b, S c K t C (mkE l b) h) (ha : At e l) : S c K t C e h := of_mk (Q := fun e => S c K t C e h) hq ha
theorem inX_here {id : Nat} (h1 : N d e h) : inX id N X id d e h := by
  have : Nat.beq id id = true := Nat.beq_refl id
  simpa only [inX, this, cond_true] using h1
theorem inX_out {i id : Nat} (hi : Nat.beq i id = false) (h1 : X i d e h) : inX id N X i d e h := by
  simpa only [inX, hi, cond_false] using h1
theorem s_fin {c : Cx} {K : Post} {C : Held} (h1 : K e h) : S c K .fin C e h := h1
end small

end Go.Tw
