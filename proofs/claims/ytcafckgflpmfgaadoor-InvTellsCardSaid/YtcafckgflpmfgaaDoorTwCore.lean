/- The typed layer's ground: regions of operations, in whatever order, over environments and heaps. No program in sight. -/
import Derived.WalkKit
import Derived.OrdersIn
import Derived.RangeFuncLeaves
import Derived.RangeFuncIn
namespace Go.Tw
open Go Go.RowKit

abbrev Heap := Array Obj
abbrev Env := Nat → Value

/-- the world of rest r, at a heap, at a count of draws -/
def wd (r : World) (h : Heap) (dr : Nat) : World := { heap := h, tape := r.tape, drawn := dr, os := r.os, output := r.output }

theorem wd_eta (w : World) : wd w w.heap w.drawn = w := rfl

def upd (e : Env) (d : Nat) (v : Value) : Env := fun t => bif Nat.beq t d then v else e t
def updO (e : Env) : Option Nat → Value → Env
  | some d, v => upd e d v
  | none, _ => e

def act (n : Nat) (e : Env) (d : List Deferred) : Act := { tmps := (Array.range n).map e, defers := d }

def ev (n : Nat) (e : Env) : Operand → Value
  | .tmp t => bif Nat.blt t n then e t else undef
  | .const v => v
  | .global g => .pointer (some ⟨g, 0, none⟩)
  | .func f => .func (.func f) #[] #[]

theorem upd_same (e : Env) (d : Nat) (v : Value) : upd e d v d = v := by simp [upd]
theorem upd_ne (e : Env) {d t : Nat} (v : Value) (h : t ≠ d) : upd e d v t = e t := by
  have : Nat.beq t d = false := by
    cases hb : Nat.beq t d with
    | false => rfl
    | true => exact absurd (Nat.eq_of_beq_eq_true hb) h
  simp [upd, this]

theorem act_get (n : Nat) (e : Env) (d : List Deferred) (t : Nat) : (act n e d).tmps[t]? = if t < n then some (e t) else none := by
  simp only [act, Array.getElem?_map]
  by_cases h : t < n
  · simp [h]
  · rw [Array.getElem?_eq_none (by simp; omega)]; simp [h]

theorem act_eval (n : Nat) (e : Env) (d : List Deferred) : (act n e d).eval = ev n e := by
  funext x
  cases x with
  | tmp t =>
    simp only [Act.eval, ev, Array.getD_eq_getD_getElem?, act_get]
    by_cases h : t < n
    · have : Nat.blt t n = true := by simpa [Nat.blt_eq] using h
      simp [h, this]
    · have : Nat.blt t n = false := by
        cases hb : Nat.blt t n with
        | false => rfl
        | true => exact absurd (by simpa [Nat.blt_eq] using hb) h
      simp [h, this]
  | _ => rfl

theorem act_put (n : Nat) (e : Env) (d : List Deferred) (o : Option Nat) (v : Value) : (act n e d).put o v = act n (updO e o v) d := by
  cases o with
  | none => rfl
  | some t =>
    simp only [Act.put, updO]
    have : ((act n e d).tmps.setIfInBounds t v) = (act n (upd e t v) d).tmps := by
      apply Array.ext
      · simp [act]
      · intro i h1 h2
        have hi : i < n := by simpa [act] using h2
        by_cases hti : t = i
        · subst hti; simp [act, upd_same]
        · have hs : i < (act n e d).tmps.size := by simpa [act] using hi
          rw [Array.getElem_setIfInBounds_ne hs hti]
          simp [act, upd_ne e v (Ne.symm hti)]
    rw [this]; rfl

/-- the environment at a call's entry -/
def ini (l : List Value) : Env := fun t => l.getD t undef

theorem act_ini (n : Nat) (l : List Value) (h : l.length ≤ n) :
    ({ tmps := l.toArray ++ Array.replicate (n - l.toArray.size) undef, defers := [] } : Act) = act n (ini l) [] := by
  have : (l.toArray ++ Array.replicate (n - l.toArray.size) undef) = (act n (ini l) []).tmps := by
    apply Array.ext
    · simp [act]; omega
    · intro i h1 h2
      have hi : i < n := by simpa [act] using h2
      simp only [act, Array.getElem_map, Array.getElem_range, ini, Array.getElem_append, List.getD_eq_getElem?_getD]
      by_cases hl : i < l.length
      · simp [hl]
      · rw [List.getElem?_eq_none (by omega)]; simp [hl]
  rw [this]; rfl

/-- the fence: every function, any depth; in a round or not -/
abbrev FW (ro : Option Nat) : Fence := { Fence.wide with round := ro }

theorem callsFW {ro : Option Nat} {n : Nat} {P : Program} {f : FuncId} {args : Array Value} {w : World} {R : Ending → World → Prop}
    (h : Calls P f args w R) : CallsIn (FW ro) n P f args w R := (callsIn_wide (n := n)).2 h

theorem of_callsFW {ro : Option Nat} {n : Nat} {P : Program} {f : FuncId} {args : Array Value} {w : World} {R : Ending → World → Prop}
    (h : CallsIn (FW ro) n P f args w R) : Calls P f args w R := (callsIn_wide (n := n)).1 h

/-- what one operation's run comes to, told by its value and the world behind it -/
def uponV (P : Program) (nv : Value → World → Prop) : Result Next → Prop
  | .ok (.value v) w => nv v w
  | .ok .skip w => nv undef w
  | .ok (.enter f args) w => Calls P f args w fun
      | .returned v, w' => nv v w'
      | _, _ => False
  | .ok (.round l f tmps asg body) w => RoundIn (FW .none) 0 P l f tmps asg body w fun
      | .returned v, w' => nv v w'
      | _, _ => False
  | _ => False

theorem RoundIn.fw {ro : Option Nat} {n : Nat} {P : Program} {l : Nat} {f : FuncId} {tmps : Array Value} {asg body : Code} {w : World} {R : Ending → World → Prop}
    (h : RoundIn (FW .none) n P l f tmps asg body w R) : RoundIn (FW ro) n P l f tmps asg body w R := h

theorem uponV_uponIn {ro : Option Nat} {P : Program} {o : Oper} {a : Act} {nv : Value → World → Prop} {next : Act → World → Prop} {Q : Exit → Act → World → Prop} {x : Result Next}
    (h : uponV P nv x) (hn : ∀ v w, nv v w → next (a.put o.dst v) w) : o.uponIn (FW ro) 0 P a next Q x := by
  cases x with
  | ok x w =>
    cases x with
    | value v => exact hn _ _ h
    | skip => exact hn _ _ h
    | enter f args =>
      refine ⟨fun hd => by simp [Fence.wide] at hd, callsFW (Calls.mono h ?_)⟩
      intro e w' he
      cases e with
      | returned v => exact hn _ _ he
      | panicked c => exact he.elim
      | outgrown => exact he.elim
    | round l f tmps asg body =>
      refine ⟨fun hd => by simp [Fence.wide] at hd, RoundIn.mono (RoundIn.fw h) ?_⟩
      intro e w' he
      cases e with
      | returned v => exact hn _ _ he
      | panicked c => exact he.elim
      | outgrown => exact he.elim
    | _ => exact h.elim
  | halt x w => exact h.elim

theorem uponV_mono {P : Program} {nv nv' : Value → World → Prop} {x : Result Next} (h : uponV P nv x) (hn : ∀ v w, nv v w → nv' v w) : uponV P nv' x := by
  cases x with
  | ok x w =>
    cases x with
    | value v => exact hn _ _ h
    | skip => exact hn _ _ h
    | enter f args =>
      refine Calls.mono h ?_
      intro e w' he
      cases e with
      | returned v => exact hn _ _ he
      | panicked c => exact he.elim
      | outgrown => exact he.elim
    | round l f tmps asg body =>
      refine RoundIn.mono h ?_
      intro e w' he
      cases e with
      | returned v => exact hn _ _ he
      | panicked c => exact he.elim
      | outgrown => exact he.elim
    | _ => exact h.elim
  | halt x w => exact h.elim

structure Cx where
  P : Program
  r : World
  ro : Option Nat
  n : Nat
  d : List Deferred
  ops : Array Oper

/-- is the operation's guard met? -/
def wants (c : Cx) (o : Oper) (e : Env) : Bool :=
  match o.guard with
  | none => true
  | some (g, b) => match (c.ops[g]?).bind (·.dst) with
    | some t => bif Nat.blt t c.n then (match e t with | .bool x => x == b | _ => false) else false
    | none => false

theorem wants_eq (c : Cx) (o : Oper) (e : Env) : Region.wanted o (yielded c.ops (act c.n e c.d).tmps) = wants c o e := by
  unfold Region.wanted wants
  cases o.guard with
  | none => rfl
  | some gw =>
    obtain ⟨g, b⟩ := gw
    simp only [yielded]
    cases (c.ops[g]?).bind (·.dst) with
    | none => simp
    | some t =>
      simp only [Option.bind_some, act_get]
      by_cases h : t < c.n
      · have : Nat.blt t c.n = true := by simpa [Nat.blt_eq] using h
        simp only [h, if_true, this, cond_true]
        cases e t <;> simp
      · have : Nat.blt t c.n = false := by
          cases hb : Nat.blt t c.n with
          | false => rfl
          | true => exact absurd (by simpa [Nat.blt_eq] using hb) h
        simp [h, this]

/-- an operation that computes, whatever the world -/
def Pu (c : Cx) (o : Oper) (e : Env) (v : Value) : Prop :=
  (wants c o e = true ∧ ∀ w, (execOp (ev c.n e) o).run c.P w = .ok (.value v) w) ∨ (wants c o e = false ∧ v = undef)
/-- an operation that reads the heap -/
def Rd (c : Cx) (o : Oper) (e : Env) (v : Value) (h : Heap) : Prop :=
  (wants c o e = true ∧ ∀ dr, (execOp (ev c.n e) o).run c.P (wd c.r h dr) = .ok (.value v) (wd c.r h dr)) ∨ (wants c o e = false ∧ v = undef)
def behind (r : World) (k : Value → Heap → Prop) (v : Value) (w : World) : Prop := ∃ h dr, w = wd r h dr ∧ k v h
/-- an operation that changes the heap, or calls -/
def Ef (c : Cx) (o : Oper) (e : Env) (h : Heap) (k : Value → Heap → Prop) : Prop :=
  (wants c o e = true ∧ ∀ dr, uponV c.P (behind c.r k) ((execOp (ev c.n e) o).run c.P (wd c.r h dr))) ∨ (wants c o e = false ∧ k undef h)

theorem Pu.rd {c : Cx} {o : Oper} {e : Env} {v : Value} (h : Pu c o e v) (hp : Heap) : Rd c o e v hp := by
  rcases h with ⟨a, b⟩ | h
  · exact .inl ⟨a, fun dr => b _⟩
  · exact .inr h

inductive Tr where
  | pu (i : Nat) (t : Tr)
  | rd (i : Nat) (t : Tr)
  | rl (i : Nat) (t : Tr)
  | ef (i : Nat) (bef : List Nat) (t alt : Tr)
  | no
  | fin

abbrev Held := List (Nat × (Heap → Prop))

/-- what has been read before an operation, and need not have been, reads so behind it, too -/
def Chk (bef : List Nat) : Held → Heap → Prop
  | [], _ => True
  | c :: r, h => (bif bef.contains c.1 then True else c.2 h) ∧ Chk bef r h

theorem Chk.mem {bef : List Nat} {C : Held} {h : Heap} (hc : Chk bef C h) {c : Nat × (Heap → Prop)} (hm : c ∈ C) : c.1 ∈ bef ∨ c.2 h := by
  induction C with
  | nil => cases hm
  | cons x r ih =>
    obtain ⟨h1, h2⟩ := hc
    cases hm with
    | head =>
      cases hb : bef.contains c.1 with
      | true => exact .inl (by simpa using hb)
      | false => rw [hb] at h1; exact .inr h1
    | tail _ hm => exact ih h2 hm

def S (c : Cx) (K : Env → Heap → Prop) : Tr → Held → Env → Heap → Prop
  | .fin, _, e, h => K e h
  | .no, _, _, _ => True
  | .pu i t, C, e, h => ∃ o v, c.ops[i]? = some o ∧ Pu c o e v ∧ S c K t C (updO e o.dst v) h
  | .rd i t, C, e, h => ∃ o v, c.ops[i]? = some o ∧ Rd c o e v h ∧ S c K t ((i, fun h' => Rd c o e v h') :: C) (updO e o.dst v) h
  | .rl i t, C, e, h => ∃ o v, c.ops[i]? = some o ∧ Rd c o e v h ∧ S c K t C (updO e o.dst v) h
  | .ef i bef t alt, C, e, h => (∃ o, c.ops[i]? = some o ∧ Ef c o e h fun v h' => Chk bef C h' ∧ S c K t C (updO e o.dst v) h') ∧ S c K alt C e h

/-! ### In the order of the text -/

def lin : Tr → Option (List Nat)
  | .fin => some []
  | .no => none
  | .pu i t | .rd i t | .rl i t => (lin t).map (i :: ·)
  | .ef i _ t .no => (lin t).map (i :: ·)
  | .ef .. => none

def noDefer (o : Oper) : Bool := match o.op with | .defer _ => false | .select .. => false | _ => true

theorem about_any {F : Option Nat} {P : Program} {o : Oper} {w : World} {a : Act} : ∀ f, o.about P w a.eval = some f → (FW F).fn f := fun _ _ => trivial

theorem noDefer_semAt {ro : Option Nat} {ρ : Operand → Value} {o : Oper} (h : noDefer o = true) : o.semAt ro ρ = execOp ρ o :=
  Oper.semAt_eq ro ρ o fun c hc => by simp [noDefer, hc] at h

theorem step_pu {c : Cx} {o : Oper} {e : Env} {v : Value} {h : Heap} {dr : Nat} {K : Act → World → Prop} {Q : Exit → Act → World → Prop} {i : Nat}
    (hi : c.ops[i]? = some o) (hd : noDefer o = true) (hr : Rd c o e v h) (hk : K (act c.n (updO e o.dst v) c.d) (wd c.r h dr)) :
    wpOpIn (FW c.ro) 0 c.P c.ops Q i K (act c.n e c.d) (wd c.r h dr) := by
  unfold wpOpIn
  simp only [hi, wants_eq]
  rcases hr with ⟨hw, hx⟩ | ⟨hw, rfl⟩
  · simp only [hw, if_true]
    refine ⟨about_any, ?_⟩
    rw [noDefer_semAt hd, act_eval, hx dr]
    show K _ _
    rw [act_put]; exact hk
  · simp only [hw, Bool.false_eq_true, if_false]
    refine ⟨about_any, ?_⟩
    rw [act_put]; exact hk

theorem step_ef {c : Cx} {o : Oper} {e : Env} {h : Heap} {dr : Nat} {k : Value → Heap → Prop} {K : Act → World → Prop} {Q : Exit → Act → World → Prop} {i : Nat}
    (hi : c.ops[i]? = some o) (hd : noDefer o = true) (hr : Ef c o e h k) (hk : ∀ v h' dr', k v h' → K (act c.n (updO e o.dst v) c.d) (wd c.r h' dr')) :
    wpOpIn (FW c.ro) 0 c.P c.ops Q i K (act c.n e c.d) (wd c.r h dr) := by
  unfold wpOpIn
  simp only [hi, wants_eq]
  rcases hr with ⟨hw, hx⟩ | ⟨hw, hx⟩
  · simp only [hw, if_true]
    refine ⟨about_any, ?_⟩
    rw [noDefer_semAt hd, act_eval]
    refine uponV_uponIn (hx dr) ?_
    rintro v w ⟨h', dr', rfl, hk'⟩
    rw [act_put]; exact hk _ _ _ hk'
  · simp only [hw, Bool.false_eq_true, if_false]
    refine ⟨about_any, ?_⟩
    rw [act_put]; exact hk _ _ _ hx

def noDefers (ops : Array Oper) : Bool := ops.toList.all noDefer
theorem noDefers_at {ops : Array Oper} (h : noDefers ops = true) {i : Nat} {o : Oper} (hi : ops[i]? = some o) : noDefer o = true := by
  unfold noDefers at h
  exact List.all_eq_true.1 h o (by simpa using Array.mem_of_getElem? hi)

theorem lin_sound (c : Cx) (hd : noDefers c.ops = true) (K : Env → Heap → Prop) (Q : Exit → Act → World → Prop) (hK : ∀ e h dr, K e h → Q .normal (act c.n e c.d) (wd c.r h dr)) :
    ∀ (t : Tr) (l : List Nat), lin t = some l → ∀ (C : Held) (e : Env) (h : Heap) (dr : Nat), S c K t C e h →
      wpOpsIn (FW c.ro) 0 c.P c.ops Q l (act c.n e c.d) (wd c.r h dr)
  | .fin, l, hl, C, e, h, dr, hs => by
    obtain rfl : [] = l := by simpa [lin] using hl
    exact hK e h dr hs
  | .no, l, hl, _, _, _, _, _ => by simp [lin] at hl
  | .pu i t, l, hl, C, e, h, dr, hs => by
    obtain ⟨l', hl', rfl⟩ : ∃ l', lin t = some l' ∧ i :: l' = l := by simpa [lin] using hl
    obtain ⟨o, v, hi, hp, hs⟩ := hs
    rw [wpOpsIn_cons]
    exact step_pu hi (noDefers_at hd hi) (hp.rd h) (lin_sound c hd K Q hK t l' hl' _ _ _ _ hs)
  | .rd i t, l, hl, C, e, h, dr, hs => by
    obtain ⟨l', hl', rfl⟩ : ∃ l', lin t = some l' ∧ i :: l' = l := by simpa [lin] using hl
    obtain ⟨o, v, hi, hp, hs⟩ := hs
    rw [wpOpsIn_cons]
    exact step_pu hi (noDefers_at hd hi) hp (lin_sound c hd K Q hK t l' hl' _ _ _ _ hs)
  | .rl i t, l, hl, C, e, h, dr, hs => by
    obtain ⟨l', hl', rfl⟩ : ∃ l', lin t = some l' ∧ i :: l' = l := by simpa [lin] using hl
    obtain ⟨o, v, hi, hp, hs⟩ := hs
    rw [wpOpsIn_cons]
    exact step_pu hi (noDefers_at hd hi) hp (lin_sound c hd K Q hK t l' hl' _ _ _ _ hs)
  | .ef i bef t alt, l, hl, C, e, h, dr, hs => by
    cases alt with
    | no =>
      obtain ⟨l', hl', rfl⟩ : ∃ l', lin t = some l' ∧ i :: l' = l := by simpa [lin] using hl
      obtain ⟨⟨o, hi, hp⟩, _⟩ := hs
      rw [wpOpsIn_cons]
      exact step_ef hi (noDefers_at hd hi) hp (fun v h' dr' hv => lin_sound c hd K Q hK t l' hl' _ _ _ _ hv.2)
    | _ => simp [lin] at hl

theorem region_lin {c : Cx} {t : Tr} {id : Nat} {K : Env → Heap → Prop} {Q : Exit → Act → World → Prop} {e : Env} {h : Heap} {dr : Nat}
    (hl : lin t = some (List.range c.ops.size)) (hd : noDefers c.ops = true) (hK : ∀ e h dr, K e h → Q .normal (act c.n e c.d) (wd c.r h dr)) (hs : S c K t [] e h) :
    (Code.region id c.ops false).wpIn (FW c.ro) 0 c.P Q (act c.n e c.d) (wd c.r h dr) :=
  wpIn_region (lin_sound c hd K Q hK t _ hl _ _ _ _ hs)

/-! ### In whatever order the edges allow -/

/-- the mask of what an operation must directly follow -/
def depM (o : Oper) : Nat := o.after.foldl (fun s e => bif Region.binds .any e then s ||| 2 ^ e.on else s) 0

def bit (m i : Nat) : Bool := m.testBit i
theorem bit_or (a b i : Nat) : bit (a ||| b) i = (bit a i || bit b i) := Nat.testBit_or a b i
theorem bit_two_pow (a i : Nat) : bit (2 ^ a) i = decide (a = i) := Nat.testBit_two_pow
/-- every bit of a is one of b's -/
def sub (a b : Nat) : Bool := a ||| b == b
theorem sub_bit {a b : Nat} (h : sub a b = true) {i : Nat} (hi : bit a i = true) : bit b i = true := by
  have e : a ||| b = b := by simpa [sub] using h
  rw [← e, bit_or, hi]; rfl

theorem depM_bit (o : Oper) (j : Nat) : bit (depM o) j = true ↔ ∃ e ∈ o.after, Region.binds .any e = true ∧ e.on = j := by
  unfold depM
  rw [← Array.foldl_toList]
  have key : ∀ (l : List Edge) (s : Nat), bit (l.foldl (fun s e => bif Region.binds .any e then s ||| 2 ^ e.on else s) s) j = true ↔ bit s j = true ∨ ∃ e ∈ l, Region.binds .any e = true ∧ e.on = j := by
    intro l
    induction l with
    | nil => intro s; simp
    | cons x l ih =>
      intro s
      rw [List.foldl_cons, ih]
      cases hb : Region.binds .any x
      · simp [hb]
      · simp only [cond_true, bit_or, bit_two_pow, Bool.or_eq_true, decide_eq_true_eq, List.mem_cons]
        constructor
        · rintro ((h | h) | ⟨e, he, h1, h2⟩)
          · exact .inl h
          · exact .inr ⟨x, .inl rfl, hb, h⟩
          · exact .inr ⟨e, .inr he, h1, h2⟩
        · rintro (h | ⟨e, rfl | he, h1, h2⟩)
          · exact .inl (.inl h)
          · exact .inl (.inr h2)
          · exact .inr ⟨e, he, h1, h2⟩
  rw [key]
  simp [bit]

/-- the masks that are handed in are masks of what surely goes ahead -/
def okMask (ops : List Oper) (bm : List Nat) : Nat → List Oper → Bool
  | _, [] => true
  | i, o :: r => sub (bm.getD i 0) ((List.range i).foldl (fun s j => bif bit (depM o) j then s ||| 2 ^ j ||| bm.getD j 0 else s) 0) && (depM o).blt (2 ^ i) && okMask ops bm (i + 1) r

/-- a set of operations that bears, with each one, all that it follows -/
def Down (ops : Array Oper) (D : Nat → Bool) : Prop := ∀ i o, ops[i]? = some o → D i = true → ∀ j, bit (depM o) j = true → D j = true

def MaskOk (ops : Array Oper) (bm : List Nat) : Prop :=
  ∀ i o, ops[i]? = some o → (∀ j, bit (depM o) j = true → j < i) ∧ ∀ k, bit (bm.getD i 0) k = true → ∃ j, bit (depM o) j = true ∧ (k = j ∨ bit (bm.getD j 0) k = true)

theorem foldl_mask (p : Nat → Bool) (bm : List Nat) (k : Nat) : ∀ (l : List Nat) (s : Nat),
    bit (l.foldl (fun s j => bif p j then s ||| 2 ^ j ||| bm.getD j 0 else s) s) k = true → bit s k = true ∨ ∃ j ∈ l, p j = true ∧ (k = j ∨ bit (bm.getD j 0) k = true) := by
  intro l
  induction l with
  | nil => intro s h; exact .inl h
  | cons x l ih =>
    intro s h
    rw [List.foldl_cons] at h
    rcases ih _ h with h | ⟨j, hj, h1, h2⟩
    · cases hp : p x
      · rw [hp] at h; exact .inl h
      · rw [hp] at h
        simp only [cond_true, bit_or, bit_two_pow, Bool.or_eq_true, decide_eq_true_eq] at h
        rcases h with (h | h) | h
        · exact .inl h
        · exact .inr ⟨x, by simp, hp, .inl h.symm⟩
        · exact .inr ⟨x, by simp, hp, .inr h⟩
    · exact .inr ⟨j, by simp [hj], h1, h2⟩

theorem okMask_spec {ops : List Oper} {bm : List Nat} : ∀ (r : List Oper) (i : Nat), okMask ops bm i r = true → ∀ k o, r[k]? = some o →
    (∀ j, bit (depM o) j = true → j < i + k) ∧ ∀ b, bit (bm.getD (i + k) 0) b = true → ∃ j, bit (depM o) j = true ∧ (b = j ∨ bit (bm.getD j 0) b = true) := by
  intro r
  induction r with
  | nil => intro i _ k o h; simp at h
  | cons x r ih =>
    intro i h k o hk
    simp only [okMask, Bool.and_eq_true] at h
    cases k with
    | zero =>
      obtain rfl : x = o := by simpa using hk
      refine ⟨fun j hj => ?_, fun b hb => ?_⟩
      · have h2 : depM x < 2 ^ i := by simpa [Nat.blt_eq] using h.1.2
        apply Decidable.byContradiction
        intro hn
        have := Nat.testBit_lt_two_pow (x := depM x) (i := j) (Nat.lt_of_lt_of_le h2 (Nat.pow_le_pow_right (by omega) (by omega)))
        rw [show (depM x).testBit j = true from hj] at this
        cases this
      · rcases foldl_mask _ _ _ _ _ (sub_bit h.1.1 hb) with h | ⟨j, _, h1, h2⟩
        · simp [bit] at h
        · exact ⟨j, h1, h2⟩
    | succ k =>
      have := ih (i + 1) h.2 k o (by simpa using hk)
      rwa [show i + 1 + k = i + (k + 1) by omega] at this

theorem maskOk {ops : Array Oper} {bm : List Nat} (h : okMask ops.toList bm 0 ops.toList = true) : MaskOk ops bm := fun i o hi => by
  have := okMask_spec ops.toList 0 h i o (by simpa using hi)
  simpa using this

/-- what surely goes ahead of an operation is in every set that bears all that it directly follows -/
theorem mask_in {ops : Array Oper} {bm : List Nat} (hm : MaskOk ops bm) {D : Nat → Bool} (hD : Down ops D) : ∀ (i : Nat) (o : Oper), ops[i]? = some o →
    (∀ j, bit (depM o) j = true → D j = true) → ∀ k, bit (bm.getD i 0) k = true → D k = true := by
  intro i
  induction i using Nat.strongRecOn with
  | _ i ih =>
    intro o ho hd k hk
    obtain ⟨j, hj, h⟩ := (hm i o ho).2 k hk
    have hji := (hm i o ho).1 j hj
    rcases h with rfl | h
    · exact hd _ hj
    · have hlt : j < ops.size := by have := (Array.getElem?_eq_some_iff.1 ho).1; omega
      exact ih j hji ops[j] (by simp [hlt]) (fun j' hj' => hD j _ (by simp [hlt]) (hd j hj) j' hj') k h

def writer (ops : Array Oper) (s : Nat) : Option Nat := ops.toList.findIdx? fun o => o.dst == some s

theorem writer_some {ops : Array Oper} {s j : Nat} (h : writer ops s = some j) : ∃ o, ops[j]? = some o ∧ o.dst = some s := by
  unfold writer at h
  rw [List.findIdx?_eq_some_iff_getElem] at h
  obtain ⟨hj, h1, _⟩ := h
  exact ⟨ops.toList[j], by simp, by simpa using h1⟩

/-- the environment when the operations of D are done, of values V -/
def En (ops : Array Oper) (e0 : Env) (V : Nat → Value) (D : Nat → Bool) : Env := fun s =>
  match writer ops s with
  | some j => if D j then V j else e0 s
  | none => e0 s

/-- each slot is written once; what an operation looks at is written surely ahead of it or surely behind it -/
def okLook (ops : Array Oper) (bm : List Nat) : Bool :=
  (List.range ops.size).all fun i => match ops[i]? with
    | none => true
    | some o => (match o.dst with | some s => writer ops s == some i | none => true) &&
      (o.looksAt ops).all fun s => match writer ops s with
        | some j => bit (bm.getD i 0) j || bit (bm.getD j 0) i
        | none => true

structure LookOk (ops : Array Oper) (bm : List Nat) : Prop where
  once : ∀ i o s, ops[i]? = some o → o.dst = some s → writer ops s = some i
  look : ∀ i o s j, ops[i]? = some o → s ∈ o.looksAt ops → writer ops s = some j → bit (bm.getD i 0) j = true ∨ bit (bm.getD j 0) i = true

theorem lookOk {ops : Array Oper} {bm : List Nat} (h : okLook ops bm = true) : LookOk ops bm := by
  have key : ∀ (i : Nat) (o : Oper), ops[i]? = some o → (match o.dst with | some s => writer ops s == some i | none => true) = true ∧ ((o.looksAt ops).all fun s => match writer ops s with
        | some j => bit (bm.getD i 0) j || bit (bm.getD j 0) i
        | none => true) = true := fun i o ho => by
    have hlt := (Array.getElem?_eq_some_iff.1 ho).1
    have := List.all_eq_true.1 h i (List.mem_range.2 hlt)
    simp only [ho] at this
    simpa only [Bool.and_eq_true] using this
  refine ⟨fun i o s ho hs => ?_, fun i o s j ho hs hj => ?_⟩
  · have := (key i o ho).1; rw [hs] at this; simpa using this
  · have := List.all_eq_true.1 (key i o ho).2 s hs
    rw [hj] at this
    simpa only [Bool.or_eq_true] using this

/-- what an operation sees, whenever it is its turn -/
def Spec (ops : Array Oper) (bm : List Nat) (e0 : Env) (V : Nat → Value) (i : Nat) (o : Oper) (e : Env) : Prop :=
  ∀ s ∈ o.looksAt ops, e s = match writer ops s with
    | some k => if bit (bm.getD i 0) k then V k else e0 s
    | none => e0 s

theorem spec_En {ops : Array Oper} {bm : List Nat} (hm : MaskOk ops bm) (hl : LookOk ops bm) (e0 : Env) (V : Nat → Value) {D : Nat → Bool} (hD : Down ops D) {i : Nat} {o : Oper} (ho : ops[i]? = some o)
    (hi : D i = false) (hd : ∀ j, bit (depM o) j = true → D j = true) : Spec ops bm e0 V i o (En ops e0 V D) := by
  intro s hs
  unfold En
  cases hw : writer ops s with
  | none => rfl
  | some k =>
    simp only
    cases hb : bit (bm.getD i 0) k
    · simp only [Bool.false_eq_true, if_false]
      rcases hl.look i o s k ho hs hw with h | h
      · rw [hb] at h; cases h
      · have : D k = false := by
          cases hk : D k with
          | false => rfl
          | true =>
            obtain ⟨ok, hok, _⟩ := writer_some hw
            have := mask_in hm hD k ok hok (fun j hj => hD k ok hok hk j hj) i h
            rw [hi] at this; cases this
        simp [this]
    · have : D k = true := mask_in hm hD i o ho hd k hb
      simp [this]

theorem Spec.agree {ops : Array Oper} {bm : List Nat} {e0 : Env} {V : Nat → Value} {i : Nat} {o : Oper} {e e' : Env} (h : Spec ops bm e0 V i o e) (h' : Spec ops bm e0 V i o e') :
    ∀ s ∈ o.looksAt ops, e s = e' s := fun s hs => (h s hs).trans (h' s hs).symm

theorem exec_agree {n : Nat} {ops : Array Oper} {o : Oper} (hd : noDefer o = true) {e e' : Env} (h : ∀ s ∈ o.looksAt ops, e s = e' s) : execOp (ev n e) o = execOp (ev n e') o := by
  refine execOp_congr o (fun cs b hs => by simp [noDefer, hs] at hd) fun x hx => ?_
  cases x with
  | tmp t =>
    have : e t = e' t := h t (List.mem_append_left _ (List.mem_filterMap.2 ⟨.tmp t, by simpa using hx, rfl⟩))
    simp [ev, this]
  | _ => rfl

theorem wants_agree {c : Cx} {o : Oper} {e e' : Env} (h : ∀ s ∈ o.looksAt c.ops, e s = e' s) : wants c o e = wants c o e' := by
  unfold wants
  cases hg : o.guard with
  | none => rfl
  | some gw =>
    obtain ⟨g, b⟩ := gw
    simp only
    cases ht : (c.ops[g]?).bind (·.dst) with
    | none => rfl
    | some t =>
      have : e t = e' t := h t (by simp [Oper.looksAt, hg, ht])
      simp only [this]

theorem Rd.agree {c : Cx} {o : Oper} {e e' : Env} {v : Value} {h : Heap} (hd : noDefer o = true) (ha : ∀ s ∈ o.looksAt c.ops, e s = e' s) (hr : Rd c o e v h) : Rd c o e' v h := by
  unfold Rd at *
  rw [← exec_agree hd ha, ← wants_agree ha]; exact hr

theorem Ef.agree {c : Cx} {o : Oper} {e e' : Env} {h : Heap} {k : Value → Heap → Prop} (hd : noDefer o = true) (ha : ∀ s ∈ o.looksAt c.ops, e s = e' s) (hr : Ef c o e h k) : Ef c o e' h k := by
  unfold Ef at *
  rw [← exec_agree hd ha, ← wants_agree ha]; exact hr

def ins (D : Nat → Bool) (i : Nat) : Nat → Bool := fun j => D j || decide (j = i)
def put (V : Nat → Value) (i : Nat) (v : Value) : Nat → Value := fun j => if j = i then v else V j

theorem ins_same (D : Nat → Bool) (i : Nat) : ins D i i = true := by simp [ins]
theorem ins_of (D : Nat → Bool) (i : Nat) {j : Nat} (h : D j = true) : ins D i j = true := by simp [ins, h]

theorem down_ins {ops : Array Oper} {D : Nat → Bool} (hD : Down ops D) {i : Nat} {o : Oper} (ho : ops[i]? = some o) (hd : ∀ j, bit (depM o) j = true → D j = true) : Down ops (ins D i) := by
  intro k ok hok hk j hj
  by_cases hki : k = i
  · subst hki
    obtain rfl : o = ok := Option.some.inj (ho.symm.trans hok)
    exact ins_of _ _ (hd j hj)
  · have : D k = true := by simpa [ins, hki] using hk
    exact ins_of _ _ (hD k ok hok this j hj)

theorem En_put {ops : Array Oper} {bm : List Nat} (hl : LookOk ops bm) (e0 : Env) (V : Nat → Value) (D : Nat → Bool) {i : Nat} {o : Oper} (ho : ops[i]? = some o) (v : Value) (hi : D i = false) :
    updO (En ops e0 V D) o.dst v = En ops e0 (put V i v) (ins D i) := by
  funext s
  cases hd : o.dst with
  | none =>
    simp only [updO, En]
    cases hw : writer ops s with
    | none => rfl
    | some k =>
      have hki : k ≠ i := fun e => by
        subst e
        obtain ⟨o', ho', hs'⟩ := writer_some hw
        obtain rfl : o = o' := Option.some.inj (ho.symm.trans ho')
        rw [hd] at hs'; cases hs'
      simp [put, ins, hki]
  | some t =>
    simp only [updO]
    by_cases hst : s = t
    · subst hst
      rw [upd_same]
      have hw := hl.once i o s ho hd
      simp [En, hw, put, ins]
    · rw [upd_ne _ _ hst]
      simp only [En]
      cases hw : writer ops s with
      | none => rfl
      | some k =>
        have hki : k ≠ i := fun e => by
          subst e
          obtain ⟨o', ho', hs'⟩ := writer_some hw
          obtain rfl : o = o' := Option.some.inj (ho.symm.trans ho')
          rw [hd] at hs'; exact hst (Option.some.inj hs').symm
        simp [put, ins, hki]

theorem En_val {ops : Array Oper} (e0 : Env) {V V' : Nat → Value} {D : Nat → Bool} (h : ∀ j, D j = true → V j = V' j) : En ops e0 V D = En ops e0 V' D := by
  funext s
  unfold En
  cases writer ops s with
  | none => rfl
  | some k =>
    simp only
    cases hk : D k
    · rfl
    · simp [h k hk]

theorem Spec.put {ops : Array Oper} {bm : List Nat} {e0 : Env} {V : Nat → Value} {j : Nat} {o : Oper} {e : Env} (h : Spec ops bm e0 V j o e) {i : Nat} (v : Value) (hi : bit (bm.getD j 0) i = false) : Spec ops bm e0 (put V i v) j o e := by
  intro s hs
  rw [h s hs]
  cases hw : writer ops s with
  | none => rfl
  | some k =>
    simp only
    by_cases hk : bit (bm.getD j 0) k = true
    · have : k ≠ i := fun e => by subst e; rw [hi] at hk; cases hk
      rw [if_pos hk, if_pos hk]; simp [Tw.put, this]
    · rw [if_neg hk, if_neg hk]

/-- is the tree one of this region's: every way of going through it? D: what is done; cov: which next ones have been told of -/
def altOk : Tr → Bool | .no | .ef .. => true | _ => false

def okT (ops : Array Oper) (bm : List Nat) : Tr → Nat → Nat → Bool
  | .fin, D, _ => (List.range ops.size).all fun i => bit D i
  | .no, D, cov => (cov != 0) && (List.range ops.size).all fun i => bit D i || bit cov i || (match ops[i]? with | some o => !sub (depM o) D | none => true)
  | .pu i t, D, _ => !bit D i && (match ops[i]? with | some o => sub (depM o) D | none => false) && okT ops bm t (D ||| 2 ^ i) 0
  | .rd i t, D, _ => !bit D i && (match ops[i]? with | some o => sub (depM o) D | none => false) && okT ops bm t (D ||| 2 ^ i) 0
  | .rl .., _, _ => false
  | .ef i bef t alt, D, cov => !bit D i && (match ops[i]? with | some o => sub (depM o) D | none => false) && (bef.all fun j => bit (bm.getD i 0) j) && okT ops bm t (D ||| 2 ^ i) 0 && okT ops bm alt D (cov ||| 2 ^ i) && altOk alt

theorem sub_iff {a b : Nat} : sub a b = true ↔ ∀ i, bit a i = true → bit b i = true := by
  refine ⟨fun h i hi => sub_bit h hi, fun h => ?_⟩
  have : a ||| b = b := by
    apply Nat.eq_of_testBit_eq
    intro i
    have e : (a ||| b).testBit i = (bit a i || bit b i) := Nat.testBit_or a b i
    rw [e]
    show (bit a i || bit b i) = bit b i
    cases ha : bit a i
    · rfl
    · rw [h i ha]; rfl
  simp [sub, this]

section any
variable {c : Cx} {K : Env → Heap → Prop} {Q : Exit → Act → World → Prop} {bm : List Nat} {e0 : Env}

/-- what has been read ahead of its turn is still so -/
def Still (c : Cx) (bm : List Nat) (e0 : Env) (V : Nat → Value) (C : Held) (h : Heap) (j : Nat) : Prop :=
  ∃ o e, c.ops[j]? = some o ∧ Spec c.ops bm e0 V j o e ∧ (Pu c o e (V j) ∨ ((j, fun h' => Rd c o e (V j) h') ∈ C ∧ Rd c o e (V j) h))

structure Inv (c : Cx) (K : Env → Heap → Prop) (bm : List Nat) (e0 : Env) (D L : Nat → Bool) (Lm : Nat) (V : Nat → Value) (t : Tr) (C : Held) (h : Heap) : Prop where
  downD : Down c.ops D
  downL : Down c.ops L
  le : ∀ i, D i = true → L i = true
  mask : ∀ i, L i = bit Lm i
  still : ∀ j, L j = true → D j = false → Still c bm e0 V C h j
  s : S c K t C (En c.ops e0 V L) h
  ok : okT c.ops bm t Lm 0 = true

theorem advance (hm : MaskOk c.ops bm) (hl : LookOk c.ops bm) : ∀ (t : Tr) (D L : Nat → Bool) (Lm : Nat) (V : Nat → Value) (C : Held) (h : Heap), Inv c K bm e0 D L Lm V t C h →
    ∃ L' Lm' V' t' C', Inv c K bm e0 D L' Lm' V' t' C' h ∧ (∀ j, D j = true → V' j = V j) ∧ (match t' with | .fin | .ef .. => True | _ => False)
  | .fin, D, L, Lm, V, C, h, I => ⟨L, Lm, V, .fin, C, I, fun _ _ => rfl, trivial⟩
  | .ef i bef t alt, D, L, Lm, V, C, h, I => ⟨L, Lm, V, .ef i bef t alt, C, I, fun _ _ => rfl, trivial⟩
  | .no, D, L, Lm, V, C, h, I => by have := I.ok; simp [okT] at this
  | .rl .., D, L, Lm, V, C, h, I => by have := I.ok; simp [okT] at this
  | .pu i t, D, L, Lm, V, C, h, I => by
    obtain ⟨o, v, ho, hp, hs⟩ := I.s
    have ok := I.ok
    simp only [okT, Bool.and_eq_true, Bool.not_eq_true', ho] at ok
    obtain ⟨⟨hi, hsub⟩, hok⟩ := ok
    have hLi : L i = false := by rw [I.mask]; exact hi
    have hd : ∀ j, bit (depM o) j = true → L j = true := fun j hj => by rw [I.mask]; exact sub_bit hsub hj
    have hDi : D i = false := by
      cases hD : D i with
      | false => rfl
      | true => rw [I.le i hD] at hLi; cases hLi
    have hnb : ∀ j, L j = true → ∀ oj, c.ops[j]? = some oj → bit (bm.getD j 0) i = false := fun j hj oj hoj => by
      cases hb : bit (bm.getD j 0) i with
      | false => rfl
      | true => have := mask_in hm I.downL j oj hoj (fun k hk => I.downL j oj hoj hj k hk) i hb; rw [hLi] at this; cases this
    have hii : bit (bm.getD i 0) i = false := by
      cases hb : bit (bm.getD i 0) i with
      | false => rfl
      | true => have := mask_in hm I.downL i o ho hd i hb; rw [hLi] at this; cases this
    obtain ⟨L', Lm', V', t', C', I', hV, ht⟩ := advance hm hl t D (ins L i) (Lm ||| 2 ^ i) (put V i v) C h
      { downD := I.downD, downL := down_ins I.downL ho hd, le := fun j hj => ins_of _ _ (I.le j hj),
        mask := fun j => by simp only [ins, bit_or, bit_two_pow, I.mask]; simp [eq_comm],
        still := fun j hj hDj => by
          by_cases hji : j = i
          · subst hji
            refine ⟨o, En c.ops e0 V L, ho, (spec_En hm hl e0 V I.downL ho hLi hd).put v hii, .inl ?_⟩
            simpa [put] using hp
          · have hLj : L j = true := by simpa [ins, hji] using hj
            obtain ⟨oj, e, hoj, hsp, hy⟩ := I.still j hLj hDj
            refine ⟨oj, e, hoj, hsp.put v (hnb j hLj oj hoj), ?_⟩
            simpa [put, hji] using hy,
        s := by rw [← En_put hl e0 V L ho v hLi]; exact hs, ok := hok }
    refine ⟨L', Lm', V', t', C', I', fun j hj => ?_, ht⟩
    rw [hV j hj]
    have : j ≠ i := fun e => by subst e; rw [hDi] at hj; cases hj
    simp [put, this]
  | .rd i t, D, L, Lm, V, C, h, I => by
    obtain ⟨o, v, ho, hp, hs⟩ := I.s
    have ok := I.ok
    simp only [okT, Bool.and_eq_true, Bool.not_eq_true', ho] at ok
    obtain ⟨⟨hi, hsub⟩, hok⟩ := ok
    have hLi : L i = false := by rw [I.mask]; exact hi
    have hd : ∀ j, bit (depM o) j = true → L j = true := fun j hj => by rw [I.mask]; exact sub_bit hsub hj
    have hDi : D i = false := by
      cases hD : D i with
      | false => rfl
      | true => rw [I.le i hD] at hLi; cases hLi
    have hnb : ∀ j, L j = true → ∀ oj, c.ops[j]? = some oj → bit (bm.getD j 0) i = false := fun j hj oj hoj => by
      cases hb : bit (bm.getD j 0) i with
      | false => rfl
      | true => have := mask_in hm I.downL j oj hoj (fun k hk => I.downL j oj hoj hj k hk) i hb; rw [hLi] at this; cases this
    have hii : bit (bm.getD i 0) i = false := by
      cases hb : bit (bm.getD i 0) i with
      | false => rfl
      | true => have := mask_in hm I.downL i o ho hd i hb; rw [hLi] at this; cases this
    obtain ⟨L', Lm', V', t', C', I', hV, ht⟩ := advance hm hl t D (ins L i) (Lm ||| 2 ^ i) (put V i v) ((i, fun h' => Rd c o (En c.ops e0 V L) v h') :: C) h
      { downD := I.downD, downL := down_ins I.downL ho hd, le := fun j hj => ins_of _ _ (I.le j hj),
        mask := fun j => by simp only [ins, bit_or, bit_two_pow, I.mask]; simp [eq_comm],
        still := fun j hj hDj => by
          by_cases hji : j = i
          · subst hji
            refine ⟨o, En c.ops e0 V L, ho, (spec_En hm hl e0 V I.downL ho hLi hd).put v hii, .inr ?_⟩
            simpa [put] using hp
          · have hLj : L j = true := by simpa [ins, hji] using hj
            obtain ⟨oj, e, hoj, hsp, hy⟩ := I.still j hLj hDj
            refine ⟨oj, e, hoj, hsp.put v (hnb j hLj oj hoj), ?_⟩
            rcases hy with hy | ⟨hy1, hy2⟩
            · exact .inl (by simpa [put, hji] using hy)
            · exact .inr ⟨List.mem_cons_of_mem _ (by simpa [put, hji] using hy1), by simpa [put, hji] using hy2⟩,
        s := by rw [← En_put hl e0 V L ho v hLi]; exact hs, ok := hok }
    refine ⟨L', Lm', V', t', C', I', fun j hj => ?_, ht⟩
    rw [hV j hj]
    have : j ≠ i := fun e => by subst e; rw [hDi] at hj; cases hj
    simp [put, this]

/-- the chain of next ones has the one that is next -/
theorem chain {L : Nat → Bool} {Lm : Nat} (hmask : ∀ i, L i = bit Lm i) : ∀ (t : Tr) (cov : Nat) (C : Held) (e : Env) (h : Heap), (match t with | .no | .ef .. => True | _ => False) → okT c.ops bm t Lm cov = true → S c K t C e h →
    ∀ j o, c.ops[j]? = some o → L j = false → (∀ k, bit (depM o) k = true → L k = true) → bit cov j = false →
    ∃ bef t', (bef.all fun k => bit (bm.getD j 0) k) = true ∧ okT c.ops bm t' (Lm ||| 2 ^ j) 0 = true ∧ Ef c o e h fun v h' => Chk bef C h' ∧ S c K t' C (updO e o.dst v) h'
  | .no, cov, C, e, h, _, hok, hs, j, o, ho, hLj, hd, hc => by
    simp only [okT, Bool.and_eq_true] at hok
    have := List.all_eq_true.1 hok.2 j (List.mem_range.2 (Array.getElem?_eq_some_iff.1 ho).1)
    rw [ho, ← hmask, hLj, hc] at this
    have hsub : sub (depM o) Lm = true := sub_iff.2 fun k hk => by rw [← hmask]; exact hd k hk
    simp [hsub] at this
  | .ef i bef t alt, cov, C, e, h, _, hok, hs, j, o, ho, hLj, hd, hc => by
    simp only [okT, Bool.and_eq_true, Bool.not_eq_true'] at hok
    obtain ⟨⟨⟨⟨⟨h1, h2⟩, h3⟩, h4⟩, h5⟩, h6⟩ := hok
    by_cases hji : j = i
    · subst hji
      obtain ⟨⟨o', ho', hef⟩, _⟩ := hs
      obtain rfl : o = o' := Option.some.inj (ho.symm.trans ho')
      exact ⟨bef, t, h3, h4, hef⟩
    · refine chain hmask alt (cov ||| 2 ^ i) C e h ?_ h5 hs.2 j o ho hLj hd ?_
      · cases alt <;> simp [altOk] at h6 ⊢
      · rw [bit_or, hc, bit_two_pow]; simp [Ne.symm hji]

theorem En_full {ops : Array Oper} (e0 : Env) {V V' : Nat → Value} {D D' : Nat → Bool} (hV : ∀ j, D j = true → V' j = V j)
    (h : ∀ j, j < ops.size → D j = true) (h' : ∀ j, j < ops.size → D' j = true) : En ops e0 V' D' = En ops e0 V D := by
  funext s
  unfold En
  cases hw : writer ops s with
  | none => rfl
  | some k =>
    obtain ⟨o, ho, _⟩ := writer_some hw
    have hk := (Array.getElem?_eq_some_iff.1 ho).1
    simp [h k hk, h' k hk, hV k (h k hk)]

def left (m : Nat) (D : Nat → Bool) : Nat := (List.range m).countP fun j => !D j

theorem left_ins {m : Nat} {D : Nat → Bool} {i : Nat} (hi : i < m) (hD : D i = false) : left m (ins D i) < left m D := by
  have key : ∀ l : List Nat, i ∈ l → l.countP (fun j => !ins D i j) < l.countP (fun j => !D j) := by
    intro l
    induction l with
    | nil => intro h; cases h
    | cons x l ih =>
      intro h
      have mono : l.countP (fun j => !ins D i j) ≤ l.countP (fun j => !D j) :=
        List.countP_mono_left fun j _ hj => by simp [ins] at hj ⊢; exact hj.1
      by_cases hx : x = i
      · subst hx
        have e1 : (!ins D x x) = false := by simp [ins]
        have e2 : (!D x) = true := by simp [hD]
        rw [List.countP_cons, List.countP_cons, e1, e2]
        simp only [Bool.false_eq_true, if_false, if_true]
        omega
      · have : i ∈ l := by
          cases h with
          | head => exact absurd rfl hx
          | tail _ h => exact h
        have := ih this
        rw [List.countP_cons, List.countP_cons]
        have e : (!ins D i x) = (!D x) := by simp [ins, hx]
        rw [e]; omega
  exact key _ (List.mem_range.2 hi)

theorem all_of_left {m : Nat} {D : Nat → Bool} (h : left m D = 0) : ∀ j, j < m → D j = true := fun j hj => by
  have := List.countP_eq_zero.1 h j (List.mem_range.2 hj)
  simpa using this

theorem any_sound (hm : MaskOk c.ops bm) (hl : LookOk c.ops bm) (hnd : noDefers c.ops = true) (hK : ∀ e h dr, K e h → Q .normal (act c.n e c.d) (wd c.r h dr)) :
    ∀ (fuel : Nat) (listed : Array Bool) (L : Nat → Bool) (Lm : Nat) (V : Nat → Value) (t : Tr) (C : Held) (h : Heap) (dr : Nat), listed.size = c.ops.size →
      left c.ops.size (fun j => listed.getD j false) ≤ fuel → Inv c K bm e0 (fun j => listed.getD j false) L Lm V t C h →
      wpAnyIn (FW c.ro) 0 c.P .any c.ops Q fuel listed (act c.n (En c.ops e0 V fun j => listed.getD j false) c.d) (wd c.r h dr) := by
  -- where all is done
  have full : ∀ (listed : Array Bool) (L : Nat → Bool) (Lm : Nat) (V : Nat → Value) (t : Tr) (C : Held) (h : Heap) (dr : Nat),
      (∀ j, j < c.ops.size → listed.getD j false = true) → Inv c K bm e0 (fun j => listed.getD j false) L Lm V t C h →
      Q .normal (act c.n (En c.ops e0 V fun j => listed.getD j false) c.d) (wd c.r h dr) := by
    intro listed L Lm V t C h dr hall I
    obtain ⟨L', Lm', V', t', C', I', hV, ht⟩ := advance hm hl t _ L Lm V C h I
    cases t' with
    | fin =>
      have := I'.s
      rw [← En_full e0 hV hall fun j hj => I'.le j (hall j hj)]
      exact hK _ _ _ this
    | ef i bef t1 alt =>
      have ok := I'.ok
      simp only [okT, Bool.and_eq_true, Bool.not_eq_true'] at ok
      obtain ⟨⟨o, ho, _⟩, _⟩ := I'.s
      have := I'.le i (hall i (Array.getElem?_eq_some_iff.1 ho).1)
      rw [I'.mask, ok.1.1.1.1.1] at this; cases this
    | no => exact ht.elim
    | pu _ _ => exact ht.elim
    | rd _ _ => exact ht.elim
    | rl _ _ => exact ht.elim
  have getT : ∀ (listed : Array Bool) (j : Nat), listed.size = c.ops.size → j < c.ops.size → listed.getD j true = listed.getD j false := fun listed j hs hj => by
    simp [Array.getD_eq_getD_getElem?, hs, hj]
  intro fuel
  induction fuel with
  | zero =>
    intro listed L Lm V t C h dr hsz hf I
    have hall := all_of_left (Nat.le_zero.1 hf)
    refine ⟨?_, full listed L Lm V t C h dr hall I⟩
    cases hr : Region.ready .any c.ops listed with
    | nil => rfl
    | cons x r =>
      have hx : x ∈ Region.ready .any c.ops listed := by rw [hr]; simp
      obtain ⟨h1, o, ho, _⟩ := mem_ready.1 hx
      have hlt := (Array.getElem?_eq_some_iff.1 ho).1
      rw [getT listed x hsz hlt] at h1
      rw [show listed.getD x false = true from hall x hlt] at h1; cases h1
  | succ fuel ih =>
    intro listed L Lm V t C h dr hsz hf I
    refine ⟨fun hr => ?_, fun i hi => ?_⟩
    · refine full listed L Lm V t C h dr (fun j => ?_) I
      induction j using Nat.strongRecOn with
      | _ j ihj =>
        intro hj
        apply Decidable.byContradiction
        intro hn
        have hn' : listed.getD j false = false := by simpa using hn
        have : j ∈ Region.ready .any c.ops listed := mem_ready.2 ⟨by rw [getT listed j hsz hj]; exact hn', c.ops[j], by simp [hj], fun e he hb =>
          have hd : bit (depM c.ops[j]) e.on = true := (depM_bit _ _).2 ⟨e, he, hb, rfl⟩
          have hlt := (hm j c.ops[j] (by simp [hj])).1 _ hd
          ihj _ hlt (by omega)⟩
        rw [hr] at this; cases this
    · obtain ⟨h1, o, ho, hdep⟩ := mem_ready.1 hi
      have hlt := (Array.getElem?_eq_some_iff.1 ho).1
      have hnd' := noDefers_at hnd ho
      rw [getT listed i hsz hlt] at h1
      have hdD : ∀ j, bit (depM o) j = true → listed.getD j false = true := fun j hj => by
        obtain ⟨e, he, hb, rfl⟩ := (depM_bit _ _).1 hj
        exact hdep e he hb
      have hset : (fun j => (listed.setIfInBounds i true).getD j false) = ins (fun j => listed.getD j false) i := by
        funext j
        by_cases hji : j = i
        · subst hji; simp [ins, Array.getD_eq_getD_getElem?, hsz, hlt]
        · rw [getD_set_ne false (Ne.symm hji)]; simp [ins, hji]
      have hsz' : (listed.setIfInBounds i true).size = c.ops.size := by simpa using hsz
      have hleft : left c.ops.size (fun j => (listed.setIfInBounds i true).getD j false) ≤ fuel := by
        rw [hset]
        have := left_ins (m := c.ops.size) (D := fun j => listed.getD j false) hlt h1
        omega
      have hdown : Down c.ops (ins (fun j => listed.getD j false) i) := down_ins I.downD ho hdD
      have hnb : ∀ j, listed.getD j false = true → ∀ oj, c.ops[j]? = some oj → bit (bm.getD j 0) i = false := fun j hj oj hoj => by
        cases hb : bit (bm.getD j 0) i with
        | false => rfl
        | true => have := mask_in hm I.downD j oj hoj (fun k hk => I.downD j oj hoj hj k hk) i hb; have h3 : listed.getD i false = true := this; rw [h1] at h3; cases h3
      obtain ⟨L', Lm', V', t', C', I', hV, ht⟩ := advance hm hl t _ L Lm V C h I
      have hEn : En c.ops e0 V (fun j => listed.getD j false) = En c.ops e0 V' (fun j => listed.getD j false) := En_val e0 fun j hj => (hV j hj).symm
      rw [hEn]
      have hspec : Spec c.ops bm e0 V' i o (En c.ops e0 V' fun j => listed.getD j false) := spec_En hm hl e0 V' I'.downD ho h1 hdD
      by_cases hLi : L' i = true
      · -- it has been told of ahead of its turn
        obtain ⟨o', e, ho', hsp, hy⟩ := I'.still i hLi h1
        obtain rfl : o = o' := Option.some.inj (ho.symm.trans ho')
        have hrd : Rd c o e (V' i) h := by
          rcases hy with hy | ⟨_, hy⟩
          · exact hy.rd h
          · exact hy
        refine step_pu ho hnd' (hrd.agree hnd' (hsp.agree hspec)) ?_
        rw [En_put hl e0 V' _ ho (V' i) h1, ← hset]
        have hpv : put V' i (V' i) = V' := by
          funext j
          by_cases hji : j = i
          · subst hji; simp [put]
          · simp [put, hji]
        rw [hpv]
        refine ih _ L' Lm' V' t' C' h dr hsz' hleft ?_
        rw [hset]
        exact { downD := hdown, downL := I'.downL, le := fun j hj => by
                  by_cases hji : j = i
                  · subst hji; exact hLi
                  · exact I'.le j (by simpa [ins, hji] using hj),
                mask := I'.mask, s := I'.s, ok := I'.ok,
                still := fun j hj hDj => I'.still j hj (by
                  have : (listed.getD j false || decide (j = i)) = false := hDj
                  simp only [Bool.or_eq_false_iff] at this; exact this.1) }
      · -- an operation that changes the heap
        have hLi' : L' i = false := by simpa using hLi
        have hdL : ∀ j, bit (depM o) j = true → L' j = true := fun j hj => I'.le j (hdD j hj)
        have hch := chain (c := c) (bm := bm) (K := K) I'.mask t' 0 C' (En c.ops e0 V' L') h (by cases t' <;> first | exact ht.elim | trivial | (exfalso; have := I'.ok; simp only [okT] at this; have := List.all_eq_true.1 this i (List.mem_range.2 hlt); rw [← I'.mask, hLi'] at this; cases this)) I'.ok I'.s i o ho hLi' hdL (by simp [bit])
        obtain ⟨bef, t1, hbef, hok1, hef⟩ := hch
        have hspecL : Spec c.ops bm e0 V' i o (En c.ops e0 V' L') := spec_En hm hl e0 V' I'.downL ho hLi' hdL
        refine step_ef ho hnd' (hef.agree hnd' (hspecL.agree hspec)) ?_
        rintro v h' dr' ⟨hchk, hs⟩
        have hii : ∀ j, L' j = true → ∀ oj, c.ops[j]? = some oj → bit (bm.getD j 0) i = false := fun j hj oj hoj => by
          cases hb : bit (bm.getD j 0) i with
          | false => rfl
          | true => have := mask_in hm I'.downL j oj hoj (fun k hk => I'.downL j oj hoj hj k hk) i hb; rw [hLi'] at this; cases this
        rw [En_put hl e0 V' _ ho v h1, ← hset]
        refine ih _ (ins L' i) (Lm' ||| 2 ^ i) (put V' i v) t1 C' h' dr' hsz' hleft ?_
        rw [hset]
        exact { downD := hdown, downL := down_ins I'.downL ho hdL, le := fun j hj => by
                  by_cases hji : j = i
                  · subst hji; exact ins_same _ _
                  · exact ins_of _ _ (I'.le j (by simpa [ins, hji] using hj)),
                mask := fun j => by simp only [ins, bit_or, bit_two_pow, I'.mask]; simp [eq_comm],
                s := by rw [← En_put hl e0 V' L' ho v hLi']; exact hs, ok := hok1,
                still := fun j hj hDj => by
                  have hDj' : (listed.getD j false || decide (j = i)) = false := hDj
                  simp only [Bool.or_eq_false_iff, decide_eq_false_iff_not] at hDj'
                  obtain ⟨hDj1, hji⟩ := hDj'
                  have hLj : L' j = true := by simpa [ins, hji] using hj
                  obtain ⟨oj, e, hoj, hsp, hy⟩ := I'.still j hLj hDj1
                  refine ⟨oj, e, hoj, hsp.put v (hii j hLj oj hoj), ?_⟩
                  rcases hy with hy | ⟨hy1, hy2⟩
                  · exact .inl (by simpa [put, hji] using hy)
                  · refine .inr ⟨by simpa [put, hji] using hy1, ?_⟩
                    rcases hchk.mem hy1 with hb | hb
                    · exfalso
                      have hb' := List.all_eq_true.1 hbef j hb
                      have := mask_in hm I'.downD i o ho hdD j hb'
                      have h3 : listed.getD j false = true := this; rw [hDj1] at h3; cases h3
                    · simpa [put, hji] using hb }
end any

theorem region_any {c : Cx} {t : Tr} {id : Nat} {K : Env → Heap → Prop} {Q : Exit → Act → World → Prop} {e : Env} {h : Heap} {dr : Nat} (bm : List Nat) (hf : c.P.follows .mixedOrders = true)
    (h1 : (okMask c.ops.toList bm 0 c.ops.toList && okLook c.ops bm && okT c.ops bm t 0 0 && noDefers c.ops) = true) (hK : ∀ e h dr, K e h → Q .normal (act c.n e c.d) (wd c.r h dr)) (hs : S c K t [] e h) :
    (Code.region id c.ops true).wpIn (FW c.ro) 0 c.P Q (act c.n e c.d) (wd c.r h dr) := by
  simp only [Bool.and_eq_true] at h1
  obtain ⟨⟨⟨hmask, hlook⟩, hok⟩, hnd⟩ := h1
  refine wpIn_region_any hf ?_
  have hm := maskOk hmask
  have hl := lookOk hlook
  have hsz : (Array.replicate c.ops.size false).size = c.ops.size := by simp
  have h0 : (fun j => (Array.replicate c.ops.size false).getD j false) = fun _ => false := by
    funext j
    rw [Array.getD_eq_getD_getElem?]
    by_cases hj : j < c.ops.size
    · simp [hj]
    · simp [hj]
  have hE : ∀ V, En c.ops e V (fun j => (Array.replicate c.ops.size false).getD j false) = e := fun V => by
    rw [h0]; funext s; unfold En; cases writer c.ops s <;> simp
  have := any_sound (c := c) (K := K) (Q := Q) (bm := bm) (e0 := e) hm hl hnd hK c.ops.size (Array.replicate c.ops.size false) (fun _ => false) 0 (fun _ => undef) t [] h (dr + 1) hsz
    (by have : left c.ops.size (fun j => (Array.replicate c.ops.size false).getD j false) ≤ (List.range c.ops.size).length := List.countP_le_length
        simpa using this)
    (by rw [h0]
        exact { downD := (fun _ _ _ h => by cases h), downL := (fun _ _ _ h => by cases h), le := fun _ h => h, mask := (fun i => by simp [bit]), still := (fun _ h => by cases h),
                s := by rw [show En c.ops e (fun _ => undef) (fun _ => false) = e from by funext s; unfold En; cases writer c.ops s <;> simp]; exact hs, ok := hok })
  rw [hE] at this
  exact this

end Go.Tw
