/- The typed layer's ground: regions of operations, in whatever order, over environments and heaps. No program in sight. The typed layer: control; entering and leaving a function. The typed layer: what each kind of operation's run comes to. The typed layer: operations that read, write and make memory; calls. The typed layer: append, copy. The typed layer: a range over a function. The typed layer: the words in which a function is told. The typed layer: blocks of cells, what stays, slices that are read, slices that are grown. -/
import Derived.WalkKit
import Derived.OrdersIn
import Derived.RangeFuncLeaves
import Derived.RangeFuncIn
import Derived.RangeFuncRecord
namespace Go.Tw
open Go Go.RowKit
abbrev Heap := Array Obj
abbrev Env := Nat → Value
/-- the world of rest r, at a heap, at a count of draws -/
def wd (r : World) (h : Heap) (dr : Nat) : World := { heap := h, tape := r.tape, drawn := dr, os := r.os, output := r.output }
theorem wd_eta (w : World) : wd w w.heap w.drawn = w := rfl
def upd (e : Env) (d : Nat) (v : Value) : Env := fun t => bif Nat.beq t d then v else e t
def updO (e : Env) : Option Nat → Value → Env
  | some d, v => upd e d v
  | none, _ => e
def act (n : Nat) (e : Env) (d : List Deferred) : Act := { tmps := (Array.range n).map e, defers := d }
def ev (n : Nat) (e : Env) : Operand → Value
  | .tmp t => bif Nat.blt t n then e t else undef
  | .const v => v
  | .global g => .pointer (some ⟨g, 0, none⟩)
  | .func f => .func (.func f) #[] #[]
theorem upd_same (e : Env) (d : Nat) (v : Value) : upd e d v d = v := by simp [upd]
theorem upd_ne (e : Env) {d t : Nat} (v : Value) (h : t ≠ d) : upd e d v t = e t := by
  have : Nat.beq t d = false := by
    cases hb : Nat.beq t d with
    | false => rfl
    | true => exact absurd (Nat.eq_of_beq_eq_true hb) h
  simp [upd, this]
theorem act_get (n : Nat) (e : Env) (d : List Deferred) (t : Nat) : (act n e d).tmps[t]? = if t < n then some (e t) else none := by
  simp only [act, Array.getElem?_map]
  by_cases h : t < n
  · simp [h]
  · rw [Array.getElem?_eq_none (by simp; omega)]; simp [h]
theorem act_eval (n : Nat) (e : Env) (d : List Deferred) : (act n e d).eval = ev n e := by
  funext x
  cases x with
  | tmp t =>
    simp only [Act.eval, ev, Array.getD_eq_getD_getElem?, act_get]
    by_cases h : t < n
    · have : Nat.blt t n = true := by simpa [Nat.blt_eq] using h
      simp [h, this]
    · have : Nat.blt t n = false := by
        cases hb : Nat.blt t n with
        | false => rfl
        | true => exact absurd (by simpa [Nat.blt_eq] using hb) h
      simp [h, this]
  | _ => rfl
theorem act_put (n : Nat) (e : Env) (d : List Deferred) (o : Option Nat) (v : Value) : (act n e d).put o v = act n (updO e o v) d := by
  cases o with
  | none => rfl
  | some t =>
    simp only [Act.put, updO]
    have : ((act n e d).tmps.setIfInBounds t v) = (act n (upd e t v) d).tmps := by
      apply Array.ext
      · simp [act]
      · intro i h1 h2
        have hi : i < n := by simpa [act] using h2
        by_cases hti : t = i
        · subst hti; simp [act, upd_same]
        · have hs : i < (act n e d).tmps.size := by simpa [act] using hi
          rw [Array.getElem_setIfInBounds_ne hs hti]
          simp [act, upd_ne e v (Ne.symm hti)]
    rw [this]; rfl
/-- the environment at a call's entry -/
def ini (l : List Value) : Env := fun t => l.getD t undef
theorem act_ini (n : Nat) (l : List Value) (h : l.length ≤ n) :
    ({ tmps := l.toArray ++ Array.replicate (n - l.toArray.size) undef, defers := [] } : Act) = act n (ini l) [] := by
  have : (l.toArray ++ Array.replicate (n - l.toArray.size) undef) = (act n (ini l) []).tmps := by
    apply Array.ext
    · simp [act]; omega
    · intro i h1 h2
      have hi : i < n := by simpa [act] using h2
      simp only [act, Array.getElem_map, Array.getElem_range, ini, Array.getElem_append, List.getD_eq_getElem?_getD]
      by_cases hl : i < l.length
      · simp [hl]
      · rw [List.getElem?_eq_none (by omega)]; simp [hl]
  rw [this]; rfl
/-- the fence: every function, any depth; in a round or not -/
abbrev FW (ro : Option Nat) : Fence := { Fence.wide with round := ro }
theorem callsFW {ro : Option Nat} {n : Nat} {P : Program} {f : FuncId} {args : Array Value} {w : World} {R : Ending → World → Prop}
    (h : Calls P f args w R) : CallsIn (FW ro) n P f args w R := (callsIn_wide (n := n)).2 h
theorem of_callsFW {ro : Option Nat} {n : Nat} {P : Program} {f : FuncId} {args : Array Value} {w : World} {R : Ending → World → Prop}
    (h : CallsIn (FW ro) n P f args w R) : Calls P f args w R := (callsIn_wide (n := n)).1 h
/-- what one operation's run comes to, told by its value and the world behind it -/
def uponV (P : Program) (nv : Value → World → Prop) : Result Next → Prop
  | .ok (.value v) w => nv v w
  | .ok .skip w => nv undef w
  | .ok (.enter f args) w => Calls P f args w fun
      | .returned v, w' => nv v w'
      | _, _ => False
  | .ok (.round l f tmps asg body) w => RoundIn (FW .none) 0 P l f tmps asg body w fun
      | .returned v, w' => nv v w'
      | _, _ => False
  | _ => False
theorem RoundIn.fw {ro : Option Nat} {n : Nat} {P : Program} {l : Nat} {f : FuncId} {tmps : Array Value} {asg body : Code} {w : World} {R : Ending → World → Prop}
    (h : RoundIn (FW .none) n P l f tmps asg body w R) : RoundIn (FW ro) n P l f tmps asg body w R := h
theorem uponV_mono {P : Program} {nv nv' : Value → World → Prop} {x : Result Next} (h : uponV P nv x) (hn : ∀ v w, nv v w → nv' v w) : uponV P nv' x := by
  cases x with
  | ok x w =>
    cases x with
    | value v => exact hn _ _ h
    | skip => exact hn _ _ h
    | enter f args =>
      refine Calls.mono h ?_
      intro e w' he
      cases e with
      | returned v => exact hn _ _ he
      | panicked c => exact he.elim
      | outgrown => exact he.elim
    | round l f tmps asg body =>
      refine RoundIn.mono h ?_
      intro e w' he
      cases e with
      | returned v => exact hn _ _ he
      | panicked c => exact he.elim
      | outgrown => exact he.elim
    | _ => exact h.elim
  | halt x w => exact h.elim
/-- .. or to a panic -/
def uponP (P : Program) (pn nv : Value → World → Prop) : Result Next → Prop
  | .ok (.value v) w => nv v w
  | .ok .skip w => nv undef w
  | .ok (.enter f args) w => Calls P f args w fun
      | .returned v, w' => nv v w'
      | .panicked ch, w' => ∃ v, ch = [{ v, recovered := false }] ∧ pn v w'
      | _, _ => False
  | .ok (.round l f tmps asg body) w => RoundIn (FW .none) 0 P l f tmps asg body w fun
      | .returned v, w' => nv v w'
      | _, _ => False
  | .halt (.panic v) w => pn v w
  | _ => False
theorem uponV_uponP {P : Program} {pn nv : Value → World → Prop} {x : Result Next} (h : uponV P nv x) : uponP P pn nv x := by
  cases x with
  | ok x w =>
    cases x with
    | value v => exact h
    | skip => exact h
    | enter f args =>
      refine Calls.mono h ?_
      intro e w' he
      cases e with
      | returned v => exact he
      | panicked c => exact he.elim
      | outgrown => exact he.elim
    | round l f tmps asg body => exact h
    | _ => exact h.elim
  | halt x w => exact h.elim
theorem uponP_uponIn {ro : Option Nat} {P : Program} {o : Oper} {a : Act} {pn nv : Value → World → Prop} {next : Act → World → Prop} {Q : Exit → Act → World → Prop} {x : Result Next}
    (h : uponP P pn nv x) (hn : ∀ v w, nv v w → next (a.put o.dst v) w) (hp : ∀ v w, pn v w → Q (.panic [{ v, recovered := false }]) a w) : o.uponIn (FW ro) 0 P a next Q x := by
  cases x with
  | ok x w =>
    cases x with
    | value v => exact hn _ _ h
    | skip => exact hn _ _ h
    | enter f args =>
      refine ⟨fun hd => by simp [Fence.wide] at hd, callsFW (Calls.mono h ?_)⟩
      intro e w' he
      cases e with
      | returned v => exact hn _ _ he
      | panicked c => obtain ⟨v, hc, he⟩ := he; subst hc; exact hp _ _ he
      | outgrown => exact he.elim
    | round l f tmps asg body =>
      refine ⟨fun hd => by simp [Fence.wide] at hd, RoundIn.mono (RoundIn.fw h) ?_⟩
      intro e w' he
      cases e with
      | returned v => exact hn _ _ he
      | panicked c => exact he.elim
      | outgrown => exact he.elim
    | _ => exact h.elim
  | halt x w =>
    cases x with
    | panic v => exact hp _ _ h
    | _ => exact h.elim
theorem uponP_mono {P : Program} {pn nv nv' : Value → World → Prop} {x : Result Next} (h : uponP P pn nv x) (hn : ∀ v w, nv v w → nv' v w) : uponP P pn nv' x := by
  cases x with
  | ok x w =>
    cases x with
    | value v => exact hn _ _ h
    | skip => exact hn _ _ h
    | enter f args =>
      refine Calls.mono h ?_
      intro e w' he
      cases e with
      | returned v => exact hn _ _ he
      | panicked c => exact he
      | outgrown => exact he.elim
    | round l f tmps asg body =>
      refine RoundIn.mono h ?_
      intro e w' he
      cases e with
      | returned v => exact hn _ _ he
      | panicked c => exact he.elim
      | outgrown => exact he.elim
    | _ => exact h.elim
  | halt x w =>
    cases x with
    | panic v => exact h
    | _ => exact h.elim
structure Cx where
  P : Program
  r : World
  ro : Option Nat
  n : Nat
  d : List Deferred
  ops : Array Oper
  /-- a slot that is kept, if any -/
  kp : Option Nat
  /-- what is to hold where a panic leaves (the kept slot's value; what is panicked with) -/
  pan : Value → Value → Heap → Prop
/-- the kept slot's value -/
def kv (kp : Option Nat) (n : Nat) (e : Env) : Value := match kp with
  | none => undef
  | some s => ev n e (.tmp s)
/-- the kept slot is not written -/
def keepB : Option Nat → List Oper → Bool
  | none, _ => true
  | some s, l => l.all fun o => match o.dst with | some t => !Nat.beq t s | none => true
/-- is the operation's guard met? -/
def wants (c : Cx) (o : Oper) (e : Env) : Bool :=
  match o.guard with
  | none => true
  | some (g, b) => match (c.ops[g]?).bind (·.dst) with
    | some t => bif Nat.blt t c.n then (match e t with | .bool x => x == b | _ => false) else false
    | none => false
theorem wants_eq (c : Cx) (o : Oper) (e : Env) : Region.wanted o (yielded c.ops (act c.n e c.d).tmps) = wants c o e := by
  unfold Region.wanted wants
  cases o.guard with
  | none => rfl
  | some gw =>
    obtain ⟨g, b⟩ := gw
    simp only [yielded]
    cases (c.ops[g]?).bind (·.dst) with
    | none => simp
    | some t =>
      simp only [Option.bind_some, act_get]
      by_cases h : t < c.n
      · have : Nat.blt t c.n = true := by simpa [Nat.blt_eq] using h
        simp only [h, if_true, this, cond_true]
        cases e t <;> simp
      · have : Nat.blt t c.n = false := by
          cases hb : Nat.blt t c.n with
          | false => rfl
          | true => exact absurd (by simpa [Nat.blt_eq] using hb) h
        simp [h, this]
/-- an operation that computes, whatever the world -/
def Pu (c : Cx) (o : Oper) (e : Env) (v : Value) : Prop :=
  (wants c o e = true ∧ ∀ w, (execOp (ev c.n e) o).run c.P w = .ok (.value v) w) ∨ (wants c o e = false ∧ v = undef)
/-- an operation that reads the heap -/
def Rd (c : Cx) (o : Oper) (e : Env) (v : Value) (h : Heap) : Prop :=
  (wants c o e = true ∧ ∀ dr, (execOp (ev c.n e) o).run c.P (wd c.r h dr) = .ok (.value v) (wd c.r h dr)) ∨ (wants c o e = false ∧ v = undef)
def behind (r : World) (k : Value → Heap → Prop) (v : Value) (w : World) : Prop := ∃ h dr, w = wd r h dr ∧ k v h
/-- an operation that changes the heap, or calls -/
def Ef (c : Cx) (o : Oper) (e : Env) (h : Heap) (k : Value → Heap → Prop) : Prop :=
  (wants c o e = true ∧ ∀ dr, uponP c.P (behind c.r (c.pan (kv c.kp c.n e))) (behind c.r k) ((execOp (ev c.n e) o).run c.P (wd c.r h dr))) ∨ (wants c o e = false ∧ k undef h)
/-- a panic leaves -/
def PanQ (c : Cx) (Q : Exit → Act → World → Prop) : Prop := ∀ e h dr v, c.pan (kv c.kp c.n e) v h → Q (.panic [{ v, recovered := false }]) (act c.n e c.d) (wd c.r h dr)
theorem Pu.rd {c : Cx} {o : Oper} {e : Env} {v : Value} (h : Pu c o e v) (hp : Heap) : Rd c o e v hp := by
  rcases h with ⟨a, b⟩ | h
  · exact .inl ⟨a, fun dr => b _⟩
  · exact .inr h
inductive Tr where
  | pu (i : Nat) (t : Tr)
  | rd (i : Nat) (t : Tr)
  | rl (i : Nat) (t : Tr)
  | ef (i : Nat) (bef : List Nat) (t alt : Tr)
  | no
  | fin
abbrev Held := List (Nat × (Heap → Prop))
/-- what has been read before an operation, and need not have been, reads so behind it, too -/
def Chk (bef : List Nat) : Held → Heap → Prop
  | [], _ => True
  | c :: r, h => (bif bef.contains c.1 then True else c.2 h) ∧ Chk bef r h
theorem Chk.mem {bef : List Nat} {C : Held} {h : Heap} (hc : Chk bef C h) {c : Nat × (Heap → Prop)} (hm : c ∈ C) : c.1 ∈ bef ∨ c.2 h := by
  induction C with
  | nil => cases hm
  | cons x r ih =>
    obtain ⟨h1, h2⟩ := hc
    cases hm with
    | head =>
      cases hb : bef.contains c.1 with
      | true => exact .inl (by simpa using hb)
      | false => rw [hb] at h1; exact .inr h1
    | tail _ hm => exact ih h2 hm
def S (c : Cx) (K : Env → Heap → Prop) : Tr → Held → Env → Heap → Prop
  | .fin, _, e, h => K e h
  | .no, _, _, _ => True
  | .pu i t, C, e, h => ∃ o v, c.ops[i]? = some o ∧ Pu c o e v ∧ S c K t C (updO e o.dst v) h
  | .rd i t, C, e, h => ∃ o v, c.ops[i]? = some o ∧ Rd c o e v h ∧ S c K t ((i, fun h' => Rd c o e v h') :: C) (updO e o.dst v) h
  | .rl i t, C, e, h => ∃ o v, c.ops[i]? = some o ∧ Rd c o e v h ∧ S c K t C (updO e o.dst v) h
  | .ef i bef t alt, C, e, h => (∃ o, c.ops[i]? = some o ∧ Ef c o e h fun v h' => Chk bef C h' ∧ S c K t C (updO e o.dst v) h') ∧ S c K alt C e h
/-! ### In the order of the text -/
def lin : Tr → Option (List Nat)
  | .fin => some []
  | .no => none
  | .pu i t | .rd i t | .rl i t => (lin t).map (i :: ·)
  | .ef i _ t .no => (lin t).map (i :: ·)
  | .ef .. => none
def noDefer (o : Oper) : Bool := match o.op with | .defer _ => false | .select .. => false | _ => true
theorem about_any {F : Option Nat} {P : Program} {o : Oper} {w : World} {a : Act} : ∀ f, o.about P w a.eval = some f → (FW F).fn f := fun _ _ => trivial
theorem noDefer_semAt {ro : Option Nat} {ρ : Operand → Value} {o : Oper} (h : noDefer o = true) : o.semAt ro ρ = execOp ρ o :=
  Oper.semAt_eq ro ρ o fun c hc => by simp [noDefer, hc] at h
theorem step_pu {c : Cx} {o : Oper} {e : Env} {v : Value} {h : Heap} {dr : Nat} {K : Act → World → Prop} {Q : Exit → Act → World → Prop} {i : Nat}
    (hi : c.ops[i]? = some o) (hd : noDefer o = true) (hr : Rd c o e v h) (hk : K (act c.n (updO e o.dst v) c.d) (wd c.r h dr)) :
    wpOpIn (FW c.ro) 0 c.P c.ops Q i K (act c.n e c.d) (wd c.r h dr) := by
  unfold wpOpIn
  simp only [hi, wants_eq]
  rcases hr with ⟨hw, hx⟩ | ⟨hw, rfl⟩
  · simp only [hw, if_true]
    refine ⟨about_any, ?_⟩
    rw [noDefer_semAt hd, act_eval, hx dr]
    show K _ _
    rw [act_put]; exact hk
  · simp only [hw, Bool.false_eq_true, if_false]
    refine ⟨about_any, ?_⟩
    rw [act_put]; exact hk
theorem step_ef {c : Cx} {o : Oper} {e : Env} {h : Heap} {dr : Nat} {k : Value → Heap → Prop} {K : Act → World → Prop} {Q : Exit → Act → World → Prop} {i : Nat}
    (hi : c.ops[i]? = some o) (hd : noDefer o = true) (hr : Ef c o e h k) (hP : PanQ c Q) (hk : ∀ v h' dr', k v h' → K (act c.n (updO e o.dst v) c.d) (wd c.r h' dr')) :
    wpOpIn (FW c.ro) 0 c.P c.ops Q i K (act c.n e c.d) (wd c.r h dr) := by
  unfold wpOpIn
  simp only [hi, wants_eq]
  rcases hr with ⟨hw, hx⟩ | ⟨hw, hx⟩
  · simp only [hw, if_true]
    refine ⟨about_any, ?_⟩
    rw [noDefer_semAt hd, act_eval]
    refine uponP_uponIn (hx dr) ?_ ?_
    · rintro v w ⟨h', dr', rfl, hk'⟩
      rw [act_put]; exact hk _ _ _ hk'
    · rintro v w ⟨h', dr', rfl, hk'⟩
      exact hP _ _ _ _ hk'
  · simp only [hw, Bool.false_eq_true, if_false]
    refine ⟨about_any, ?_⟩
    rw [act_put]; exact hk _ _ _ hx
def noDefers (ops : Array Oper) : Bool := ops.toList.all noDefer
theorem noDefers_at {ops : Array Oper} (h : noDefers ops = true) {i : Nat} {o : Oper} (hi : ops[i]? = some o) : noDefer o = true := by
  unfold noDefers at h
  exact List.all_eq_true.1 h o (by simpa using Array.mem_of_getElem? hi)
theorem lin_sound (c : Cx) (hd : noDefers c.ops = true) (K : Env → Heap → Prop) (Q : Exit → Act → World → Prop) (hP : PanQ c Q) (hK : ∀ e h dr, K e h → Q .normal (act c.n e c.d) (wd c.r h dr)) :
    ∀ (t : Tr) (l : List Nat), lin t = some l → ∀ (C : Held) (e : Env) (h : Heap) (dr : Nat), S c K t C e h →
      wpOpsIn (FW c.ro) 0 c.P c.ops Q l (act c.n e c.d) (wd c.r h dr)
  | .fin, l, hl, C, e, h, dr, hs => by
    obtain rfl : [] = l := by simpa [lin] using hl
    exact hK e h dr hs
  | .no, l, hl, _, _, _, _, _ => by simp [lin] at hl
  | .pu i t, l, hl, C, e, h, dr, hs => by
    obtain ⟨l', hl', rfl⟩ : ∃ l', lin t = some l' ∧ i :: l' = l := by simpa [lin] using hl
    obtain ⟨o, v, hi, hp, hs⟩ := hs
    rw [wpOpsIn_cons]
    exact step_pu hi (noDefers_at hd hi) (hp.rd h) (lin_sound c hd K Q hP hK t l' hl' _ _ _ _ hs)
  | .rd i t, l, hl, C, e, h, dr, hs => by
    obtain ⟨l', hl', rfl⟩ : ∃ l', lin t = some l' ∧ i :: l' = l := by simpa [lin] using hl
    obtain ⟨o, v, hi, hp, hs⟩ := hs
    rw [wpOpsIn_cons]
    exact step_pu hi (noDefers_at hd hi) hp (lin_sound c hd K Q hP hK t l' hl' _ _ _ _ hs)
  | .rl i t, l, hl, C, e, h, dr, hs => by
    obtain ⟨l', hl', rfl⟩ : ∃ l', lin t = some l' ∧ i :: l' = l := by simpa [lin] using hl
    obtain ⟨o, v, hi, hp, hs⟩ := hs
    rw [wpOpsIn_cons]
    exact step_pu hi (noDefers_at hd hi) hp (lin_sound c hd K Q hP hK t l' hl' _ _ _ _ hs)
  | .ef i bef t alt, l, hl, C, e, h, dr, hs => by
    cases alt with
    | no =>
      obtain ⟨l', hl', rfl⟩ : ∃ l', lin t = some l' ∧ i :: l' = l := by simpa [lin] using hl
      obtain ⟨⟨o, hi, hp⟩, _⟩ := hs
      rw [wpOpsIn_cons]
      exact step_ef hi (noDefers_at hd hi) hp hP (fun v h' dr' hv => lin_sound c hd K Q hP hK t l' hl' _ _ _ _ hv.2)
    | _ => simp [lin] at hl
theorem region_lin {c : Cx} {t : Tr} {id : Nat} {K : Env → Heap → Prop} {Q : Exit → Act → World → Prop} {e : Env} {h : Heap} {dr : Nat}
    (hl : lin t = some (List.range c.ops.size)) (hd : noDefers c.ops = true) (hP : PanQ c Q) (hK : ∀ e h dr, K e h → Q .normal (act c.n e c.d) (wd c.r h dr)) (hs : S c K t [] e h) :
    (Code.region id c.ops false).wpIn (FW c.ro) 0 c.P Q (act c.n e c.d) (wd c.r h dr) :=
  wpIn_region (lin_sound c hd K Q hP hK t _ hl _ _ _ _ hs)
/-! ### In whatever order the edges allow -/
/-- the mask of what an operation must directly follow -/
def depM (o : Oper) : Nat := o.after.foldl (fun s e => bif Region.binds .any e then s ||| 2 ^ e.on else s) 0
def bit (m i : Nat) : Bool := m.testBit i
theorem bit_or (a b i : Nat) : bit (a ||| b) i = (bit a i || bit b i) := Nat.testBit_or a b i
theorem bit_two_pow (a i : Nat) : bit (2 ^ a) i = decide (a = i) := Nat.testBit_two_pow
/-- every bit of a is one of b's -/
def sub (a b : Nat) : Bool := a ||| b == b
theorem sub_bit {a b : Nat} (h : sub a b = true) {i : Nat} (hi : bit a i = true) : bit b i = true := by
  have e : a ||| b = b := by simpa [sub] using h
  rw [← e, bit_or, hi]; rfl
theorem depM_bit (o : Oper) (j : Nat) : bit (depM o) j = true ↔ ∃ e ∈ o.after, Region.binds .any e = true ∧ e.on = j := by
  unfold depM
  rw [← Array.foldl_toList]
  have key : ∀ (l : List Edge) (s : Nat), bit (l.foldl (fun s e => bif Region.binds .any e then s ||| 2 ^ e.on else s) s) j = true ↔ bit s j = true ∨ ∃ e ∈ l, Region.binds .any e = true ∧ e.on = j := by
    intro l
    induction l with
    | nil => intro s; simp
    | cons x l ih =>
      intro s
      rw [List.foldl_cons, ih]
      cases hb : Region.binds .any x
      · simp [hb]
      · simp only [cond_true, bit_or, bit_two_pow, Bool.or_eq_true, decide_eq_true_eq, List.mem_cons]
        constructor
        · rintro ((h | h) | ⟨e, he, h1, h2⟩)
          · exact .inl h
          · exact .inr ⟨x, .inl rfl, hb, h⟩
          · exact .inr ⟨e, .inr he, h1, h2⟩
        · rintro (h | ⟨e, rfl | he, h1, h2⟩)
          · exact .inl (.inl h)
          · exact .inl (.inr h2)
          · exact .inr ⟨e, he, h1, h2⟩
  rw [key]
  simp [bit]
/-- the masks that are handed in are masks of what surely goes ahead -/
def okMask (ops : List Oper) (bm : List Nat) : Nat → List Oper → Bool
  | _, [] => true
  | i, o :: r => sub (bm.getD i 0) ((List.range i).foldl (fun s j => bif bit (depM o) j then s ||| 2 ^ j ||| bm.getD j 0 else s) 0) && (depM o).blt (2 ^ i) && okMask ops bm (i + 1) r
/-- a set of operations that bears, with each one, all that it follows -/
def Down (ops : Array Oper) (D : Nat → Bool) : Prop := ∀ i o, ops[i]? = some o → D i = true → ∀ j, bit (depM o) j = true → D j = true
def MaskOk (ops : Array Oper) (bm : List Nat) : Prop :=
  ∀ i o, ops[i]? = some o → (∀ j, bit (depM o) j = true → j < i) ∧ ∀ k, bit (bm.getD i 0) k = true → ∃ j, bit (depM o) j = true ∧ (k = j ∨ bit (bm.getD j 0) k = true)
theorem foldl_mask (p : Nat → Bool) (bm : List Nat) (k : Nat) : ∀ (l : List Nat) (s : Nat),
    bit (l.foldl (fun s j => bif p j then s ||| 2 ^ j ||| bm.getD j 0 else s) s) k = true → bit s k = true ∨ ∃ j ∈ l, p j = true ∧ (k = j ∨ bit (bm.getD j 0) k = true) := by
  intro l
  induction l with
  | nil => intro s h; exact .inl h
  | cons x l ih =>
    intro s h
    rw [List.foldl_cons] at h
    rcases ih _ h with h | ⟨j, hj, h1, h2⟩
    · cases hp : p x
      · rw [hp] at h; exact .inl h
      · rw [hp] at h
        simp only [cond_true, bit_or, bit_two_pow, Bool.or_eq_true, decide_eq_true_eq] at h
        rcases h with (h | h) | h
        · exact .inl h
        · exact .inr ⟨x, by simp, hp, .inl h.symm⟩
        · exact .inr ⟨x, by simp, hp, .inr h⟩
    · exact .inr ⟨j, by simp [hj], h1, h2⟩
theorem okMask_spec {ops : List Oper} {bm : List Nat} : ∀ (r : List Oper) (i : Nat), okMask ops bm i r = true → ∀ k o, r[k]? = some o →
    (∀ j, bit (depM o) j = true → j < i + k) ∧ ∀ b, bit (bm.getD (i + k) 0) b = true → ∃ j, bit (depM o) j = true ∧ (b = j ∨ bit (bm.getD j 0) b = true) := by
  intro r
  induction r with
  | nil => intro i _ k o h; simp at h
  | cons x r ih =>
    intro i h k o hk
    simp only [okMask, Bool.and_eq_true] at h
    cases k with
    | zero =>
      obtain rfl : x = o := by simpa using hk
      refine ⟨fun j hj => ?_, fun b hb => ?_⟩
      · have h2 : depM x < 2 ^ i := by simpa [Nat.blt_eq] using h.1.2
        apply Decidable.byContradiction
        intro hn
        have := Nat.testBit_lt_two_pow (x := depM x) (i := j) (Nat.lt_of_lt_of_le h2 (Nat.pow_le_pow_right (by omega) (by omega)))
        rw [show (depM x).testBit j = true from hj] at this
        cases this
      · rcases foldl_mask _ _ _ _ _ (sub_bit h.1.1 hb) with h | ⟨j, _, h1, h2⟩
        · simp [bit] at h
        · exact ⟨j, h1, h2⟩
    | succ k =>
      have := ih (i + 1) h.2 k o (by simpa using hk)
      rwa [show i + 1 + k = i + (k + 1) by omega] at this
theorem maskOk {ops : Array Oper} {bm : List Nat} (h : okMask ops.toList bm 0 ops.toList = true) : MaskOk ops bm := fun i o hi => by
  have := okMask_spec ops.toList 0 h i o (by simpa using hi)
  simpa using this
/-- what surely goes ahead of an operation is in every set that bears all that it directly follows -/
theorem mask_in {ops : Array Oper} {bm : List Nat} (hm : MaskOk ops bm) {D : Nat → Bool} (hD : Down ops D) : ∀ (i : Nat) (o : Oper), ops[i]? = some o →
    (∀ j, bit (depM o) j = true → D j = true) → ∀ k, bit (bm.getD i 0) k = true → D k = true := by
  intro i
  induction i using Nat.strongRecOn with
  | _ i ih =>
    intro o ho hd k hk
    obtain ⟨j, hj, h⟩ := (hm i o ho).2 k hk
    have hji := (hm i o ho).1 j hj
    rcases h with rfl | h
    · exact hd _ hj
    · have hlt : j < ops.size := by have := (Array.getElem?_eq_some_iff.1 ho).1; omega
      exact ih j hji ops[j] (by simp [hlt]) (fun j' hj' => hD j _ (by simp [hlt]) (hd j hj) j' hj') k h
def writer (ops : Array Oper) (s : Nat) : Option Nat := ops.toList.findIdx? fun o => o.dst == some s
theorem writer_some {ops : Array Oper} {s j : Nat} (h : writer ops s = some j) : ∃ o, ops[j]? = some o ∧ o.dst = some s := by
  unfold writer at h
  rw [List.findIdx?_eq_some_iff_getElem] at h
  obtain ⟨hj, h1, _⟩ := h
  exact ⟨ops.toList[j], by simp, by simpa using h1⟩
/-- the environment when the operations of D are done, of values V -/
def En (ops : Array Oper) (e0 : Env) (V : Nat → Value) (D : Nat → Bool) : Env := fun s =>
  match writer ops s with
  | some j => if D j then V j else e0 s
  | none => e0 s
/-- each slot is written once; what an operation looks at is written surely ahead of it or surely behind it -/
def okLook (ops : Array Oper) (bm : List Nat) : Bool :=
  (List.range ops.size).all fun i => match ops[i]? with
    | none => true
    | some o => (match o.dst with | some s => writer ops s == some i | none => true) &&
      (o.looksAt ops).all fun s => match writer ops s with
        | some j => bit (bm.getD i 0) j || bit (bm.getD j 0) i
        | none => true
structure LookOk (ops : Array Oper) (bm : List Nat) : Prop where
  once : ∀ i o s, ops[i]? = some o → o.dst = some s → writer ops s = some i
  look : ∀ i o s j, ops[i]? = some o → s ∈ o.looksAt ops → writer ops s = some j → bit (bm.getD i 0) j = true ∨ bit (bm.getD j 0) i = true
theorem lookOk {ops : Array Oper} {bm : List Nat} (h : okLook ops bm = true) : LookOk ops bm := by
  have key : ∀ (i : Nat) (o : Oper), ops[i]? = some o → (match o.dst with | some s => writer ops s == some i | none => true) = true ∧ ((o.looksAt ops).all fun s => match writer ops s with
        | some j => bit (bm.getD i 0) j || bit (bm.getD j 0) i
        | none => true) = true := fun i o ho => by
    have hlt := (Array.getElem?_eq_some_iff.1 ho).1
    have := List.all_eq_true.1 h i (List.mem_range.2 hlt)
    simp only [ho] at this
    simpa only [Bool.and_eq_true] using this
  refine ⟨fun i o s ho hs => ?_, fun i o s j ho hs hj => ?_⟩
  · have := (key i o ho).1; rw [hs] at this; simpa using this
  · have := List.all_eq_true.1 (key i o ho).2 s hs
    rw [hj] at this
    simpa only [Bool.or_eq_true] using this
/-- what an operation sees, whenever it is its turn -/
def Spec (ops : Array Oper) (bm : List Nat) (e0 : Env) (V : Nat → Value) (i : Nat) (o : Oper) (e : Env) : Prop :=
  ∀ s ∈ o.looksAt ops, e s = match writer ops s with
    | some k => if bit (bm.getD i 0) k then V k else e0 s
    | none => e0 s
theorem spec_En {ops : Array Oper} {bm : List Nat} (hm : MaskOk ops bm) (hl : LookOk ops bm) (e0 : Env) (V : Nat → Value) {D : Nat → Bool} (hD : Down ops D) {i : Nat} {o : Oper} (ho : ops[i]? = some o)
    (hi : D i = false) (hd : ∀ j, bit (depM o) j = true → D j = true) : Spec ops bm e0 V i o (En ops e0 V D) := by
  intro s hs
  unfold En
  cases hw : writer ops s with
  | none => rfl
  | some k =>
    simp only
    cases hb : bit (bm.getD i 0) k
    · simp only [Bool.false_eq_true, if_false]
      rcases hl.look i o s k ho hs hw with h | h
      · rw [hb] at h; cases h
      · have : D k = false := by
          cases hk : D k with
          | false => rfl
          | true =>
            obtain ⟨ok, hok, _⟩ := writer_some hw
            have := mask_in hm hD k ok hok (fun j hj => hD k ok hok hk j hj) i h
            rw [hi] at this; cases this
        simp [this]
    · have : D k = true := mask_in hm hD i o ho hd k hb
      simp [this]
theorem Spec.agree {ops : Array Oper} {bm : List Nat} {e0 : Env} {V : Nat → Value} {i : Nat} {o : Oper} {e e' : Env} (h : Spec ops bm e0 V i o e) (h' : Spec ops bm e0 V i o e') :
    ∀ s ∈ o.looksAt ops, e s = e' s := fun s hs => (h s hs).trans (h' s hs).symm
theorem exec_agree {n : Nat} {ops : Array Oper} {o : Oper} (hd : noDefer o = true) {e e' : Env} (h : ∀ s ∈ o.looksAt ops, e s = e' s) : execOp (ev n e) o = execOp (ev n e') o := by
  refine execOp_congr o (fun cs b hs => by simp [noDefer, hs] at hd) fun x hx => ?_
  cases x with
  | tmp t =>
    have : e t = e' t := h t (List.mem_append_left _ (List.mem_filterMap.2 ⟨.tmp t, by simpa using hx, rfl⟩))
    simp [ev, this]
  | _ => rfl
theorem wants_agree {c : Cx} {o : Oper} {e e' : Env} (h : ∀ s ∈ o.looksAt c.ops, e s = e' s) : wants c o e = wants c o e' := by
  unfold wants
  cases hg : o.guard with
  | none => rfl
  | some gw =>
    obtain ⟨g, b⟩ := gw
    simp only
    cases ht : (c.ops[g]?).bind (·.dst) with
    | none => rfl
    | some t =>
      have : e t = e' t := h t (by simp [Oper.looksAt, hg, ht])
      simp only [this]
theorem Rd.agree {c : Cx} {o : Oper} {e e' : Env} {v : Value} {h : Heap} (hd : noDefer o = true) (ha : ∀ s ∈ o.looksAt c.ops, e s = e' s) (hr : Rd c o e v h) : Rd c o e' v h := by
  unfold Rd at *
  rw [← exec_agree hd ha, ← wants_agree ha]; exact hr
theorem Ef.agree {c : Cx} {o : Oper} {e e' : Env} {h : Heap} {k : Value → Heap → Prop} (hd : noDefer o = true) (ha : ∀ s ∈ o.looksAt c.ops, e s = e' s) (hk : kv c.kp c.n e = kv c.kp c.n e') (hr : Ef c o e h k) : Ef c o e' h k := by
  unfold Ef at *
  rw [← exec_agree hd ha, ← wants_agree ha, ← hk]; exact hr
def ins (D : Nat → Bool) (i : Nat) : Nat → Bool := fun j => D j || decide (j = i)
def put (V : Nat → Value) (i : Nat) (v : Value) : Nat → Value := fun j => if j = i then v else V j
theorem ins_same (D : Nat → Bool) (i : Nat) : ins D i i = true := by simp [ins]
theorem ins_of (D : Nat → Bool) (i : Nat) {j : Nat} (h : D j = true) : ins D i j = true := by simp [ins, h]
theorem down_ins {ops : Array Oper} {D : Nat → Bool} (hD : Down ops D) {i : Nat} {o : Oper} (ho : ops[i]? = some o) (hd : ∀ j, bit (depM o) j = true → D j = true) : Down ops (ins D i) := by
  intro k ok hok hk j hj
  by_cases hki : k = i
  · subst hki
    obtain rfl : o = ok := Option.some.inj (ho.symm.trans hok)
    exact ins_of _ _ (hd j hj)
  · have : D k = true := by simpa [ins, hki] using hk
    exact ins_of _ _ (hD k ok hok this j hj)
theorem kv_En {ops : Array Oper} {kp : Option Nat} (hk : keepB kp ops.toList = true) (n : Nat) (e0 : Env) (V : Nat → Value) (D : Nat → Bool) : kv kp n (En ops e0 V D) = kv kp n e0 := by
  cases kp with
  | none => rfl
  | some s =>
    have : En ops e0 V D s = e0 s := by
      unfold En
      cases hw : writer ops s with
      | none => rfl
      | some k =>
        obtain ⟨o, ho, hs⟩ := writer_some hw
        have hm : o ∈ ops.toList := by simpa using Array.mem_of_getElem? ho
        have := List.all_eq_true.1 hk o hm
        rw [hs] at this
        simp at this
    simp [kv, ev, this]
theorem En_put {ops : Array Oper} {bm : List Nat} (hl : LookOk ops bm) (e0 : Env) (V : Nat → Value) (D : Nat → Bool) {i : Nat} {o : Oper} (ho : ops[i]? = some o) (v : Value) (hi : D i = false) :
    updO (En ops e0 V D) o.dst v = En ops e0 (put V i v) (ins D i) := by
  funext s
  cases hd : o.dst with
  | none =>
    simp only [updO, En]
    cases hw : writer ops s with
    | none => rfl
    | some k =>
      have hki : k ≠ i := fun e => by
        subst e
        obtain ⟨o', ho', hs'⟩ := writer_some hw
        obtain rfl : o = o' := Option.some.inj (ho.symm.trans ho')
        rw [hd] at hs'; cases hs'
      simp [put, ins, hki]
  | some t =>
    simp only [updO]
    by_cases hst : s = t
    · subst hst
      rw [upd_same]
      have hw := hl.once i o s ho hd
      simp [En, hw, put, ins]
    · rw [upd_ne _ _ hst]
      simp only [En]
      cases hw : writer ops s with
      | none => rfl
      | some k =>
        have hki : k ≠ i := fun e => by
          subst e
          obtain ⟨o', ho', hs'⟩ := writer_some hw
          obtain rfl : o = o' := Option.some.inj (ho.symm.trans ho')
          rw [hd] at hs'; exact hst (Option.some.inj hs').symm
        simp [put, ins, hki]
theorem En_val {ops : Array Oper} (e0 : Env) {V V' : Nat → Value} {D : Nat → Bool} (h : ∀ j, D j = true → V j = V' j) : En ops e0 V D = En ops e0 V' D := by
  funext s
  unfold En
  cases writer ops s with
  | none => rfl
  | some k =>
    simp only
    cases hk : D k
    · rfl
    · simp [h k hk]
theorem Spec.put {ops : Array Oper} {bm : List Nat} {e0 : Env} {V : Nat → Value} {j : Nat} {o : Oper} {e : Env} (h : Spec ops bm e0 V j o e) {i : Nat} (v : Value) (hi : bit (bm.getD j 0) i = false) : Spec ops bm e0 (put V i v) j o e := by
  intro s hs
  rw [h s hs]
  cases hw : writer ops s with
  | none => rfl
  | some k =>
    simp only
    by_cases hk : bit (bm.getD j 0) k = true
    · have : k ≠ i := fun e => by subst e; rw [hi] at hk; cases hk
      rw [if_pos hk, if_pos hk]; simp [Tw.put, this]
    · rw [if_neg hk, if_neg hk]
/-- is the tree one of this region's: every way of going through it? D: what is done; cov: which next ones have been told of -/
def altOk : Tr → Bool | .no | .ef .. => true | _ => false
def okT (ops : Array Oper) (bm : List Nat) : Tr → Nat → Nat → Bool
  | .fin, D, _ => (List.range ops.size).all fun i => bit D i
  | .no, D, cov => (cov != 0) && (List.range ops.size).all fun i => bit D i || bit cov i || (match ops[i]? with | some o => !sub (depM o) D | none => true)
  | .pu i t, D, _ => !bit D i && (match ops[i]? with | some o => sub (depM o) D | none => false) && okT ops bm t (D ||| 2 ^ i) 0
  | .rd i t, D, _ => !bit D i && (match ops[i]? with | some o => sub (depM o) D | none => false) && okT ops bm t (D ||| 2 ^ i) 0
  | .rl .., _, _ => false
  | .ef i bef t alt, D, cov => !bit D i && (match ops[i]? with | some o => sub (depM o) D | none => false) && (bef.all fun j => bit (bm.getD i 0) j) && okT ops bm t (D ||| 2 ^ i) 0 && okT ops bm alt D (cov ||| 2 ^ i) && altOk alt
theorem sub_iff {a b : Nat} : sub a b = true ↔ ∀ i, bit a i = true → bit b i = true := by
  refine ⟨fun h i hi => sub_bit h hi, fun h => ?_⟩
  have : a ||| b = b := by
    apply Nat.eq_of_testBit_eq
    intro i
    have e : (a ||| b).testBit i = (bit a i || bit b i) := Nat.testBit_or a b i
    rw [e]
    show (bit a i || bit b i) = bit b i
    cases ha : bit a i
    · rfl
    · rw [h i ha]; rfl
  simp [sub, this]
section any
variable {c : Cx} {K : Env → Heap → Prop} {Q : Exit → Act → World → Prop} {bm : List Nat} {e0 : Env}
/-- what has been read ahead of its turn is still so -/
def Still (c : Cx) (bm : List Nat) (e0 : Env) (V : Nat → Value) (C : Held) (h : Heap) (j : Nat) : Prop :=
  ∃ o e, c.ops[j]? = some o ∧ Spec c.ops bm e0 V j o e ∧ (Pu c o e (V j) ∨ ((j, fun h' => Rd c o e (V j) h') ∈ C ∧ Rd c o e (V j) h))
structure Inv (c : Cx) (K : Env → Heap → Prop) (bm : List Nat) (e0 : Env) (D L : Nat → Bool) (Lm : Nat) (V : Nat → Value) (t : Tr) (C : Held) (h : Heap) : Prop where
  downD : Down c.ops D
  downL : Down c.ops L
  le : ∀ i, D i = true → L i = true
  mask : ∀ i, L i = bit Lm i
  still : ∀ j, L j = true → D j = false → Still c bm e0 V C h j
  s : S c K t C (En c.ops e0 V L) h
  ok : okT c.ops bm t Lm 0 = true
theorem advance (hm : MaskOk c.ops bm) (hl : LookOk c.ops bm) : ∀ (t : Tr) (D L : Nat → Bool) (Lm : Nat) (V : Nat → Value) (C : Held) (h : Heap), Inv c K bm e0 D L Lm V t C h →
    ∃ L' Lm' V' t' C', Inv c K bm e0 D L' Lm' V' t' C' h ∧ (∀ j, D j = true → V' j = V j) ∧ (match t' with | .fin | .ef .. => True | _ => False)
  | .fin, D, L, Lm, V, C, h, I => ⟨L, Lm, V, .fin, C, I, fun _ _ => rfl, trivial⟩
  | .ef i bef t alt, D, L, Lm, V, C, h, I => ⟨L, Lm, V, .ef i bef t alt, C, I, fun _ _ => rfl, trivial⟩
  | .no, D, L, Lm, V, C, h, I => by have := I.ok; simp [okT] at this
  | .rl .., D, L, Lm, V, C, h, I => by have := I.ok; simp [okT] at this
  | .pu i t, D, L, Lm, V, C, h, I => by
    obtain ⟨o, v, ho, hp, hs⟩ := I.s
    have ok := I.ok
    simp only [okT, Bool.and_eq_true, Bool.not_eq_true', ho] at ok
    obtain ⟨⟨hi, hsub⟩, hok⟩ := ok
    have hLi : L i = false := by rw [I.mask]; exact hi
    have hd : ∀ j, bit (depM o) j = true → L j = true := fun j hj => by rw [I.mask]; exact sub_bit hsub hj
    have hDi : D i = false := by
      cases hD : D i with
      | false => rfl
      | true => rw [I.le i hD] at hLi; cases hLi
    have hnb : ∀ j, L j = true → ∀ oj, c.ops[j]? = some oj → bit (bm.getD j 0) i = false := fun j hj oj hoj => by
      cases hb : bit (bm.getD j 0) i with
      | false => rfl
      | true => have := mask_in hm I.downL j oj hoj (fun k hk => I.downL j oj hoj hj k hk) i hb; rw [hLi] at this; cases this
    have hii : bit (bm.getD i 0) i = false := by
      cases hb : bit (bm.getD i 0) i with
      | false => rfl
      | true => have := mask_in hm I.downL i o ho hd i hb; rw [hLi] at this; cases this
    obtain ⟨L', Lm', V', t', C', I', hV, ht⟩ := advance hm hl t D (ins L i) (Lm ||| 2 ^ i) (put V i v) C h
      { downD := I.downD, downL := down_ins I.downL ho hd, le := fun j hj => ins_of _ _ (I.le j hj),
        mask := fun j => by simp only [ins, bit_or, bit_two_pow, I.mask]; simp [eq_comm],
        still := fun j hj hDj => by
          by_cases hji : j = i
          · subst hji
            refine ⟨o, En c.ops e0 V L, ho, (spec_En hm hl e0 V I.downL ho hLi hd).put v hii, .inl ?_⟩
            simpa [put] using hp
          · have hLj : L j = true := by simpa [ins, hji] using hj
            obtain ⟨oj, e, hoj, hsp, hy⟩ := I.still j hLj hDj
            refine ⟨oj, e, hoj, hsp.put v (hnb j hLj oj hoj), ?_⟩
            simpa [put, hji] using hy,
        s := by rw [← En_put hl e0 V L ho v hLi]; exact hs, ok := hok }
    refine ⟨L', Lm', V', t', C', I', fun j hj => ?_, ht⟩
    rw [hV j hj]
    have : j ≠ i := fun e => by subst e; rw [hDi] at hj; cases hj
    simp [put, this]
  | .rd i t, D, L, Lm, V, C, h, I => by
    obtain ⟨o, v, ho, hp, hs⟩ := I.s
    have ok := I.ok
    simp only [okT, Bool.and_eq_true, Bool.not_eq_true', ho] at ok
    obtain ⟨⟨hi, hsub⟩, hok⟩ := ok
    have hLi : L i = false := by rw [I.mask]; exact hi
    have hd : ∀ j, bit (depM o) j = true → L j = true := fun j hj => by rw [I.mask]; exact sub_bit hsub hj
    have hDi : D i = false := by
      cases hD : D i with
      | false => rfl
      | true => rw [I.le i hD] at hLi; cases hLi
    have hnb : ∀ j, L j = true → ∀ oj, c.ops[j]? = some oj → bit (bm.getD j 0) i = false := fun j hj oj hoj => by
      cases hb : bit (bm.getD j 0) i with
      | false => rfl
      | true => have := mask_in hm I.downL j oj hoj (fun k hk => I.downL j oj hoj hj k hk) i hb; rw [hLi] at this; cases this
    have hii : bit (bm.getD i 0) i = false := by
      cases hb : bit (bm.getD i 0) i with
      | false => rfl
      | true => have := mask_in hm I.downL i o ho hd i hb; rw [hLi] at this; cases this
    obtain ⟨L', Lm', V', t', C', I', hV, ht⟩ := advance hm hl t D (ins L i) (Lm ||| 2 ^ i) (put V i v) ((i, fun h' => Rd c o (En c.ops e0 V L) v h') :: C) h
      { downD := I.downD, downL := down_ins I.downL ho hd, le := fun j hj => ins_of _ _ (I.le j hj),
        mask := fun j => by simp only [ins, bit_or, bit_two_pow, I.mask]; simp [eq_comm],
        still := fun j hj hDj => by
          by_cases hji : j = i
          · subst hji
            refine ⟨o, En c.ops e0 V L, ho, (spec_En hm hl e0 V I.downL ho hLi hd).put v hii, .inr ?_⟩
            simpa [put] using hp
          · have hLj : L j = true := by simpa [ins, hji] using hj
            obtain ⟨oj, e, hoj, hsp, hy⟩ := I.still j hLj hDj
            refine ⟨oj, e, hoj, hsp.put v (hnb j hLj oj hoj), ?_⟩
            rcases hy with hy | ⟨hy1, hy2⟩
            · exact .inl (by simpa [put, hji] using hy)
            · exact .inr ⟨List.mem_cons_of_mem _ (by simpa [put, hji] using hy1), by simpa [put, hji] using hy2⟩,
        s := by rw [← En_put hl e0 V L ho v hLi]; exact hs, ok := hok }
    refine ⟨L', Lm', V', t', C', I', fun j hj => ?_, ht⟩
    rw [hV j hj]
    have : j ≠ i := fun e => by subst e; rw [hDi] at hj; cases hj
    simp [put, this]
/-- the chain of next ones has the one that is next -/
theorem chain {L : Nat → Bool} {Lm : Nat} (hmask : ∀ i, L i = bit Lm i) : ∀ (t : Tr) (cov : Nat) (C : Held) (e : Env) (h : Heap), (match t with | .no | .ef .. => True | _ => False) → okT c.ops bm t Lm cov = true → S c K t C e h →
    ∀ j o, c.ops[j]? = some o → L j = false → (∀ k, bit (depM o) k = true → L k = true) → bit cov j = false →
    ∃ bef t', (bef.all fun k => bit (bm.getD j 0) k) = true ∧ okT c.ops bm t' (Lm ||| 2 ^ j) 0 = true ∧ Ef c o e h fun v h' => Chk bef C h' ∧ S c K t' C (updO e o.dst v) h'
  | .no, cov, C, e, h, _, hok, hs, j, o, ho, hLj, hd, hc => by
    simp only [okT, Bool.and_eq_true] at hok
    have := List.all_eq_true.1 hok.2 j (List.mem_range.2 (Array.getElem?_eq_some_iff.1 ho).1)
    rw [ho, ← hmask, hLj, hc] at this
    have hsub : sub (depM o) Lm = true := sub_iff.2 fun k hk => by rw [← hmask]; exact hd k hk
    simp [hsub] at this
  | .ef i bef t alt, cov, C, e, h, _, hok, hs, j, o, ho, hLj, hd, hc => by
    simp only [okT, Bool.and_eq_true, Bool.not_eq_true'] at hok
    obtain ⟨⟨⟨⟨⟨h1, h2⟩, h3⟩, h4⟩, h5⟩, h6⟩ := hok
    by_cases hji : j = i
    · subst hji
      obtain ⟨⟨o', ho', hef⟩, _⟩ := hs
      obtain rfl : o = o' := Option.some.inj (ho.symm.trans ho')
      exact ⟨bef, t, h3, h4, hef⟩
    · refine chain hmask alt (cov ||| 2 ^ i) C e h ?_ h5 hs.2 j o ho hLj hd ?_
      · cases alt <;> simp [altOk] at h6 ⊢
      · rw [bit_or, hc, bit_two_pow]; simp [Ne.symm hji]
theorem En_full {ops : Array Oper} (e0 : Env) {V V' : Nat → Value} {D D' : Nat → Bool} (hV : ∀ j, D j = true → V' j = V j)
    (h : ∀ j, j < ops.size → D j = true) (h' : ∀ j, j < ops.size → D' j = true) : En ops e0 V' D' = En ops e0 V D := by
  funext s
  unfold En
  cases hw : writer ops s with
  | none => rfl
  | some k =>
    obtain ⟨o, ho, _⟩ := writer_some hw
    have hk := (Array.getElem?_eq_some_iff.1 ho).1
    simp [h k hk, h' k hk, hV k (h k hk)]
def left (m : Nat) (D : Nat → Bool) : Nat := (List.range m).countP fun j => !D j
theorem left_ins {m : Nat} {D : Nat → Bool} {i : Nat} (hi : i < m) (hD : D i = false) : left m (ins D i) < left m D := by
  have key : ∀ l : List Nat, i ∈ l → l.countP (fun j => !ins D i j) < l.countP (fun j => !D j) := by
    intro l
    induction l with
    | nil => intro h; cases h
    | cons x l ih =>
      intro h
      have mono : l.countP (fun j => !ins D i j) ≤ l.countP (fun j => !D j) :=
        List.countP_mono_left fun j _ hj => by simp [ins] at hj ⊢; exact hj.1
      by_cases hx : x = i
      · subst hx
        have e1 : (!ins D x x) = false := by simp [ins]
        have e2 : (!D x) = true := by simp [hD]
        rw [List.countP_cons, List.countP_cons, e1, e2]
        simp only [Bool.false_eq_true, if_false, if_true]
        omega
      · have : i ∈ l := by
          cases h with
          | head => exact absurd rfl hx
          | tail _ h => exact h
        have := ih this
        rw [List.countP_cons, List.countP_cons]
        have e : (!ins D i x) = (!D x) := by simp [ins, hx]
        rw [e]; omega
  exact key _ (List.mem_range.2 hi)
theorem all_of_left {m : Nat} {D : Nat → Bool} (h : left m D = 0) : ∀ j, j < m → D j = true := fun j hj => by
  have := List.countP_eq_zero.1 h j (List.mem_range.2 hj)
  simpa using this
theorem any_sound (hm : MaskOk c.ops bm) (hl : LookOk c.ops bm) (hnd : noDefers c.ops = true) (hkp : keepB c.kp c.ops.toList = true) (hP : PanQ c Q) (hK : ∀ e h dr, K e h → Q .normal (act c.n e c.d) (wd c.r h dr)) :
    ∀ (fuel : Nat) (listed : Array Bool) (L : Nat → Bool) (Lm : Nat) (V : Nat → Value) (t : Tr) (C : Held) (h : Heap) (dr : Nat), listed.size = c.ops.size →
      left c.ops.size (fun j => listed.getD j false) ≤ fuel → Inv c K bm e0 (fun j => listed.getD j false) L Lm V t C h →
      wpAnyIn (FW c.ro) 0 c.P .any c.ops Q fuel listed (act c.n (En c.ops e0 V fun j => listed.getD j false) c.d) (wd c.r h dr) := by
  -- where all is done
  have full : ∀ (listed : Array Bool) (L : Nat → Bool) (Lm : Nat) (V : Nat → Value) (t : Tr) (C : Held) (h : Heap) (dr : Nat),
      (∀ j, j < c.ops.size → listed.getD j false = true) → Inv c K bm e0 (fun j => listed.getD j false) L Lm V t C h →
      Q .normal (act c.n (En c.ops e0 V fun j => listed.getD j false) c.d) (wd c.r h dr) := by
    intro listed L Lm V t C h dr hall I
    obtain ⟨L', Lm', V', t', C', I', hV, ht⟩ := advance hm hl t _ L Lm V C h I
    cases t' with
    | fin =>
      have := I'.s
      rw [← En_full e0 hV hall fun j hj => I'.le j (hall j hj)]
      exact hK _ _ _ this
    | ef i bef t1 alt =>
      have ok := I'.ok
      simp only [okT, Bool.and_eq_true, Bool.not_eq_true'] at ok
      obtain ⟨⟨o, ho, _⟩, _⟩ := I'.s
      have := I'.le i (hall i (Array.getElem?_eq_some_iff.1 ho).1)
      rw [I'.mask, ok.1.1.1.1.1] at this; cases this
    | no => exact ht.elim
    | pu _ _ => exact ht.elim
    | rd _ _ => exact ht.elim
    | rl _ _ => exact ht.elim
  have getT : ∀ (listed : Array Bool) (j : Nat), listed.size = c.ops.size → j < c.ops.size → listed.getD j true = listed.getD j false := fun listed j hs hj => by
    simp [Array.getD_eq_getD_getElem?, hs, hj]
  intro fuel
  induction fuel with
  | zero =>
    intro listed L Lm V t C h dr hsz hf I
    have hall := all_of_left (Nat.le_zero.1 hf)
    refine ⟨?_, full listed L Lm V t C h dr hall I⟩
    cases hr : Region.ready .any c.ops listed with
    | nil => rfl
    | cons x r =>
      have hx : x ∈ Region.ready .any c.ops listed := by rw [hr]; simp
      obtain ⟨h1, o, ho, _⟩ := mem_ready.1 hx
      have hlt := (Array.getElem?_eq_some_iff.1 ho).1
      rw [getT listed x hsz hlt] at h1
      rw [show listed.getD x false = true from hall x hlt] at h1; cases h1
  | succ fuel ih =>
    intro listed L Lm V t C h dr hsz hf I
    refine ⟨fun hr => ?_, fun i hi => ?_⟩
    · refine full listed L Lm V t C h dr (fun j => ?_) I
      induction j using Nat.strongRecOn with
      | _ j ihj =>
        intro hj
        apply Decidable.byContradiction
        intro hn
        have hn' : listed.getD j false = false := by simpa using hn
        have : j ∈ Region.ready .any c.ops listed := mem_ready.2 ⟨by rw [getT listed j hsz hj]; exact hn', c.ops[j], by simp [hj], fun e he hb =>
          have hd : bit (depM c.ops[j]) e.on = true := (depM_bit _ _).2 ⟨e, he, hb, rfl⟩
          have hlt := (hm j c.ops[j] (by simp [hj])).1 _ hd
          ihj _ hlt (by omega)⟩
        rw [hr] at this; cases this
    · obtain ⟨h1, o, ho, hdep⟩ := mem_ready.1 hi
      have hlt := (Array.getElem?_eq_some_iff.1 ho).1
      have hnd' := noDefers_at hnd ho
      rw [getT listed i hsz hlt] at h1
      have hdD : ∀ j, bit (depM o) j = true → listed.getD j false = true := fun j hj => by
        obtain ⟨e, he, hb, rfl⟩ := (depM_bit _ _).1 hj
        exact hdep e he hb
      have hset : (fun j => (listed.setIfInBounds i true).getD j false) = ins (fun j => listed.getD j false) i := by
        funext j
        by_cases hji : j = i
        · subst hji; simp [ins, Array.getD_eq_getD_getElem?, hsz, hlt]
        · rw [getD_set_ne false (Ne.symm hji)]; simp [ins, hji]
      have hsz' : (listed.setIfInBounds i true).size = c.ops.size := by simpa using hsz
      have hleft : left c.ops.size (fun j => (listed.setIfInBounds i true).getD j false) ≤ fuel := by
        rw [hset]
        have := left_ins (m := c.ops.size) (D := fun j => listed.getD j false) hlt h1
        omega
      have hdown : Down c.ops (ins (fun j => listed.getD j false) i) := down_ins I.downD ho hdD
      have hnb : ∀ j, listed.getD j false = true → ∀ oj, c.ops[j]? = some oj → bit (bm.getD j 0) i = false := fun j hj oj hoj => by
        cases hb : bit (bm.getD j 0) i with
        | false => rfl
        | true => have := mask_in hm I.downD j oj hoj (fun k hk => I.downD j oj hoj hj k hk) i hb; have h3 : listed.getD i false = true := this; rw [h1] at h3; cases h3
      obtain ⟨L', Lm', V', t', C', I', hV, ht⟩ := advance hm hl t _ L Lm V C h I
      have hEn : En c.ops e0 V (fun j => listed.getD j false) = En c.ops e0 V' (fun j => listed.getD j false) := En_val e0 fun j hj => (hV j hj).symm
      rw [hEn]
      have hspec : Spec c.ops bm e0 V' i o (En c.ops e0 V' fun j => listed.getD j false) := spec_En hm hl e0 V' I'.downD ho h1 hdD
      by_cases hLi : L' i = true
      · -- it has been told of ahead of its turn
        obtain ⟨o', e, ho', hsp, hy⟩ := I'.still i hLi h1
        obtain rfl : o = o' := Option.some.inj (ho.symm.trans ho')
        have hrd : Rd c o e (V' i) h := by
          rcases hy with hy | ⟨_, hy⟩
          · exact hy.rd h
          · exact hy
        refine step_pu ho hnd' (hrd.agree hnd' (hsp.agree hspec)) ?_
        rw [En_put hl e0 V' _ ho (V' i) h1, ← hset]
        have hpv : put V' i (V' i) = V' := by
          funext j
          by_cases hji : j = i
          · subst hji; simp [put]
          · simp [put, hji]
        rw [hpv]
        refine ih _ L' Lm' V' t' C' h dr hsz' hleft ?_
        rw [hset]
        exact { downD := hdown, downL := I'.downL, le := fun j hj => by
                  by_cases hji : j = i
                  · subst hji; exact hLi
                  · exact I'.le j (by simpa [ins, hji] using hj),
                mask := I'.mask, s := I'.s, ok := I'.ok,
                still := fun j hj hDj => I'.still j hj (by
                  have : (listed.getD j false || decide (j = i)) = false := hDj
                  simp only [Bool.or_eq_false_iff] at this; exact this.1) }
      · -- an operation that changes the heap
        have hLi' : L' i = false := by simpa using hLi
        have hdL : ∀ j, bit (depM o) j = true → L' j = true := fun j hj => I'.le j (hdD j hj)
        have hch := chain (c := c) (bm := bm) (K := K) I'.mask t' 0 C' (En c.ops e0 V' L') h (by cases t' <;> first | exact ht.elim | trivial | (exfalso; have := I'.ok; simp only [okT] at this; have := List.all_eq_true.1 this i (List.mem_range.2 hlt); rw [← I'.mask, hLi'] at this; cases this)) I'.ok I'.s i o ho hLi' hdL (by simp [bit])
        obtain ⟨bef, t1, hbef, hok1, hef⟩ := hch
        have hspecL : Spec c.ops bm e0 V' i o (En c.ops e0 V' L') := spec_En hm hl e0 V' I'.downL ho hLi' hdL
        refine step_ef ho hnd' (hef.agree hnd' (hspecL.agree hspec) ((kv_En hkp _ _ _ _).trans (kv_En hkp _ _ _ _).symm)) hP ?_
        rintro v h' dr' ⟨hchk, hs⟩
        have hii : ∀ j, L' j = true → ∀ oj, c.ops[j]? = some oj → bit (bm.getD j 0) i = false := fun j hj oj hoj => by
          cases hb : bit (bm.getD j 0) i with
          | false => rfl
          | true => have := mask_in hm I'.downL j oj hoj (fun k hk => I'.downL j oj hoj hj k hk) i hb; rw [hLi'] at this; cases this
        rw [En_put hl e0 V' _ ho v h1, ← hset]
        refine ih _ (ins L' i) (Lm' ||| 2 ^ i) (put V' i v) t1 C' h' dr' hsz' hleft ?_
        rw [hset]
        exact { downD := hdown, downL := down_ins I'.downL ho hdL, le := fun j hj => by
                  by_cases hji : j = i
                  · subst hji; exact ins_same _ _
                  · exact ins_of _ _ (I'.le j (by simpa [ins, hji] using hj)),
                mask := fun j => by simp only [ins, bit_or, bit_two_pow, I'.mask]; simp [eq_comm],
                s := by rw [← En_put hl e0 V' L' ho v hLi']; exact hs, ok := hok1,
                still := fun j hj hDj => by
                  have hDj' : (listed.getD j false || decide (j = i)) = false := hDj
                  simp only [Bool.or_eq_false_iff, decide_eq_false_iff_not] at hDj'
                  obtain ⟨hDj1, hji⟩ := hDj'
                  have hLj : L' j = true := by simpa [ins, hji] using hj
                  obtain ⟨oj, e, hoj, hsp, hy⟩ := I'.still j hLj hDj1
                  refine ⟨oj, e, hoj, hsp.put v (hii j hLj oj hoj), ?_⟩
                  rcases hy with hy | ⟨hy1, hy2⟩
                  · exact .inl (by simpa [put, hji] using hy)
                  · refine .inr ⟨by simpa [put, hji] using hy1, ?_⟩
                    rcases hchk.mem hy1 with hb | hb
                    · exfalso
                      have hb' := List.all_eq_true.1 hbef j hb
                      have := mask_in hm I'.downD i o ho hdD j hb'
                      have h3 : listed.getD j false = true := this; rw [hDj1] at h3; cases h3
                    · simpa [put, hji] using hb }
end any
theorem region_any {c : Cx} {t : Tr} {id : Nat} {K : Env → Heap → Prop} {Q : Exit → Act → World → Prop} {e : Env} {h : Heap} {dr : Nat} (bm : List Nat) (hf : c.P.follows .mixedOrders = true)
    (h1 : (okMask c.ops.toList bm 0 c.ops.toList && okLook c.ops bm && okT c.ops bm t 0 0 && noDefers c.ops) = true) (hkp : keepB c.kp c.ops.toList = true) (hP : PanQ c Q) (hK : ∀ e h dr, K e h → Q .normal (act c.n e c.d) (wd c.r h dr)) (hs : S c K t [] e h) :
    (Code.region id c.ops true).wpIn (FW c.ro) 0 c.P Q (act c.n e c.d) (wd c.r h dr) := by
  simp only [Bool.and_eq_true] at h1
  obtain ⟨⟨⟨hmask, hlook⟩, hok⟩, hnd⟩ := h1
  refine wpIn_region_any hf ?_
  have hm := maskOk hmask
  have hl := lookOk hlook
  have hsz : (Array.replicate c.ops.size false).size = c.ops.size := by simp
  have h0 : (fun j => (Array.replicate c.ops.size false).getD j false) = fun _ => false := by
    funext j
    rw [Array.getD_eq_getD_getElem?]
    by_cases hj : j < c.ops.size
    · simp [hj]
    · simp [hj]
  have hE : ∀ V, En c.ops e V (fun j => (Array.replicate c.ops.size false).getD j false) = e := fun V => by
    rw [h0]; funext s; unfold En; cases writer c.ops s <;> simp
  have := any_sound (c := c) (K := K) (Q := Q) (bm := bm) (e0 := e) hm hl hnd hkp hP hK c.ops.size (Array.replicate c.ops.size false) (fun _ => false) 0 (fun _ => undef) t [] h (dr + 1) hsz
    (by have : left c.ops.size (fun j => (Array.replicate c.ops.size false).getD j false) ≤ (List.range c.ops.size).length := List.countP_le_length
        simpa using this)
    (by rw [h0]
        exact { downD := (fun _ _ _ h => by cases h), downL := (fun _ _ _ h => by cases h), le := fun _ h => h, mask := (fun i => by simp [bit]), still := (fun _ h => by cases h),
                s := by rw [show En c.ops e (fun _ => undef) (fun _ => false) = e from by funext s; unfold En; cases writer c.ops s <;> simp]; exact hs, ok := hok })
  rw [hE] at this
  exact this
end Go.Tw
namespace Go.Tw
open Go Go.RowKit
abbrev Post := Env → Heap → Prop
/-- .. and the calls that are put off: marks of ranges over functions -/
abbrev DPost := List Deferred → Post
def mkQ (n : Nat) (r : World) (kp : Option Nat) (Pn : List Deferred → Value → Value → Heap → Prop) (N : DPost) (X : Nat → DPost) (R : DPost) : Exit → Act → World → Prop
 | .normal, a, w => ∃ d e h dr, a = act n e d ∧ w = wd r h dr ∧ N d e h
 | .exit i, a, w => ∃ d e h dr, a = act n e d ∧ w = wd r h dr ∧ X i d e h
 | .ret, a, w => ∃ d e h dr, a = act n e d ∧ w = wd r h dr ∧ R d e h
 | .panic ch, a, w => ∃ d e h dr v, a = act n e d ∧ w = wd r h dr ∧ ch = [{ v, recovered := false }] ∧ Pn d (kv kp n e) v h
 | _, _, _ => False
/-- where a piece of code is walked -/
structure Pl where
 P : Program
 r : World
 ro : Option Nat
 n : Nat
 kp : Option Nat
 /-- what is to hold where a panic leaves -/
 pan : List Deferred → Value → Value → Heap → Prop
/-- no panic -/
def noPan : List Deferred → Value → Value → Heap → Prop := fun _ _ _ _ => False
def Pl.cx (p : Pl) (d : List Deferred) (ops : Array Oper) : Cx := ⟨p.P, p.r, p.ro, p.n, d, ops, p.kp, p.pan d⟩
theorem Pl.panQ (p : Pl) (d : List Deferred) (ops : Array Oper) (N : DPost) (X : Nat → DPost) (R : DPost) : PanQ (p.cx d ops) (mkQ p.n p.r p.kp p.pan N X R) := fun e h dr v hp => ⟨d, e, h, dr, v, rfl, rfl, rfl, hp⟩
def W (p : Pl) (d : List Deferred) (c : Code) (N : DPost) (X : Nat → DPost) (R : DPost) (e : Env) (h : Heap) : Prop :=
 ∀ dr, c.wpIn (FW p.ro) 0 p.P (mkQ p.n p.r p.kp p.pan N X R) (act p.n e d) (wd p.r h dr)
/-- within a loop, at a round's head -/
def WL (p : Pl) (d : List Deferred) (c : Code) (N : DPost) (X : Nat → DPost) (R : DPost) (e : Env) (h : Heap) : Prop :=
 ∀ dr, ∀ (b : Frame) (k : List Item) (cs : List Frame), b.roundOf = (FW p.ro).round → (FW p.ro).fn b.fn → (FW p.ro).room (cs.length + 1 + 0) →
  ∃ x a' w', mkQ p.n p.r p.kp p.pan N X R x a' w' ∧ ArrivesIn (Machine.fenced p.P (FW p.ro)) p.P (lone (b.atR (act p.n e d) (.code c :: .inLoop c :: k)) cs (wd p.r h dr)) b k cs x a' w'
section control
variable {p : Pl} {d : List Deferred} {N : DPost} {X : Nat → DPost} {R : DPost} {e : Env} {h : Heap}
theorem mkQ_mono {n : Nat} {r : World} {kp : Option Nat} {Pn : List Deferred → Value → Value → Heap → Prop} {N' : DPost} {X' : Nat → DPost} {R' : DPost} (hN : ∀ d e h, N d e h → N' d e h) (hX : ∀ i d e h, X i d e h → X' i d e h) (hR : ∀ d e h, R d e h → R' d e h) :
  ∀ x a w, mkQ n r kp Pn N X R x a w → mkQ n r kp Pn N' X' R' x a w := fun x a w hq => by
 cases x with
 | normal => obtain ⟨d, e, h, dr, ha, hw, hn⟩ := hq; exact ⟨d, e, h, dr, ha, hw, hN _ _ _ hn⟩
 | exit i => obtain ⟨d, e, h, dr, ha, hw, hn⟩ := hq; exact ⟨d, e, h, dr, ha, hw, hX _ _ _ _ hn⟩
 | ret => obtain ⟨d, e, h, dr, ha, hw, hn⟩ := hq; exact ⟨d, e, h, dr, ha, hw, hR _ _ _ hn⟩
 | _ => exact hq
theorem W.mono {c : Code} {N' : DPost} {X' : Nat → DPost} {R' : DPost} (hw : W p d c N X R e h) (hN : ∀ d e h, N d e h → N' d e h) (hX : ∀ i d e h, X i d e h → X' i d e h) (hR : ∀ d e h, R d e h → R' d e h) : W p d c N' X' R' e h := fun dr =>
 wpIn_mono (hw dr) (mkQ_mono hN hX hR)
theorem W_skip (h1 : N d e h) : W p d .skip N X R e h := fun _ => wpIn_skip ⟨_, _, _, _, rfl, rfl, h1⟩
theorem W_ret (h1 : R d e h) : W p d .ret N X R e h := fun _ => wpIn_ret ⟨_, _, _, _, rfl, rfl, h1⟩
theorem W_exit {i : Nat} (h1 : X i d e h) : W p d (.exit i) N X R e h := fun _ => wpIn_exit ⟨_, _, _, _, rfl, rfl, h1⟩
theorem W_seq {x y : Code} (h1 : W p d x (fun d e h => W p d y N X R e h) X R e h) : W p d (.seq x y) N X R e h := fun dr =>
 wpIn_seq (wpIn_mono (h1 dr) fun q a w hq => by
  cases q with
  | normal => obtain ⟨d, e, h, dr, rfl, rfl, hn⟩ := hq; exact hn dr
  | exit i => exact hq
  | ret => exact hq
  | _ => exact hq)
theorem W_if {c : Operand} {x y : Code} (t : Bool) (hc : ev p.n e c = .bool t) (h1 : t = true → W p d x N X R e h) (h2 : t = false → W p d y N X R e h) : W p d (.cond c x y) N X R e h := fun dr =>
 wpIn_cond_split (t := t) (by rw [act_eval]; exact hc) (fun ht => h1 ht dr) (fun ht => h2 ht dr)
def inX (id : Nat) (N : DPost) (X : Nat → DPost) : Nat → DPost := fun i => bif Nat.beq i id then N else X i
theorem W_block {id : Nat} {c : Code} (h1 : W p d c N (inX id N X) R e h) : W p d (.block id c) N X R e h := fun dr =>
 wpIn_block (wpIn_mono (h1 dr) fun q a w hq => by
  cases q with
  | normal => exact hq
  | exit i =>
   obtain ⟨d, e, h, dr, ha, hw, hn⟩ := hq
   simp only [Exit.inBlock]
   by_cases hi : i = id
   ·subst hi
    have : Nat.beq i i = true := Nat.beq_refl i
    simp only [inX, this, cond_true] at hn
    simp only [if_true]; exact ⟨d, e, h, dr, ha, hw, hn⟩
   ·have : Nat.beq i id = false := by
     cases hb : Nat.beq i id with
     | false => rfl
     | true => exact absurd (Nat.eq_of_beq_eq_true hb) hi
    simp only [inX, this, cond_false] at hn
    simp only [hi, if_false]; exact ⟨d, e, h, dr, ha, hw, hn⟩
  | ret => exact hq
  | _ => exact hq)
/-- a round of a loop -/
theorem WL_round {c : Code} (h1 : W p d c (fun d e h => WL p d c N X R e h) X R e h) : WL p d c N X R e h := by
 intro dr b k cs hro hb hr
 obtain ⟨x, a₁, w₁, hq, harr⟩ := h1 dr b (.inLoop c :: k) cs hro hb hr
 cases x with
 | normal =>
  obtain ⟨d, e, h, dr, rfl, rfl, hn⟩ := hq
  obtain ⟨x₂, a₂, w₂, hq₂, harr₂⟩ := hn dr b k cs hro hb hr
  exact ⟨x₂, a₂, w₂, hq₂, .of_steps (StepsIn.trans harr (.one (fenced_calm hb hr rfl) stepR_inLoop)) harr₂⟩
 | exit id => exact ⟨.exit id, a₁, w₁, hq, .pass (x := .inLoop c) rfl (fun _ _ => .inl (by simp)) harr⟩
 | goto l => exact ⟨.goto l, a₁, w₁, hq, .pass (x := .inLoop c) rfl (fun _ _ => .inl (by simp)) harr⟩
 | ret => exact ⟨.ret, a₁, w₁, hq, .pass (x := .inLoop c) rfl (fun _ _ => .inl (by simp)) harr⟩
 | panic ch => exact ⟨.panic ch, a₁, w₁, hq, .pass (x := .inLoop c) rfl (fun _ _ => .inl (by simp)) harr⟩
 | outgrown => exact ⟨.outgrown, a₁, w₁, hq, .pass (x := .inLoop c) rfl (fun _ _ => .inl (by simp)) harr⟩
theorem W_loop {c : Code} (h1 : WL p d c N X R e h) : W p d (.loop c) N X R e h := by
 intro dr b k cs hro hb hr
 obtain ⟨x, a', w', hq, harr⟩ := h1 dr b k cs hro hb hr
 exact ⟨x, a', w', hq, .of_steps (.one (fenced_calm hb hr rfl) stepR_loop) harr⟩
theorem W_region {id : Nat} {ops : Array Oper} (t : Tr) (hl : lin t = some (List.range ops.size)) (hd : noDefers ops = true) (hs : S (p.cx d ops) (N d) t [] e h) : W p d (.region id ops false) N X R e h := fun _ =>
 region_lin (c := p.cx d ops) hl hd (p.panQ d ops _ _ _) (fun e h dr hk => ⟨d, e, h, dr, rfl, rfl, hk⟩) hs
theorem W_draw {id : Nat} {ops : Array Oper} (bm : List Nat) (t : Tr) (hf : p.P.follows .mixedOrders = true) (h1 : (okMask ops.toList bm 0 ops.toList && okLook ops bm && okT ops bm t 0 0 && noDefers ops) = true)
  (hs : S (p.cx d ops) (N d) t [] e h) (hkp : keepB p.kp ops.toList = true := by rfl) : W p d (.region id ops true) N X R e h := fun _ =>
 region_any (c := p.cx d ops) bm hf h1 hkp (p.panQ d ops _ _ _) (fun e h dr hk => ⟨d, e, h, dr, rfl, rfl, hk⟩) hs
end control
/-! ### Environments that are known at some slots -/
def mkE : List (Nat × Value) → Env → Env
 | [], b => b
 | (t, v) :: l, b => upd (mkE l b) t v
def At (e : Env) : List (Nat × Value) → Prop
 | [] => True
 | (t, v) :: l => e t = v ∧ At e l
theorem upd_self {e : Env} {t : Nat} {v : Value} (h : e t = v) : upd e t v = e := by
 funext s
 by_cases hs : s = t
 ·subst hs; rw [upd_same, h]
 ·rw [upd_ne _ _ hs]
theorem mkE_self {e : Env} {l : List (Nat × Value)} (h : At e l) : mkE l e = e := by
 induction l with
 | nil => rfl
 | cons x l ih =>
  obtain ⟨t, v⟩ := x
  obtain ⟨h1, h2⟩ := h
  rw [mkE, ih h2, upd_self h1]
/-- what holds of every environment that has these values holds of this one -/
theorem of_mk {Q : Env → Prop} {l : List (Nat × Value)} (hq : ∀ b, Q (mkE l b)) {e : Env} (h : At e l) : Q e := by
 have := hq e
 rwa [mkE_self h] at this
/-! ### A function -/
/-- a call, told by heaps: whatever has been drawn -/
def CallsH (P : Program) (r : World) (f : FuncId) (args : List Value) (h : Heap) (R : Value → Heap → Prop) : Prop :=
 ∀ dr, Calls P f args.toArray (wd r h dr) fun x w => ∃ v h' dr', x = .returned v ∧ w = wd r h' dr' ∧ R v h'
theorem CallsH.mono {P : Program} {r : World} {f : FuncId} {args : List Value} {h : Heap} {R R' : Value → Heap → Prop} (hc : CallsH P r f args h R) (hr : ∀ v h, R v h → R' v h) : CallsH P r f args h R' := fun dr =>
 (hc dr).mono fun _ _ ⟨v, h', dr', hx, hw, hR⟩ => ⟨v, h', dr', hx, hw, hr _ _ hR⟩
/-- what a function hands back -/
def Res (P : Program) (r : World) (n : Nat) (e : Env) (h : Heap) : List ResultVar → List Value → Prop
 | [], vs => vs = []
 | .tmp t :: l, vs => ∃ v vs', vs = v :: vs' ∧ ev n e (.tmp t) = v ∧ Res P r n e h l vs'
 | .cell a t :: l, vs => ∃ v vs' p, vs = v :: vs' ∧ ev n e (.tmp a) = .pointer (some p) ∧ (∀ dr, (loadVar t p).run P (wd r h dr) = .ok v (wd r h dr)) ∧ Res P r n e h l vs'
def tup : List Value → Value
 | [v] => v
 | l => .tuple l.toArray
theorem getD_act (n : Nat) (e : Env) (d : List Deferred) (t : Nat) : (act n e d).tmps.getD t undef = ev n e (.tmp t) := by
 have := congrFun (act_eval n e d) (.tmp t)
 simpa [Act.eval] using this
/-- one result -/
def resF (tmps : Array Value) : ResultVar → Sem Value
 | .tmp t => pure (tmps.getD t undef)
 | .cell a t => do loadVar t (← asAddr (tmps.getD a undef))
theorem run_res1 {P : Program} {r : World} {n : Nat} {e : Env} {d : List Deferred} {h : Heap} {x : ResultVar} {v : Value} (hr : Res P r n e h [x] [v]) (dr : Nat) :
  (resF (act n e d).tmps x).run P (wd r h dr) = .ok v (wd r h dr) := by
 cases x with
 | tmp t =>
  obtain ⟨v', vs', hv, he, _⟩ := hr
  obtain ⟨rfl, _⟩ := List.cons.inj hv
  simp only [resF, getD_act, he]
  rfl
 | cell a t =>
  obtain ⟨v', vs', p, hv, he, hl, _⟩ := hr
  obtain ⟨rfl, _⟩ := List.cons.inj hv
  simp only [resF, getD_act, he]
  exact hl dr
theorem results_eq (fn : Func) (tmps : Array Value) : results fn tmps = (do let vs ← fn.results.mapM (resF tmps); pure (if h : vs.size = 1 then vs[0] else .tuple vs)) := rfl
theorem run_results {P : Program} {r : World} {fn : Func} {n : Nat} {e : Env} {d : List Deferred} {h : Heap} {l : List ResultVar} {vs : List Value} (hl : fn.results = l.toArray) (h4 : l.length ≤ 4) (hr : Res P r n e h l vs) (dr : Nat) :
  (results fn (act n e d).tmps).run P (wd r h dr) = .ok (tup vs) (wd r h dr) := by
 have split : ∀ (x : ResultVar) (l : List ResultVar) (vs : List Value), Res P r n e h (x :: l) vs → ∃ v vs', vs = v :: vs' ∧ Res P r n e h [x] [v] ∧ Res P r n e h l vs' := by
  intro x l vs hr
  cases x with
  | tmp t => obtain ⟨v, vs', rfl, hv, hr⟩ := hr; exact ⟨v, vs', rfl, ⟨v, [], rfl, hv, rfl⟩, hr⟩
  | cell a t => obtain ⟨v, vs', p, rfl, hp, hl, hr⟩ := hr; exact ⟨v, vs', rfl, ⟨v, [], p, rfl, hp, hl, rfl⟩, hr⟩
 rw [results_eq, hl]
 generalize hf : resF (act n e d).tmps = f
 have one : ∀ x v, Res P r n e h [x] [v] → (f x).run P (wd r h dr) = .ok v (wd r h dr) := fun x v hx => by rw [← hf]; exact run_res1 hx dr
 match l, h4, hr with
 | [], _, hr => obtain rfl : vs = [] := hr; simp [go_sem, tup]
 | [a], _, hr =>
  obtain ⟨v, vs', rfl, h1, hr⟩ := split _ _ _ hr
  obtain rfl : vs' = [] := hr
  have e1 := one _ _ h1
  simp [go_sem, e1, tup]
 | [a, b], _, hr =>
  obtain ⟨v, vs', rfl, h1, hr⟩ := split _ _ _ hr
  obtain ⟨u, vs', rfl, h2, hr⟩ := split _ _ _ hr
  obtain rfl : vs' = [] := hr
  have e1 := one _ _ h1
  have e2 := one _ _ h2
  simp [go_sem, e1, e2, tup]
 | [a, b, c], _, hr =>
  obtain ⟨v, vs', rfl, h1, hr⟩ := split _ _ _ hr
  obtain ⟨u, vs', rfl, h2, hr⟩ := split _ _ _ hr
  obtain ⟨u3, vs', rfl, h3, hr⟩ := split _ _ _ hr
  obtain rfl : vs' = [] := hr
  have e1 := one _ _ h1
  have e2 := one _ _ h2
  have e3 := one _ _ h3
  simp [go_sem, e1, e2, e3, tup]
 | [a, b, c, x], _, hr =>
  obtain ⟨v, vs', rfl, h1, hr⟩ := split _ _ _ hr
  obtain ⟨u, vs', rfl, h2, hr⟩ := split _ _ _ hr
  obtain ⟨u3, vs', rfl, h3, hr⟩ := split _ _ _ hr
  obtain ⟨u4, vs', rfl, h4, hr⟩ := split _ _ _ hr
  obtain rfl : vs' = [] := hr
  have e1 := one _ _ h1
  have e2 := one _ _ h2
  have e3 := one _ _ h3
  have e4 := one _ _ h4
  simp [go_sem, e1, e2, e3, e4, tup]
 | _ :: _ :: _ :: _ :: _ :: _, h, _ => simp at h
def hput (h : Heap) (b : Nat) (o : Obj) : Heap := h.setIfInBounds b o
/-- a function, out of its body: the marks are taken off, then the results are read -/
def Ret (p : Pl) (l : List ResultVar) (R : Value → Heap → Prop) : DPost
 | [], e, h => ∃ vs, Res p.P p.r p.n e h l vs ∧ R (tup vs) h
 | d :: ds, e, h => ∃ D, d = ⟨.collected D, #[]⟩ ∧ h[D]? = some (.deferred (some [])) ∧ Ret p l R ds e (hput h D (.deferred none))
theorem ret_leaves {P : Program} {r : World} {kp : Option Nat} {pan : List Deferred → Value → Value → Heap → Prop} {E : Ending → World → Prop} {fn : Func} {n : Nat} {l : List ResultVar} {R : Value → Heap → Prop} {e : Env} {d0 : List Deferred} (hl : fn.results = l.toArray) (h4 : l.length ≤ 4) (hE : ∀ v h dr, R v h → E (.returned v) (wd r h dr)) : ∀ (d : List Deferred) (h : Heap) (dr : Nat), Ret ⟨P, r, .none, n, kp, pan⟩ l R d e h →
  LeavesInM (FW .none) 0 P fn (act n e d0).tmps E d .returning (wd r h dr)
 | [], h, dr, ⟨vs, hr, hR⟩ => ⟨tup vs, run_results hl h4 hr dr, hE _ _ _ hR⟩
 | d :: ds, h, dr, ⟨D, hd, hD, hrest⟩ => by
  subst hd
  refine ⟨by simp, .inl ⟨D, _, rfl, ?_, ret_leaves hl h4 hE ds _ dr hrest⟩⟩
  exact run_takeDeferred (w := wd r h dr) hD
/-- a call that may end in a panic -/
def CallsHP (P : Program) (r : World) (f : FuncId) (args : List Value) (h : Heap) (R Pn : Value → Heap → Prop) : Prop :=
 ∀ dr, Calls P f args.toArray (wd r h dr) fun
  | .returned v, w => ∃ h' dr', w = wd r h' dr' ∧ R v h'
  | .panicked ch, w => ∃ v h' dr', ch = [{ v, recovered := false }] ∧ w = wd r h' dr' ∧ Pn v h'
  | _, _ => False
theorem CallsHP.mono {P : Program} {r : World} {f : FuncId} {args : List Value} {h : Heap} {R R' Pn Pn' : Value → Heap → Prop} (hc : CallsHP P r f args h R Pn) (hr : ∀ v h, R v h → R' v h) (hp : ∀ v h, Pn v h → Pn' v h) : CallsHP P r f args h R' Pn' := fun dr =>
 (hc dr).mono fun x w hx => by
  cases x with
  | returned v => obtain ⟨h', dr', hw, hR⟩ := hx; exact ⟨h', dr', hw, hr _ _ hR⟩
  | panicked ch => obtain ⟨v, h', dr', hc, hw, hR⟩ := hx; exact ⟨v, h', dr', hc, hw, hp _ _ hR⟩
  | outgrown => exact hx.elim
/-- whatever is put off: the way out is asked for -/
theorem calls_by {P : Program} {r : World} {f : FuncId} {fn : Func} {c : Code} {args : List Value} {h : Heap} {kp : Option Nat} {pan : List Deferred → Value → Value → Heap → Prop} {N R : DPost} {E : Ending → World → Prop} (n : Nat)
  (hf : P.funcs[f]? = some fn) (hb : fn.body = some c) (hn : fn.ntmps = n) (ha : Nat.ble args.length n = true)
  (hN : ∀ d e h dr, N d e h → LeavesInM (FW .none) 0 P fn (act n e d).tmps E d .returning (wd r h dr))
  (hR : ∀ d e h dr, R d e h → LeavesInM (FW .none) 0 P fn (act n e d).tmps E d .returning (wd r h dr))
  (hP : ∀ d e h dr v, pan d (kv kp n e) v h → LeavesInM (FW .none) 0 P fn (act n e d).tmps E d (.panicking [{ v, recovered := false }]) (wd r h dr))
  (hw : W ⟨P, r, .none, n, kp, pan⟩ [] c N (fun _ _ _ _ => False) R (ini args) h) (dr : Nat) : Calls P f args.toArray (wd r h dr) E := by
 subst hn
 refine of_callsFW (ro := .none) (n := 0) (callsIn_of_wp_marks hf hb trivial ?_)
 rw [act_ini _ _ (Nat.le_of_ble_eq_true ha)]
 refine wpIn_mono (hw dr) fun x a w hq => ?_
 cases x with
 | normal => obtain ⟨d, e, h, dr, rfl, rfl, hr⟩ := hq; exact hN d e h dr hr
 | ret => obtain ⟨d, e, h, dr, rfl, rfl, hr⟩ := hq; exact hR d e h dr hr
 | exit i => obtain ⟨d, e, h, dr, _, _, hf⟩ := hq; exact hf.elim
 | panic ch => obtain ⟨d, e, h, dr, v, rfl, rfl, rfl, hp⟩ := hq; exact hP d e h dr v hp
 | _ => exact hq.elim
theorem calls_of {P : Program} {r : World} {f : FuncId} {fn : Func} {c : Code} {args : List Value} {h : Heap} {R : Value → Heap → Prop} (n : Nat) (l : List ResultVar)
  (hf : P.funcs[f]? = some fn) (hb : fn.body = some c) (hn : fn.ntmps = n) (hl : fn.results = l.toArray) (h4 : Nat.ble l.length 4 = true) (ha : Nat.ble args.length n = true)
  (hw : W ⟨P, r, .none, n, none, noPan⟩ [] c (Ret ⟨P, r, .none, n, none, noPan⟩ l R) (fun _ _ _ _ => False) (Ret ⟨P, r, .none, n, none, noPan⟩ l R) (ini args) h) : CallsH P r f args h R :=
 calls_by n hf hb hn ha (fun d e h dr hr => ret_leaves hl (Nat.le_of_ble_eq_true h4) (fun v h dr hR => ⟨v, h, dr, rfl, rfl, hR⟩) d h dr hr)
  (fun d e h dr hr => ret_leaves hl (Nat.le_of_ble_eq_true h4) (fun v h dr hR => ⟨v, h, dr, rfl, rfl, hR⟩) d h dr hr) (fun d e h dr v hp => hp.elim) hw
/-- a panic leaves a function that has put nothing off -/
def bare (Pn : Value → Heap → Prop) : List Deferred → Value → Value → Heap → Prop := fun d _ v h => d = [] ∧ Pn v h
theorem calls_ofP {P : Program} {r : World} {f : FuncId} {fn : Func} {c : Code} {args : List Value} {h : Heap} {R Pn : Value → Heap → Prop} (n : Nat) (l : List ResultVar)
  (hf : P.funcs[f]? = some fn) (hb : fn.body = some c) (hn : fn.ntmps = n) (hl : fn.results = l.toArray) (h4 : Nat.ble l.length 4 = true) (ha : Nat.ble args.length n = true)
  (hw : W ⟨P, r, .none, n, none, bare Pn⟩ [] c (Ret ⟨P, r, .none, n, none, bare Pn⟩ l R) (fun _ _ _ _ => False) (Ret ⟨P, r, .none, n, none, bare Pn⟩ l R) (ini args) h) : CallsHP P r f args h R Pn :=
 calls_by n hf hb hn ha (fun d e h dr hr => ret_leaves hl (Nat.le_of_ble_eq_true h4) (fun v h dr hR => ⟨h, dr, rfl, hR⟩) d h dr hr)
  (fun d e h dr hr => ret_leaves hl (Nat.le_of_ble_eq_true h4) (fun v h dr hR => ⟨h, dr, rfl, hR⟩) d h dr hr) (fun d e h dr v ⟨hd, hp⟩ => by subst hd; exact ⟨v, h, dr, rfl, rfl, hp⟩) hw
section small
variable {p : Pl} {d : List Deferred} {N : DPost} {X : Nat → DPost} {R : DPost} {e : Env} {h : Heap} {c : Code} {l : List (Nat × Value)}
theorem W_set (hw : ∀ N', N' = N → W p d c N' X R e h) : W p d c N X R e h := hw N rfl
theorem W_mk (hq : ∀ b, W p d c N X R (mkE l b) h) (ha : At e l) : W p d c N X R e h := of_mk (Q := fun e => W p d c N X R e h) hq ha
theorem WL_mk (hq : ∀ b, WL p d c N X R (mkE l b) h) (ha : At e l) : WL p d c N X R e h := of_mk (Q := fun e => WL p d c N X R e h) hq ha
theorem N_mk (hq : ∀ b, N d (mkE l b) h) (ha : At e l) : N d e h := of_mk (Q := fun e => N d e h) hq ha
theorem S_mk {c : Cx} {K : Post} {t : Tr} {C : Held} (hq : ∀ b, S c K t C (mkE l b) h) (ha : At e l) : S c K t C e h := of_mk (Q := fun e => S c K t C e h) hq ha
theorem inX_here {id : Nat} (h1 : N d e h) : inX id N X id d e h := by
 have : Nat.beq id id = true := Nat.beq_refl id
 simpa only [inX, this, cond_true] using h1
theorem s_fin {c : Cx} {K : Post} {C : Held} (h1 : K e h) : S c K .fin C e h := h1
end small
end Go.Tw
namespace Go.Tw
open Go Go.RowKit
section pure
variable {P : Program} {ρ : Operand → Value} {dst : Option Tmp} {ty : TypeId} {pos : String} {af : Array Edge} {gd : Option (Nat × Bool)}
theorem r_move {x : Operand} {v : Value} (hx : ρ x = v) (w : World) : (execOp ρ ⟨dst, .move x, ty, pos, af, gd⟩).run P w = .ok (.value v) w := by
 subst hx; simp [execOp, go_sem]
theorem r_assign {x : Operand} {v : Value} (hx : ρ x = v) (w : World) : (execOp ρ ⟨dst, .assign x, ty, pos, af, gd⟩).run P w = .ok (.value v) w := by
 subst hx; simp [execOp, go_sem]
theorem r_pick1 {c a b : Operand} {v : Value} {t : Bool} (hc : ρ c = .bool t) (ht : t = true) (hx : ρ a = v) (w : World) : (execOp ρ ⟨dst, .pick c a b, ty, pos, af, gd⟩).run P w = .ok (.value v) w := by
 subst hx ht; simp [execOp, go_sem, asBool, hc]
theorem r_pick0 {c a b : Operand} {v : Value} {t : Bool} (hc : ρ c = .bool t) (ht : t = false) (hx : ρ b = v) (w : World) : (execOp ρ ⟨dst, .pick c a b, ty, pos, af, gd⟩).run P w = .ok (.value v) w := by
 subst hx ht; simp [execOp, go_sem, asBool, hc]
theorem r_extract {x : Operand} {i : Nat} {vs : Array Value} {v : Value} (hx : ρ x = .tuple vs) (hv : vs[i]? = some v) (w : World) : (execOp ρ ⟨dst, .extract x i, ty, pos, af, gd⟩).run P w = .ok (.value v) w := by
 simp [execOp, go_sem, Instr.extract, hx, hv]
theorem r_arith {op : BinOp} {x y : Operand} {xt yt : TypeId} {k : IntKind} {a b r : Int} (hx : ρ x = .int k a) (hy : ρ y = .int k b)
  (hr : (op = .add ∧ r = k.wrap (a + b)) ∨ (op = .sub ∧ r = k.wrap (a - b)) ∨ (op = .mul ∧ r = k.wrap (a * b))) (w : World) :
  (execOp ρ ⟨dst, .binOp op xt x y yt, ty, pos, af, gd⟩).run P w = .ok (.value (.int k r)) w := by
 rcases hr with ⟨rfl, rfl⟩ | ⟨rfl, rfl⟩ | ⟨rfl, rfl⟩ <;> simp [execOp, go_sem, hx, hy, eqGuard, binOp, Op.intArith]
theorem r_add {x y : Operand} {xt yt : TypeId} {k : IntKind} {a b : Int} (hx : ρ x = .int k a) (hy : ρ y = .int k b) (w : World) :
  (execOp ρ ⟨dst, .binOp .add xt x y yt, ty, pos, af, gd⟩).run P w = .ok (.value (.int k (k.wrap (a + b)))) w := r_arith hx hy (.inl ⟨rfl, rfl⟩) w
theorem r_sub {x y : Operand} {xt yt : TypeId} {k : IntKind} {a b : Int} (hx : ρ x = .int k a) (hy : ρ y = .int k b) (w : World) :
  (execOp ρ ⟨dst, .binOp .sub xt x y yt, ty, pos, af, gd⟩).run P w = .ok (.value (.int k (k.wrap (a - b)))) w := r_arith hx hy (.inr (.inl ⟨rfl, rfl⟩)) w
theorem r_mul {x y : Operand} {xt yt : TypeId} {k : IntKind} {a b : Int} (hx : ρ x = .int k a) (hy : ρ y = .int k b) (w : World) :
  (execOp ρ ⟨dst, .binOp .mul xt x y yt, ty, pos, af, gd⟩).run P w = .ok (.value (.int k (k.wrap (a * b)))) w := r_arith hx hy (.inr (.inr ⟨rfl, rfl⟩)) w
theorem r_quo {x y : Operand} {xt yt : TypeId} {k : IntKind} {a b : Int} (hx : ρ x = .int k a) (hy : ρ y = .int k b) (hb : b ≠ 0) (w : World) :
  (execOp ρ ⟨dst, .binOp .quo xt x y yt, ty, pos, af, gd⟩).run P w = .ok (.value (.int k (k.wrap (a.tdiv b)))) w := by
 simp [execOp, go_sem, hx, hy, eqGuard, binOp, Op.intDiv, hb]
theorem r_rem {x y : Operand} {xt yt : TypeId} {k : IntKind} {a b : Int} (hx : ρ x = .int k a) (hy : ρ y = .int k b) (hb : b ≠ 0) (w : World) :
  (execOp ρ ⟨dst, .binOp .rem xt x y yt, ty, pos, af, gd⟩).run P w = .ok (.value (.int k (a.tmod b))) w := by
 simp [execOp, go_sem, hx, hy, eqGuard, binOp, Op.intDiv, hb]
/-- & | ^ on numbers of a kind -/
def bAnd (k : IntKind) (a b : Int) : Int := k.wrap (BitVec.ofInt k.bits a &&& BitVec.ofInt k.bits b).toNat
def bOr (k : IntKind) (a b : Int) : Int := k.wrap (BitVec.ofInt k.bits a ||| BitVec.ofInt k.bits b).toNat
def bXor (k : IntKind) (a b : Int) : Int := k.wrap (BitVec.ofInt k.bits a ^^^ BitVec.ofInt k.bits b).toNat
theorem r_and {x y : Operand} {xt yt : TypeId} {k : IntKind} {a b : Int} (hx : ρ x = .int k a) (hy : ρ y = .int k b) (w : World) :
  (execOp ρ ⟨dst, .binOp .and xt x y yt, ty, pos, af, gd⟩).run P w = .ok (.value (.int k (bAnd k a b))) w := by
 simp [execOp, go_sem, hx, hy, eqGuard, binOp, Op.intBits, bAnd]
def sShl (k : IntKind) (a b : Int) : Int := k.wrap (a * 2 ^ (min b.toNat k.bits))
def sShr (k : IntKind) (a b : Int) : Int := a.fdiv (2 ^ (min b.toNat k.bits))
theorem r_shr {x y : Operand} {xt yt : TypeId} {k ky : IntKind} {a b : Int} (hx : ρ x = .int k a) (hy : ρ y = .int ky b) (hb : 0 ≤ b) (w : World) :
  (execOp ρ ⟨dst, .binOp .shr xt x y yt, ty, pos, af, gd⟩).run P w = .ok (.value (.int k (sShr k a b))) w := by
 have : ¬ b < 0 := by omega
 simp [execOp, go_sem, hx, hy, eqGuard, binOp, Op.shift, sShr, this]
theorem int_beq (a b : Int) : (a == b) = decide (a = b) := by
 by_cases h : a = b <;> simp [h]
theorem e_bool' {t : TypeId} {a b : Bool} (d : Nat) (ht : P.underlying t = some .bool) (w : World) : (Op.equalIn (d + 1) t (.bool a) (.bool b)).run P w = .ok (a == b) w := by
 simp [Op.equalIn, run_underlying ht]
theorem e_nilP' {t el : TypeId} {a : Option Addr} (d : Nat) (ht : P.underlying t = some (.pointer el)) (w : World) : (Op.equalIn (d + 1) t (.pointer a) (.pointer none)).run P w = .ok a.isNone w := by
 cases a <;> simp [Op.equalIn, run_underlying ht]
theorem e_nilS' {t el : TypeId} {a : Option Addr} {l c : Nat} (d : Nat) (ht : P.underlying t = some (.slice el)) (w : World) : (Op.equalIn (d + 1) t (.slice a l c) (.slice none 0 0)).run P w = .ok a.isNone w := by
 cases a <;> simp [Op.equalIn, run_underlying ht]
theorem e_nilI0' {t : TypeId} {ms : Array (String × TypeId)} (d : Nat) (ht : P.underlying t = some (.interface ms)) (w : World) : (Op.equalIn (d + 1) t .nilIface .nilIface).run P w = .ok true w := by
 simp [Op.equalIn, run_underlying ht]
theorem e_nilI1' {t u : TypeId} {v : Value} {ms : Array (String × TypeId)} (d : Nat) (ht : P.underlying t = some (.interface ms)) (w : World) : (Op.equalIn (d + 1) t (.iface u v) .nilIface).run P w = .ok false w := by
 simp [Op.equalIn, run_underlying ht]
theorem e_bool {t : TypeId} {a b : Bool} (ht : P.underlying t = some .bool) (w : World) : (Op.equalIn Op.maxDepth t (.bool a) (.bool b)).run P w = .ok (a == b) w := e_bool' 9999 ht w
theorem e_nilP {t el : TypeId} {a : Option Addr} (ht : P.underlying t = some (.pointer el)) (w : World) : (Op.equalIn Op.maxDepth t (.pointer a) (.pointer none)).run P w = .ok a.isNone w := e_nilP' 9999 ht w
theorem e_nilS {t el : TypeId} {a : Option Addr} {l c : Nat} (ht : P.underlying t = some (.slice el)) (w : World) : (Op.equalIn Op.maxDepth t (.slice a l c) (.slice none 0 0)).run P w = .ok a.isNone w := e_nilS' 9999 ht w
theorem e_nilI0 {t : TypeId} {ms : Array (String × TypeId)} (ht : P.underlying t = some (.interface ms)) (w : World) : (Op.equalIn Op.maxDepth t .nilIface .nilIface).run P w = .ok true w := e_nilI0' 9999 ht w
theorem e_nilI1 {t u : TypeId} {v : Value} {ms : Array (String × TypeId)} (ht : P.underlying t = some (.interface ms)) (w : World) : (Op.equalIn Op.maxDepth t (.iface u v) .nilIface).run P w = .ok false w := e_nilI1' 9999 ht w
theorem r_lss {x y : Operand} {xt yt : TypeId} {k : IntKind} {a b : Int} (hx : ρ x = .int k a) (hy : ρ y = .int k b) (w : World) :
  (execOp ρ ⟨dst, .binOp .lss xt x y yt, ty, pos, af, gd⟩).run P w = .ok (.value (.bool (decide (a < b)))) w := by
 simp [execOp, go_sem, hx, hy, eqGuard, binOp, Op.intCmp]
theorem r_leq {x y : Operand} {xt yt : TypeId} {k : IntKind} {a b : Int} (hx : ρ x = .int k a) (hy : ρ y = .int k b) (w : World) :
  (execOp ρ ⟨dst, .binOp .leq xt x y yt, ty, pos, af, gd⟩).run P w = .ok (.value (.bool (decide (a ≤ b)))) w := by
 simp [execOp, go_sem, hx, hy, eqGuard, binOp, Op.intCmp]
theorem r_gtr {x y : Operand} {xt yt : TypeId} {k : IntKind} {a b : Int} (hx : ρ x = .int k a) (hy : ρ y = .int k b) (w : World) :
  (execOp ρ ⟨dst, .binOp .gtr xt x y yt, ty, pos, af, gd⟩).run P w = .ok (.value (.bool (decide (b < a)))) w := by
 simp [execOp, go_sem, hx, hy, eqGuard, binOp, Op.intCmp]
theorem r_geq {x y : Operand} {xt yt : TypeId} {k : IntKind} {a b : Int} (hx : ρ x = .int k a) (hy : ρ y = .int k b) (w : World) :
  (execOp ρ ⟨dst, .binOp .geq xt x y yt, ty, pos, af, gd⟩).run P w = .ok (.value (.bool (decide (b ≤ a)))) w := by
 simp [execOp, go_sem, hx, hy, eqGuard, binOp, Op.intCmp]
theorem r_eql {x y : Operand} {xt yt : TypeId} {k : IntKind} {a b : Int} (hx : ρ x = .int k a) (hy : ρ y = .int k b) (w : World) :
  (execOp ρ ⟨dst, .binOp .eql xt x y yt, ty, pos, af, gd⟩).run P w = .ok (.value (.bool (decide (a = b)))) w := by
 simp [execOp, go_sem, hx, hy, eqGuard, binOp, Op.intCmp, int_beq]
theorem r_neq {x y : Operand} {xt yt : TypeId} {k : IntKind} {a b : Int} (hx : ρ x = .int k a) (hy : ρ y = .int k b) (w : World) :
  (execOp ρ ⟨dst, .binOp .neq xt x y yt, ty, pos, af, gd⟩).run P w = .ok (.value (.bool (!decide (a = b)))) w := by
 simp [execOp, go_sem, hx, hy, eqGuard, binOp, Op.intCmp, bne, int_beq]
theorem r_eqlB {x y : Operand} {xt yt : TypeId} {a b : Bool} (ht : P.underlying xt = some .bool) (hx : ρ x = .bool a) (hy : ρ y = .bool b) (w : World) :
  (execOp ρ ⟨dst, .binOp .eql xt x y yt, ty, pos, af, gd⟩).run P w = .ok (.value (.bool (a == b))) w := by
 simp [execOp, go_sem, hx, hy, eqGuard, binOp, Op.equal, e_bool ht]
/-- is a pointer, a slice, a function, an interface's value nil? -/
def isNil : Value → Bool
 | .pointer none | .slice none _ _ | .nilFunc | .nilIface => true
 | _ => false
theorem r_nilP {x y : Operand} {xt yt el : TypeId} {a : Option Addr} (ht : P.underlying xt = some (.pointer el)) (hx : ρ x = .pointer a) (hy : ρ y = .pointer none) (w : World) :
  (execOp ρ ⟨dst, .binOp .eql xt x y yt, ty, pos, af, gd⟩).run P w = .ok (.value (.bool a.isNone)) w := by
 simp [execOp, go_sem, hx, hy, eqGuard, binOp, Op.equal, e_nilP ht]
theorem r_notNilP {x y : Operand} {xt yt el : TypeId} {a : Option Addr} (ht : P.underlying xt = some (.pointer el)) (hx : ρ x = .pointer a) (hy : ρ y = .pointer none) (w : World) :
  (execOp ρ ⟨dst, .binOp .neq xt x y yt, ty, pos, af, gd⟩).run P w = .ok (.value (.bool (!a.isNone))) w := by
 simp [execOp, go_sem, hx, hy, eqGuard, binOp, Op.equal, e_nilP ht]
theorem r_nilS {x y : Operand} {xt yt el : TypeId} {a : Option Addr} {l c : Nat} (ht : P.underlying xt = some (.slice el)) (hx : ρ x = .slice a l c) (hy : ρ y = .slice none 0 0) (w : World) :
  (execOp ρ ⟨dst, .binOp .eql xt x y yt, ty, pos, af, gd⟩).run P w = .ok (.value (.bool a.isNone)) w := by
 simp [execOp, go_sem, hx, hy, eqGuard, binOp, Op.equal, e_nilS ht]
/-- an interface's value: nil, or of a type -/
def isIface : Value → Bool
 | .nilIface | .iface _ _ => true
 | _ => false
theorem r_notNilI {x : Operand} {xt yt : TypeId} {ms : Array (String × TypeId)} {v : Value} (ht : P.underlying xt = some (.interface ms)) (hx : ρ x = v) (hi : isIface v = true) (hc : ρ (.const .nilIface) = .nilIface) (w : World) :
  (execOp ρ ⟨dst, .binOp .neq xt x (.const .nilIface) yt, ty, pos, af, gd⟩).run P w = .ok (.value (.bool (!isNil v))) w := by
 cases v <;> simp [isIface] at hi <;> simp [execOp, go_sem, hx, hc, eqGuard, binOp, Op.equal, e_nilI0 ht, e_nilI1 ht, isNil]
theorem r_not {x : Operand} {xt : TypeId} {a : Bool} (hx : ρ x = .bool a) (w : World) : (execOp ρ ⟨dst, .unOp .not xt x, ty, pos, af, gd⟩).run P w = .ok (.value (.bool (!a))) w := by
 simp [execOp, go_sem, Op.unary, hx]
theorem r_conv {x : Operand} {st dt : TypeId} {sk k : IntKind} {a : Int} {sd : TypeDesc} (hs : P.underlying st = some sd) (ht : P.underlying dt = some (.int k)) (hx : ρ x = .int sk a) (w : World) :
  (execOp ρ ⟨dst, .convert st dt x, ty, pos, af, gd⟩).run P w = .ok (.value (.int k (k.wrap a))) w := by
 cases sd <;> simp [execOp, go_sem, convert, run_underlying hs, run_underlying ht, hx, Conv.intToInt]
theorem r_len {x : Operand} {t : TypeId} {el : TypeId} {a : Option Addr} {l c : Nat} (ht : P.underlying t = some (.slice el)) (hx : ρ x = .slice a l c) (w : World) :
  (execOp ρ ⟨dst, .call ⟨.builtin .len, #[x], #[t]⟩, ty, pos, af, gd⟩).run P w = .ok (.value (.int .i64 l)) w := by
 simp [go_sem, Builtin.len_, hx, run_underlying ht, goInt]
theorem r_cap {x : Operand} {t : TypeId} {el : TypeId} {a : Option Addr} {l c : Nat} (ht : P.underlying t = some (.slice el)) (hx : ρ x = .slice a l c) (w : World) :
  (execOp ρ ⟨dst, .call ⟨.builtin .cap, #[x], #[t]⟩, ty, pos, af, gd⟩).run P w = .ok (.value (.int .i64 c)) w := by
 simp [go_sem, Builtin.cap_, hx, run_underlying ht, goInt]
theorem r_lenStr {x : Operand} {t : TypeId} {s : ByteArray} (ht : P.underlying t = some .string) (hx : ρ x = .string s) (w : World) :
  (execOp ρ ⟨dst, .call ⟨.builtin .len, #[x], #[t]⟩, ty, pos, af, gd⟩).run P w = .ok (.value (.int .i64 s.size)) w := by
 simp [go_sem, Builtin.len_, hx, run_underlying ht, goInt]
theorem r_min {x y : Operand} {t : Array TypeId} {k k' : IntKind} {a b : Int} (hx : ρ x = .int k a) (hy : ρ y = .int k' b) (w : World) :
  (execOp ρ ⟨dst, .call ⟨.builtin .min, #[x, y], t⟩, ty, pos, af, gd⟩).run P w = .ok (.value (.int k (min a b))) w := by
 have : (if b < a then b else a) = min a b := by rw [Int.min_def]; split <;> split <;> omega
 simp [go_sem, Builtin.min_, Builtin.min2, hx, hy, this]
theorem r_max {x y : Operand} {t : Array TypeId} {k k' : IntKind} {a b : Int} (hx : ρ x = .int k a) (hy : ρ y = .int k' b) (w : World) :
  (execOp ρ ⟨dst, .call ⟨.builtin .max, #[x, y], t⟩, ty, pos, af, gd⟩).run P w = .ok (.value (.int k (max a b))) w := by
 have : (if a < b then b else a) = max a b := by rw [Int.max_def]; split <;> split <;> omega
 simp [go_sem, Builtin.max_, Builtin.max2, hx, hy, this]
theorem r_nilCheck {x : Operand} {a : Option Addr} {p : Addr} (hx : ρ x = .pointer a) (hp : a = some p) (w : World) : (execOp ρ ⟨dst, .nilCheck x, ty, pos, af, gd⟩).run P w = .ok (.value (.pointer (some p))) w := by
 simp [execOp, go_sem, hx, hp]
theorem r_fieldAddr {s : TypeId} {x : Operand} {i : Nat} {fs : Array Field} {off : Nat} {ft : TypeId} {p : Addr} {k : Nat} (hs : P.underlying s = some (.struct fs)) (hk : ∀ w, (sizeOf ft).run P w = .ok k w) (hf : (fs[i]?).map (fun f => (f.offset, f.type)) = some (off, ft)) (hx : ρ x = .pointer (some p)) (h0 : Nat.beq k 0 = false) (w : World) :
  (execOp ρ ⟨dst, .fieldAddr s x i, ty, pos, af, gd⟩).run P w = .ok (.value (.pointer (some (p.add off)))) w := by
 have h1 : ¬ k = 0 := fun e => by subst e; cases h0
 cases hq : fs[i]? with
 | none => rw [hq] at hf; cases hf
 | some f =>
  rw [hq] at hf
  simp only [Option.map_some, Option.some.injEq, Prod.mk.injEq] at hf
  obtain ⟨rfl, rfl⟩ := hf
  simp [execOp, go_sem, Instr.fieldAt, run_underlying hs, hq, hx, Instr.sureAddr, fieldPlace, hk, h1]
theorem r_indexAddr {t : TypeId} {x y : Operand} {el : TypeId} {a : Option Addr} {l c : Nat} {p : Addr} {k : IntKind} {i : Int} {sz : Nat} (ht : P.underlying t = some (.slice el)) (hz : ∀ w, (sizeOf el).run P w = .ok sz w)
  (hx : ρ x = .slice a l c) (hy : ρ y = .int k i) (ha : a = some p) (h0 : 0 ≤ i) (h1 : i < l) (w : World) :
  (execOp ρ ⟨dst, .indexAddr t x y, ty, pos, af, gd⟩).run P w = .ok (.value (.pointer (some (p.add (i.toNat * sz))))) w := by
 subst ha
 simp [execOp, go_sem, Instr.indexAt, asIntOf, run_underlying ht, hx, hy, h0, h1, hz]
theorem r_makeFunc {fn : Fn} {fi ca : Array Operand} {fi' ca' : List Value} (h1 : fi.toList.map ρ = fi') (h2 : ca.toList.map ρ = ca') (w : World) : (execOp ρ ⟨dst, .makeFunc fn fi ca, ty, pos, af, gd⟩).run P w = .ok (.value (.func fn fi'.toArray ca'.toArray)) w := by
 have e1 : fi.map ρ = fi'.toArray := by apply Array.toList_inj.1; simpa using h1
 have e2 : ca.map ρ = ca'.toArray := by apply Array.toList_inj.1; simpa using h2
 simp [execOp, go_sem, Instr.makeFunc, e1, e2]
theorem r_iface {t : TypeId} {x : Operand} {v : Value} {d : TypeDesc} (ht : P.underlying t = some d) (hd : (match d with | .interface _ => false | _ => true) = true) (hx : ρ x = v) (w : World) :
  (execOp ρ ⟨dst, .makeInterface t x, ty, pos, af, gd⟩).run P w = .ok (.value (.iface t v)) w := by
 cases d <;> simp at hd <;> simp [execOp, go_sem, Instr.makeInterface, run_underlying ht, hx]
/-- s[lo:hi] of a slice -/
def sliceA (a : Option Addr) (m l sz : Nat) : Option Addr := if m = l then a else a.map (·.add (l * sz))
theorem run_sliceBound {x : Value} {k : IntKind} {i : Int} {y : Nat} {code : BoundsCode} (hx : x = .int k i) (h0 : 0 ≤ i) (h1 : i ≤ y) (w : World) : (Instr.sliceBound x y code).run P w = .ok i.toNat w := by
 subst hx; simp [Instr.sliceBound, go_sem, asIntOf, h0, h1]
theorem r_slice {t : TypeId} {x : Operand} {lo hi mx : Option Operand} {el : TypeId} {a : Option Addr} {l c : Nat} {sz : Nat} (ht : P.underlying t = some (.slice el)) (hz : ∀ w, (sizeOf el).run P w = .ok sz w) (hx : ρ x = .slice a l c)
  (iM iH iL : Int) (hM : match mx with | some o => ∃ k, ρ o = .int k iM | none => iM = c) (hH : match hi with | some o => ∃ k, ρ o = .int k iH | none => mx = none ∧ iH = l) (hL : match lo with | some o => ∃ k, ρ o = .int k iL | none => iL = 0)
  (h1 : 0 ≤ iL) (h2 : iL ≤ iH) (h3 : hi = none ∨ iH ≤ iM) (h4 : iM ≤ c) (w : World) :
  (execOp ρ ⟨dst, .slice t x lo hi mx, ty, pos, af, gd⟩).run P w = .ok (.value (.slice (sliceA a iM.toNat iL.toNat sz) (iH.toNat - iL.toNat) (iM.toNat - iL.toNat))) w := by
 have b1 : ∀ {v : Value} {k : IntKind} {i : Int} {y : Nat} {code : BoundsCode} (w : World), v = .int k i → 0 ≤ i → i ≤ y → (Instr.sliceBound v y code).run P w = .ok i.toNat w := fun w h h0 h1 => run_sliceBound h h0 h1 w
 have hb : (Instr.sliceBounds true l c (lo.map ρ) (hi.map ρ) (mx.map ρ)).run P w = .ok (iL.toNat, iH.toNat, iM.toNat) w := by
  unfold Instr.sliceBounds
  cases mx with
  | none =>
   simp only at hM
   subst hM
   cases hi with
   | none =>
    obtain ⟨_, rfl⟩ := hH
    cases lo with
    | none => subst hL; simp [go_sem]
    | some o => obtain ⟨k, hk⟩ := hL; simp [go_sem, b1 w hk h1 h2]
   | some oh =>
    obtain ⟨kh, hkh⟩ := hH
    have h3' : iH ≤ (c : Int) := by simpa using h3
    have e2 : iL ≤ (iH.toNat : Int) := by omega
    cases lo with
    | none => subst hL; simp [go_sem, b1 w hkh (by omega) h3']
    | some o => obtain ⟨k, hk⟩ := hL; simp [go_sem, b1 w hkh (by omega) h3', b1 w hk h1 e2]
  | some om =>
   obtain ⟨km, hkm⟩ := hM
   cases hi with
   | none => obtain ⟨h, _⟩ := hH; cases h
   | some oh =>
    obtain ⟨kh, hkh⟩ := hH
    have h3' : iH ≤ iM := by simpa using h3
    have e1 : iH ≤ (iM.toNat : Int) := by omega
    have e2 : iL ≤ (iH.toNat : Int) := by omega
    cases lo with
    | none => subst hL; simp [go_sem, b1 w hkm (by omega) h4, b1 w hkh (by omega) e1]
    | some o => obtain ⟨k, hk⟩ := hL; simp [go_sem, b1 w hkm (by omega) h4, b1 w hkh (by omega) e1, b1 w hk h1 e2]
 have e1 : (Instr.sliceAt t (ρ x) (lo.map ρ) (hi.map ρ) (mx.map ρ)).run P w = .ok (.slice (sliceA a iM.toNat iL.toNat sz) (iH.toNat - iL.toNat) (iM.toNat - iL.toNat)) w := by
  unfold Instr.sliceAt Instr.slice
  simp only [Sem.run_bind, run_underlying ht, Result.andThen_ok, hx, hb, hz, Sem.run_pure, sliceA]
 unfold execOp
 simp only [Sem.run_bind, e1, Result.andThen_ok, Sem.run_pure]
end pure
end Go.Tw
namespace Go.Tw
open Go Go.RowKit
def hcell (h : Heap) (a : Addr) : Option Value :=
 match h[a.block]? with
 | some (.cells c _ _) => if a.spot.isSome then none else c[a.off]?
 | _ => none
def hfroz (h : Heap) (a : Addr) : Bool :=
 match h[a.block]? with
 | some (.cells _ _ (lo, hi)) => lo ≤ a.off && a.off < hi
 | _ => false
def hset (h : Heap) (a : Addr) (v : Value) : Heap :=
 h.modify a.block fun
  | .cells c elem frozen => .cells (if a.spot.isSome then c else c.setIfInBounds a.off v) elem frozen
  | o => o
theorem wd_cell (r : World) (h : Heap) (dr : Nat) (a : Addr) : (wd r h dr).cell? a = hcell h a := rfl
theorem wd_froz (r : World) (h : Heap) (dr : Nat) (a : Addr) : (wd r h dr).frozen? a = hfroz h a := rfl
theorem wd_set (r : World) (h : Heap) (dr : Nat) (a : Addr) (v : Value) : (wd r h dr).setCell a v = wd r (hset h a v) dr := rfl
/-- a value of one cell -/
def one : Value → Bool
 | .agg _ | .tuple _ => false
 | _ => true
theorem one_cells {v : Value} (h : one v = true) : v.cells = #[v] := by cases v <;> simp [one] at h <;> rfl
/-- cells side by side -/
def CellsAt (h : Heap) (p : Addr) : Nat → List Value → Prop
 | _, [] => True
 | i, v :: vs => hcell h (p.add i) = some v ∧ CellsAt h p (i + 1) vs
def hsets (h : Heap) (p : Addr) : Nat → List Value → Heap
 | _, [] => h
 | i, v :: vs => hsets (hset h (p.add i) v) p (i + 1) vs
/-- k cells that are there and may be written -/
def StOk (h : Heap) (p : Addr) (k : Nat) : Prop := ∀ j, j < k → (∃ u, hcell h (p.add j) = some u) ∧ hfroz h (p.add j) = false
theorem run_load {P : Program} {r : World} {h : Heap} {dr : Nat} {a : Addr} {v : Value} (hc : hcell h a = some v) : (load a).run P (wd r h dr) = .ok v (wd r h dr) := by
 simp [load, Sem.run, wd_cell, hc]
theorem run_loadCellsFrom {P : Program} {r : World} {h : Heap} {dr : Nat} {p : Addr} : ∀ (vs : List Value) (i : Nat) (acc : Array Value), CellsAt h p i vs →
  (loadCellsFrom p i vs.length acc).run P (wd r h dr) = .ok (acc ++ vs.toArray) (wd r h dr)
 | [], i, acc, _ => by simp [loadCellsFrom]
 | v :: vs, i, acc, hc => by
  have e1 := run_load (P := P) (r := r) (dr := dr) hc.1
  have e2 := run_loadCellsFrom (P := P) (r := r) (dr := dr) vs (i + 1) (acc.push v) hc.2
  simp only [List.length_cons, loadCellsFrom, Sem.run_bind, e1, Result.andThen_ok, e2]
  congr 1
  simp
theorem run_loadCells {P : Program} {r : World} {h : Heap} {dr : Nat} {p : Addr} {vs : List Value} {n : Nat} (hn : vs.length = n) (hc : CellsAt h p 0 vs) : (loadCells p n).run P (wd r h dr) = .ok vs.toArray (wd r h dr) := by
 subst hn; have := run_loadCellsFrom (P := P) (r := r) (dr := dr) vs 0 #[] hc; simpa [loadCells] using this
section heap
variable {P : Program} {ρ : Operand → Value} {dst : Option Tmp} {ty : TypeId} {pos : String} {af : Array Edge} {gd : Option (Nat × Bool)} {r : World} {h : Heap} {dr : Nat}
theorem run_loadVar1 {t : TypeId} {p : Addr} {v : Value} (hA : ∀ w, (isAgg t).run P w = .ok false w) (hc : hcell h p = some v) : (loadVar t p).run P (wd r h dr) = .ok v (wd r h dr) := by
 unfold loadVar
 simp only [Sem.run_bind, hA, Result.andThen_ok, Bool.false_eq_true, if_false]
 exact run_load hc
theorem run_loadVarN {t : TypeId} {p : Addr} {vs : List Value} {n : Nat} (hA : ∀ w, (isAgg t).run P w = .ok true w) (hz : ∀ w, (sizeOf t).run P w = .ok n w) (hn : vs.length = n) (hc : CellsAt h p 0 vs) : (loadVar t p).run P (wd r h dr) = .ok (.agg vs.toArray) (wd r h dr) := by
 unfold loadVar
 simp only [Sem.run_bind, hA, Result.andThen_ok, if_true, hz, run_loadCells hn hc, Sem.run_pure]
theorem run_loadAt {t : TypeId} {x : Value} {p : Addr} {v : Value} (hx : x = .pointer (some p)) (hl : (loadVar t p).run P (wd r h dr) = .ok v (wd r h dr)) : (Instr.loadAt t x).run P (wd r h dr) = .ok v (wd r h dr) := by
 subst hx
 simp [Instr.loadAt, Instr.sureAddr, hl]
theorem r_load1 {t : TypeId} {x : Operand} {p : Addr} {v : Value} (hA : ∀ w, (isAgg t).run P w = .ok false w) (hx : ρ x = .pointer (some p)) (hc : hcell h p = some v) :
  (execOp ρ ⟨dst, .load t x, ty, pos, af, gd⟩).run P (wd r h dr) = .ok (.value v) (wd r h dr) := by
 unfold execOp
 simp only [Sem.run_bind, run_loadAt hx (run_loadVar1 hA hc), Result.andThen_ok, Sem.run_pure]
theorem r_loadN {t : TypeId} {x : Operand} {p : Addr} {vs : List Value} {n : Nat} (hA : ∀ w, (isAgg t).run P w = .ok true w) (hz : ∀ w, (sizeOf t).run P w = .ok n w) (hn : vs.length = n) (hx : ρ x = .pointer (some p)) (hc : CellsAt h p 0 vs) :
  (execOp ρ ⟨dst, .load t x, ty, pos, af, gd⟩).run P (wd r h dr) = .ok (.value (.agg vs.toArray)) (wd r h dr) := by
 unfold execOp
 simp only [Sem.run_bind, run_loadAt hx (run_loadVarN hA hz hn hc), Result.andThen_ok, Sem.run_pure]
theorem hset_cell_some {h : Heap} {a b : Addr} {v u : Value} (hc : hcell h b = some u) : ∃ u', hcell (hset h a v) b = some u' := by
 unfold hcell hset at *
 rw [Array.getElem?_modify]
 by_cases hb : a.block = b.block
 ·rw [if_pos hb]
  cases ho : h[b.block]? with
  | none => rw [ho] at hc; cases hc
  | some o =>
   rw [ho] at hc
   cases o with
   | cells c el fz =>
    simp only [Option.map_some] at hc ⊢
    by_cases hs : b.spot.isSome = true
    ·rw [if_pos hs] at hc; cases hc
    ·rw [if_neg hs] at hc ⊢
     have hlt : b.off < c.size := (Array.getElem?_eq_some_iff.1 hc).1
     by_cases ha : a.spot.isSome = true
     ·rw [if_pos ha]; exact ⟨_, hc⟩
     ·rw [if_neg ha]; exact ⟨_, Array.getElem?_eq_getElem (by simpa using hlt)⟩
   | _ => simp at hc
 ·rw [if_neg hb]; exact ⟨u, hc⟩
theorem hset_froz {h : Heap} {a b : Addr} {v : Value} : hfroz (hset h a v) b = hfroz h b := by
 unfold hfroz hset
 rw [Array.getElem?_modify]
 by_cases hb : a.block = b.block
 ·rw [if_pos hb]
  cases ho : h[b.block]? with
  | none => rfl
  | some o => cases o <;> rfl
 ·rw [if_neg hb]
theorem run_store {a : Addr} {v u : Value} (h1 : one v = true) (hc : hcell h a = some u) (hf : hfroz h a = false) : (store a v).run P (wd r h dr) = .ok () (wd r (hset h a v) dr) := by
 cases v <;> simp [one] at h1 <;> simp [store, Sem.run, wd_cell, hc, wd_froz, hf, wd_set]
theorem run_storeCells {p : Addr} : ∀ (vs : List Value) (i : Nat) (h : Heap), (∀ v ∈ vs, one v = true) → (∀ j, i ≤ j → j < i + vs.length → (∃ u, hcell h (p.add j) = some u) ∧ hfroz h (p.add j) = false) →
  (storeCells p vs i).run P (wd r h dr) = .ok () (wd r (hsets h p i vs) dr)
 | [], i, h, _, _ => by simp [storeCells, hsets]
 | v :: vs, i, h, h1, hok => by
  obtain ⟨⟨u, hu⟩, hf⟩ := hok i (Nat.le_refl _) (by simp)
  have e1 := run_store (P := P) (r := r) (dr := dr) (h1 v (by simp)) hu hf
  have e2 := run_storeCells (p := p) vs (i + 1) (hset h (p.add i) v) (fun v hv => h1 v (by simp [hv])) (fun j hj hj' => by
   obtain ⟨⟨u, hu⟩, hf⟩ := hok j (by omega) (by simp; omega)
   exact ⟨hset_cell_some hu, by rw [hset_froz]; exact hf⟩)
  simp only [storeCells, Sem.run_bind, e1, Result.andThen_ok, e2, hsets]
theorem run_storeVar {t : TypeId} {p : Addr} {v : Value} {n : Nat} (hz : ∀ w, (sizeOf t).run P w = .ok n w) (hn : v.cells.size = n) (h1 : ∀ u ∈ v.cells.toList, one u = true) (hok : StOk h p n) :
  (storeVar t p v).run P (wd r h dr) = .ok () (wd r (hsets h p 0 v.cells.toList) dr) := by
 unfold storeVar
 simp only [Sem.run_bind, hz, Result.andThen_ok, hn, ne_eq, not_true_eq_false, if_false]
 exact run_storeCells _ 0 h h1 (fun j _ hj => hok j (by simpa [hn] using hj))
theorem r_store {t : TypeId} {a x : Operand} {p : Addr} {v : Value} {n : Nat} (hz : ∀ w, (sizeOf t).run P w = .ok n w) (ha : ρ a = .pointer (some p)) (hx : ρ x = v) (hn : v.cells.size = n) (h1 : ∀ u ∈ v.cells.toList, one u = true) (hok : StOk h p n) :
  (execOp ρ ⟨dst, .store t a x, ty, pos, af, gd⟩).run P (wd r h dr) = .ok .skip (wd r (hsets h p 0 v.cells.toList) dr) := by
 subst hx
 unfold execOp
 simp only [ha, Instr.storeAt, Instr.sureAddr, Sem.run_bind, Sem.run_pure, Result.andThen_ok, run_storeVar hz hn h1 hok]
theorem run_newRow {el : TypeId} {cells : Array Value} : (newRow el cells).run P (wd r h dr) = .ok ⟨h.size, 0, none⟩ (wd r (h.push (.cells cells el)) dr) := by
 simp [newRow, newObj, Sem.run, wd]
theorem r_box {t : TypeId} {x : Operand} {v : Value} (hx : ρ x = v) : (execOp ρ ⟨dst, .box t x, ty, pos, af, gd⟩).run P (wd r h dr) = .ok (.value (.pointer (some ⟨h.size, 0, none⟩))) (wd r (h.push (.cells v.cells t)) dr) := by
 subst hx
 unfold execOp
 simp only [Instr.box, newVar, Sem.run_bind, run_newRow, Result.andThen_ok, Sem.run_pure]
theorem r_alloc {t : TypeId} {z : Value} (hz : ∀ w, (zeroValue t).run P w = .ok z w) : (execOp ρ ⟨dst, .alloc t, ty, pos, af, gd⟩).run P (wd r h dr) = .ok (.value (.pointer (some ⟨h.size, 0, none⟩))) (wd r (h.push (.cells z.cells t)) dr) := by
 unfold execOp
 simp only [Instr.alloc, newVar, Sem.run_bind, hz, run_newRow, Result.andThen_ok, Sem.run_pure]
theorem r_buildSlice {t : TypeId} {n : Nat} {parts : Array (Nat × Operand)} {el : TypeId} {sz : Nat} {z : Value} {cells : Array Value} (ht : P.underlying t = some (.slice el)) (hz : ∀ w, (sizeOf el).run P w = .ok sz w) (hzv : ∀ w, (zeroValue el).run P w = .ok z w)
  (hlen : decide (n * sz ≤ 16777216) = true) (hne : (n * sz).beq 0 = false) (hf : Instr.fill (fun i => some (i * sz, sz)) ((Array.range (n * sz)).map (z.cells[· % z.cells.size]!)) (parts.map fun (i, x) => (i, ρ x)).toList = some cells) :
  (execOp ρ ⟨dst, .buildSlice t n parts, ty, pos, af, gd⟩).run P (wd r h dr) = .ok (.value (.slice (some ⟨h.size, 0, none⟩) n n)) (wd r (h.push (.cells cells el)) dr) := by
 have h1 : ¬ n * sz > 2 ^ 24 := by have := of_decide_eq_true hlen; omega
 have h2 : ¬ n * sz = 0 := fun e => by rw [e] at hne; cases hne
 unfold execOp
 simp only [Instr.buildSlice, Sem.run_bind, run_underlying ht, hz, Result.andThen_ok, h1, if_false, h2, hzv, Sem.run_pure, hf, run_newRow]
theorem run_makeSlice {t : TypeId} {el : TypeId} {sz by' : Nat} {z : Value} {n : Int} (ht : P.underlying t = some (.slice el)) (hz : ∀ w, (sizeOf el).run P w = .ok sz w) (hzv : ∀ w, (zeroValue el).run P w = .ok z w) (hb : ∀ w, ∃ i : TypeInfo, (typeInfo el).run P w = .ok i w ∧ i.bytes = by')
  (h0 : 0 ≤ n) (h63 : n < 9223372036854775808) (h48 : by' * n ≤ 281474976710656) :
  (Instr.makeSlice t (.int .i64 n) (.int .i64 n)).run P (wd r h dr) = .ok (.slice (some ⟨h.size, 0, none⟩) n.toNat n.toNat) (wd r (h.push (.cells ((Array.range (n.toNat * sz)).map ((if n.toNat * sz = 0 then #[] else z.cells)[· % (if n.toNat * sz = 0 then #[] else z.cells).size]!)) el)) dr) := by
 obtain ⟨i, hi, hby⟩ := hb (wd r h dr)
 have hw : IntKind.i64.wrap n = n := by rw [IntKind.wrap_i64]; omega
 have e1 : ¬ (n < 0) := by omega
 have e2 : ¬ ((by' : Int) * n > 281474976710656) := by omega
 unfold Instr.makeSlice
 simp only [Sem.run_bind, run_underlying ht, Result.andThen_ok, asInt, asIntOf, Sem.run_pure, hi, hby, hw]
 have hcond : ((decide (n < 0) || decide ((by' : Int) * n > 2 ^ 48)) || decide (n < 0) || decide (n > n)) = false := by
  simp only [e1, decide_false, Bool.false_or, Int.lt_irrefl, Bool.or_false, gt_iff_lt, decide_eq_false_iff_not]
  simpa using e2
 simp only [hcond, Bool.false_eq_true, if_false]
 have hroom : ∀ (b : Nat) (w : World), (askRoom b).run P w = .ok () w := fun b w => by unfold askRoom; split <;> simp [mark, Sem.run]
 simp only [Sem.run_bind, hroom, Result.andThen_ok, hz]
 by_cases hn : n.toNat * sz = 0
 ·simp only [hn, if_true, Sem.run_bind, Sem.run_pure, Result.andThen_ok, run_newRow]
 ·simp only [hn, if_false, Sem.run_bind, hzv, Sem.run_pure, Result.andThen_ok, run_newRow]
end heap
/-! ### The steps -/
section steps
variable {c : Cx} {K : Post} {t alt : Tr} {C : Held} {e : Env} {h : Heap} {i : Nat} {bef : List Nat}
theorem s_pu {o : Oper} {d : Option Tmp} {v : Value} (ho : c.ops[i]? = some o) (hd : o.dst = d) (hw : wants c o e = true) (hr : ∀ w, (execOp (ev c.n e) o).run c.P w = .ok (.value v) w) (hs : S c K t C (updO e d v) h) : S c K (.pu i t) C e h := by
 subst hd; exact ⟨o, v, ho, .inl ⟨hw, hr⟩, hs⟩
theorem sp {o : Oper} (d : Tmp) (v : Value) (ho : c.ops[i]? = some o) (hd : o.dst = some d) (hr : ∀ w, (execOp (ev c.n e) o).run c.P w = .ok (.value v) w) (hs : S c K t C (upd e d v) h) (hw : wants c o e = true := by rfl) : S c K (.pu i t) C e h := s_pu ho hd hw hr hs
theorem s_sk {o : Oper} {d : Option Tmp} (ho : c.ops[i]? = some o) (hd : o.dst = d) (hw : wants c o e = false) (hs : S c K t C (updO e d undef) h) : S c K (.pu i t) C e h := by
 subst hd; exact ⟨o, undef, ho, .inr ⟨hw, rfl⟩, hs⟩
theorem s_rl {o : Oper} {d : Option Tmp} {v : Value} (ho : c.ops[i]? = some o) (hd : o.dst = d) (hw : wants c o e = true) (hr : ∀ dr, (execOp (ev c.n e) o).run c.P (wd c.r h dr) = .ok (.value v) (wd c.r h dr)) (hs : S c K t C (updO e d v) h) : S c K (.rl i t) C e h := by
 subst hd; exact ⟨o, v, ho, .inl ⟨hw, hr⟩, hs⟩
theorem sl {o : Oper} (d : Tmp) (v : Value) (ho : c.ops[i]? = some o) (hd : o.dst = some d) (hr : ∀ dr, (execOp (ev c.n e) o).run c.P (wd c.r h dr) = .ok (.value v) (wd c.r h dr)) (hs : S c K t C (upd e d v) h) (hw : wants c o e = true := by rfl) : S c K (.rl i t) C e h := s_rl ho hd hw hr hs
theorem s_skl {o : Oper} {d : Option Tmp} (ho : c.ops[i]? = some o) (hd : o.dst = d) (hw : wants c o e = false) (hs : S c K t C (updO e d undef) h) : S c K (.rl i t) C e h := by
 subst hd; exact ⟨o, undef, ho, .inr ⟨hw, rfl⟩, hs⟩
theorem s_rd {o : Oper} {d : Option Tmp} {v : Value} (ho : c.ops[i]? = some o) (hd : o.dst = d) (hw : wants c o e = true) (hr : ∀ dr, (execOp (ev c.n e) o).run c.P (wd c.r h dr) = .ok (.value v) (wd c.r h dr)) (hs : S c K t ((i, fun h' => Rd c o e v h') :: C) (updO e d v) h) : S c K (.rd i t) C e h := by
 subst hd; exact ⟨o, v, ho, .inl ⟨hw, hr⟩, hs⟩
theorem s_skd {o : Oper} {d : Option Tmp} (ho : c.ops[i]? = some o) (hd : o.dst = d) (hw : wants c o e = false) (hs : S c K t ((i, fun h' => Rd c o e undef h') :: C) (updO e d undef) h) : S c K (.rd i t) C e h := by
 subst hd; exact ⟨o, undef, ho, .inr ⟨hw, rfl⟩, hs⟩
/-- an effect whose outcome is known -/
theorem s_ef1 {o : Oper} {d : Option Tmp} {v : Value} {h' : Heap} (ho : c.ops[i]? = some o) (hd : o.dst = d) (hw : wants c o e = true) (hr : ∀ dr, (execOp (ev c.n e) o).run c.P (wd c.r h dr) = .ok (.value v) (wd c.r h' dr)) (hc : Chk bef C h') (hs : S c K t C (updO e d v) h') (ha : S c K alt C e h) : S c K (.ef i bef t alt) C e h := by
 subst hd; exact ⟨⟨o, ho, .inl ⟨hw, fun dr => by rw [hr]; exact ⟨h', dr, rfl, hc, hs⟩⟩⟩, ha⟩
theorem s_st {o : Oper} {d : Option Tmp} {h' : Heap} (ho : c.ops[i]? = some o) (hd : o.dst = d) (hw : wants c o e = true) (hr : ∀ dr, (execOp (ev c.n e) o).run c.P (wd c.r h dr) = .ok .skip (wd c.r h' dr)) (hc : Chk bef C h') (hs : S c K t C (updO e d undef) h') (ha : S c K alt C e h) : S c K (.ef i bef t alt) C e h := by
 subst hd; exact ⟨⟨o, ho, .inl ⟨hw, fun dr => by rw [hr]; exact ⟨h', dr, rfl, hc, hs⟩⟩⟩, ha⟩
/-- an effect that may come out in several ways -/
theorem s_ef {o : Oper} {d : Option Tmp} {k : Value → Heap → Prop} (ho : c.ops[i]? = some o) (hd : o.dst = d) (hw : wants c o e = true) (hr : ∀ dr, uponV c.P (behind c.r k) ((execOp (ev c.n e) o).run c.P (wd c.r h dr)))
  (hs : ∀ v h', k v h' → Chk bef C h' ∧ S c K t C (updO e d v) h') (ha : S c K alt C e h) : S c K (.ef i bef t alt) C e h := by
 subst hd; exact ⟨⟨o, ho, .inl ⟨hw, fun dr => uponV_uponP (uponV_mono (hr dr) fun _ _ ⟨h', dr', hw, hk⟩ => ⟨h', dr', hw, hs _ _ hk⟩)⟩⟩, ha⟩
theorem sc {o : Oper} (d : Tmp) {k : Value → Heap → Prop} (ho : c.ops[i]? = some o) (hd : o.dst = some d) (hr : ∀ dr, uponV c.P (behind c.r k) ((execOp (ev c.n e) o).run c.P (wd c.r h dr))) (hs : ∀ v h', k v h' → S c K t [] (upd e d v) h') (hw : wants c o e = true := by rfl) : S c K (.ef i [] t .no) [] e h := s_ef ho hd hw hr (fun v h' q => ⟨trivial, hs v h' q⟩) trivial
/-- an effect that may panic -/
theorem s_efP {o : Oper} {d : Option Tmp} {k : Value → Heap → Prop} (ho : c.ops[i]? = some o) (hd : o.dst = d) (hw : wants c o e = true) (hr : ∀ dr, uponP c.P (behind c.r (c.pan (kv c.kp c.n e))) (behind c.r k) ((execOp (ev c.n e) o).run c.P (wd c.r h dr)))
  (hs : ∀ v h', k v h' → Chk bef C h' ∧ S c K t C (updO e d v) h') (ha : S c K alt C e h) : S c K (.ef i bef t alt) C e h := by
 subst hd; exact ⟨⟨o, ho, .inl ⟨hw, fun dr => uponP_mono (hr dr) fun _ _ ⟨h', dr', hw, hk⟩ => ⟨h', dr', hw, hs _ _ hk⟩⟩⟩, ha⟩
theorem s_skf {o : Oper} {d : Option Tmp} (ho : c.ops[i]? = some o) (hd : o.dst = d) (hw : wants c o e = false) (hc : Chk bef C h) (hs : S c K t C (updO e d undef) h) (ha : S c K alt C e h) : S c K (.ef i bef t alt) C e h := by
 subst hd; exact ⟨⟨o, ho, .inr ⟨hw, hc, hs⟩⟩, ha⟩
theorem wants_yes {o : Oper} {g : Nat} {b x : Bool} {s : Tmp} (hg : o.guard = some (g, b)) (hs : (c.ops[g]?).bind (·.dst) = some s) (hn : Nat.blt s c.n = true) (he : e s = .bool x) (hx : x = b) : wants c o e = true := by
 unfold wants
 simp only [hg, hs, hn, cond_true, he, hx, beq_self_eq_true]
theorem wants_no {o : Oper} {g : Nat} {b x : Bool} {s : Tmp} (hg : o.guard = some (g, b)) (hs : (c.ops[g]?).bind (·.dst) = some s) (hn : Nat.blt s c.n = true) (he : e s = .bool x) (hx : x = !b) : wants c o e = false := by
 unfold wants
 simp only [hg, hs, hn, cond_true, he, hx]
 cases b <;> rfl
end steps
/-! ### Calls -/
section calls
variable {P : Program} {ρ : Operand → Value} {dst : Option Tmp} {ty : TypeId} {pos : String} {af : Array Edge} {gd : Option (Nat × Bool)} {r : World} {h : Heap} {dr : Nat}
theorem calls_uponV {f : FuncId} {args : List Value} {k : Value → Heap → Prop} (hc : CallsH P r f args h k) : uponV P (behind r k) (.ok (.enter f args.toArray) (wd r h dr)) :=
 (hc dr).mono fun x w ⟨v, h', dr', hx, hw, hk⟩ => by subst hx; exact ⟨h', dr', hw, hk⟩
/-- a call of a function by its name -/
theorem r_call {f : FuncId} {as : Array Operand} {ts : Array TypeId} {args : List Value} {k : Value → Heap → Prop} (hf : ∀ args w, (callFunc f args).run P w = .ok (.enter f args) w) (ha : as.toList.map ρ = args) (hp : ρ (.func f) = .func (.func f) #[] #[])
  (hc : CallsH P r f args h k) : uponV P (behind r k) ((execOp ρ ⟨dst, .call ⟨.value (.func f), as, ts⟩, ty, pos, af, gd⟩).run P (wd r h dr)) := by
 have e1 : (execOp ρ ⟨dst, .call ⟨.value (.func f), as, ts⟩, ty, pos, af, gd⟩).run P (wd r h dr) = .ok (.enter f args.toArray) (wd r h dr) := by
  have ha' : as.map ρ = args.toArray := by apply Array.toList_inj.1; simpa using ha
  simp [execOp, resolve, Deferred.ofValue, invoke, hp, ha', hf]
 rw [e1]; exact calls_uponV hc
theorem calls_uponP {f : FuncId} {args : List Value} {k pn : Value → Heap → Prop} (hc : CallsHP P r f args h k pn) : uponP P (behind r pn) (behind r k) (.ok (.enter f args.toArray) (wd r h dr)) :=
 (hc dr).mono fun x w hx => by
  cases x with
  | returned v => exact hx
  | panicked ch => obtain ⟨v, h', dr', hc, hw, hp⟩ := hx; exact ⟨v, hc, h', dr', hw, hp⟩
  | outgrown => exact hx.elim
/-- a call, by its name, of a function that may panic -/
theorem r_callP {f : FuncId} {as : Array Operand} {ts : Array TypeId} {args : List Value} {k pn : Value → Heap → Prop} (hf : ∀ args w, (callFunc f args).run P w = .ok (.enter f args) w) (ha : as.toList.map ρ = args) (hp : ρ (.func f) = .func (.func f) #[] #[])
  (hc : CallsHP P r f args h k pn) : uponP P (behind r pn) (behind r k) ((execOp ρ ⟨dst, .call ⟨.value (.func f), as, ts⟩, ty, pos, af, gd⟩).run P (wd r h dr)) := by
 have e1 : (execOp ρ ⟨dst, .call ⟨.value (.func f), as, ts⟩, ty, pos, af, gd⟩).run P (wd r h dr) = .ok (.enter f args.toArray) (wd r h dr) := by
  have ha' : as.map ρ = args.toArray := by apply Array.toList_inj.1; simpa using ha
  simp [execOp, resolve, Deferred.ofValue, invoke, hp, ha', hf]
 rw [e1]; exact calls_uponP hc
/-- the text's own panic -/
theorem r_panic {x : Operand} {t : TypeId} {v : Value} {pn k : Value → Heap → Prop} (hx : ρ x = .iface t v) (hp : pn (.iface t v) h) : uponP P (behind r pn) (behind r k) ((execOp ρ ⟨dst, .panic x, ty, pos, af, gd⟩).run P (wd r h dr)) := by
 have e1 : (execOp ρ ⟨dst, .panic x, ty, pos, af, gd⟩).run P (wd r h dr) = .halt (.panic (.iface t v)) (wd r h dr) := by
  simp only [execOp, hx]; rfl
 rw [e1]; exact ⟨h, dr, rfl, hp⟩
/-- a round of a loop over a function -/
def YieldH (P : Program) (r : World) (l : Nat) (args : List Value) (h : Heap) (R : Value → Heap → Prop) : Prop :=
 ∀ dr, ∃ rec : Loop, h[l]? = some (.loop rec) ∧ args.length = rec.params.size ∧
  RoundIn (FW .none) 0 P l rec.fn ((rec.params.zip args.toArray).foldl (fun tmps (t, a) => tmps.setIfInBounds t a) rec.tmps) rec.assign rec.body (wd r h dr) fun x w => ∃ v h' dr', x = .returned v ∧ w = wd r h' dr' ∧ R v h'
/-- a call of a function value -/
def CallV (P : Program) (r : World) (f : Value) (args : List Value) (h : Heap) (R : Value → Heap → Prop) : Prop :=
 (∃ g first cap, f = .func (.func g) first cap ∧ (∀ args w, (callFunc g args).run P w = .ok (.enter g args) w) ∧ CallsH P r g (first.toList ++ args ++ cap.toList) h R) ∨
 (∃ l, f = .func (.yield l) #[] #[] ∧ YieldH P r l args h R)
theorem CallV.mono {f : Value} {args : List Value} {R R' : Value → Heap → Prop} (hc : CallV P r f args h R) (hr : ∀ v h, R v h → R' v h) : CallV P r f args h R' := by
 rcases hc with ⟨g, fi, ca, hf, hg, hc⟩ | ⟨l, hf, hc⟩
 ·exact .inl ⟨g, fi, ca, hf, hg, hc.mono hr⟩
 ·refine .inr ⟨l, hf, fun dr => ?_⟩
  obtain ⟨rec, h1, h2, h3⟩ := hc dr
  exact ⟨rec, h1, h2, h3.mono fun _ _ ⟨v, h', dr', hx, hw, hR⟩ => ⟨v, h', dr', hx, hw, hr _ _ hR⟩⟩
theorem r_callV {f : Operand} {as : Array Operand} {ts : Array TypeId} {fv : Value} {args : List Value} {k : Value → Heap → Prop} (ha : as.toList.map ρ = args) (hp : ρ f = fv) (hc : CallV P r fv args h k) :
  uponV P (behind r k) ((execOp ρ ⟨dst, .call ⟨.value f, as, ts⟩, ty, pos, af, gd⟩).run P (wd r h dr)) := by
 have ha' : as.map ρ = args.toArray := by apply Array.toList_inj.1; simpa using ha
 rcases hc with ⟨g, fi, ca, rfl, hg, hc⟩ | ⟨l, rfl, hc⟩
 ·have e1 : (execOp ρ ⟨dst, .call ⟨.value f, as, ts⟩, ty, pos, af, gd⟩).run P (wd r h dr) = .ok (.enter g (fi.toList ++ args ++ ca.toList).toArray) (wd r h dr) := by
   simp [execOp, resolve, Deferred.ofValue, invoke, hp, ha', hg]
  rw [e1]; exact calls_uponV hc
 ·obtain ⟨rec, h1, h2, h3⟩ := hc dr
  have e0 : (Instr.getLoop l).run P (wd r h dr) = .ok rec (wd r h dr) := by
   have : (wd r h dr).heap[l]? = some (.loop rec) := h1
   simp [Instr.getLoop, getObj, Sem.run, this, Sem.run_bind]
  have e1 : (execOp ρ ⟨dst, .call ⟨.value f, as, ts⟩, ty, pos, af, gd⟩).run P (wd r h dr) = .ok (.round l rec.fn ((rec.params.zip args.toArray).foldl (fun tmps (t, a) => tmps.setIfInBounds t a) rec.tmps) rec.assign rec.body) (wd r h dr) := by
   simp [execOp, resolve, Deferred.ofValue, invoke, hp, ha', Instr.yield, e0, h2]
  rw [e1]
  exact h3.mono fun x w ⟨v, h', dr', hx, hw, hk⟩ => by subst hx; exact ⟨h', dr', hw, hk⟩
end calls
end Go.Tw
namespace Go.Tw
open Go Go.RowKit
structure Sl where
  a : Option Addr
  len : Nat
  cap : Nat
def Sl.v (s : Sl) : Value := .slice s.a s.len s.cap
def Sl.nil : Sl := ⟨none, 0, 0⟩
/-- the cells of the first n places of a slice, k values -/
def Holds (h : Heap) (a : Option Addr) (vs : List Value) : Prop := vs = [] ∨ ∃ b, a = some b ∧ CellsAt h b 0 vs
/-- append: there is room, or a new array -/
def App (el sz by' : Nat) (z : Value) (s x : Sl) (h : Heap) (K : Sl → Heap → Prop) : Prop :=
  ∃ news : List Value, news.length = x.len * sz ∧ Holds h x.a news ∧ (∀ v ∈ news, one v = true) ∧
    ((s.len + x.len ≤ s.cap ∧ (match s.a with
        | some b => StOk h (b.add (s.len * sz)) (x.len * sz) ∧ K ⟨s.a, s.len + x.len, s.cap⟩ (hsets h (b.add (s.len * sz)) 0 news)
        | none => K ⟨none, s.len + x.len, s.cap⟩ h)) ∨
     (s.cap < s.len + x.len ∧ (s.len + x.len) * by' ≤ 140737488355328 ∧ ∃ olds : List Value, olds.length = s.len * sz ∧ Holds h s.a olds ∧
        ∀ cap, s.len + x.len ≤ cap → cap ≤ maxLen → K ⟨some ⟨h.size, 0, none⟩, s.len + x.len, cap⟩ (h.push (.cells ((olds ++ news).toArray ++ Builtin.zeroCells z.cells (cap - (s.len + x.len))) el))))
section
variable {P : Program} {ρ : Operand → Value} {dst : Option Tmp} {ty : TypeId} {pos : String} {af : Array Edge} {gd : Option (Nat × Bool)} {r : World} {h : Heap} {dr : Nat}
theorem run_firstCells {sz n : Nat} {a : Option Addr} {l c : Nat} {vs : List Value} (hn : vs.length = n * sz) (hh : Holds h a vs) : (Builtin.firstCells sz n (.slice a l c)).run P (wd r h dr) = .ok vs.toArray (wd r h dr) := by
  rcases hh with rfl | ⟨b, rfl, hc⟩
  · cases a with
    | none => simp [Builtin.firstCells]
    | some a =>
      have h0 : n * sz = 0 := by simpa using hn.symm
      simp only [Builtin.firstCells, h0]
      exact run_loadCells (vs := []) rfl trivial
  · simp only [Builtin.firstCells]
    exact run_loadCells hn hc
theorem r_append {a b : Operand} {t : TypeId} {el sz by' : Nat} {z : Value} {s x : Sl} {K : Sl → Heap → Prop} {i : TypeInfo} (ht : P.underlying t = some (.slice el)) (hi : P.info? el = some i) (hsz : i.size = sz) (hby : i.bytes = by') (hzv : i.zero = some z) (h0 : 0 < by')
    (hs : ρ a = s.v) (hx : ρ b = x.v) (happ : App el sz by' z s x h K) :
    uponV P (behind r fun v h' => ∃ s' : Sl, v = s'.v ∧ K s' h') ((execOp ρ ⟨dst, .call ⟨.builtin .append, #[a, b], #[t, t]⟩, ty, pos, af, gd⟩).run P (wd r h dr)) := by
  obtain ⟨sa, sl, sc⟩ := s
  obtain ⟨xa, xl, xc⟩ := x
  obtain ⟨news, hnl, hnews, h1, hk⟩ := happ
  simp only [Sl.v] at hs hx hnl hnews hk
  have hfn := run_firstCells (P := P) (r := r) (dr := dr) (l := xl) (c := xc) (n := xl) hnl hnews
  have key : ∃ s' : Sl, ∃ h' dr', (Builtin.append_ #[t, t] ty #[.slice sa sl sc, .slice xa xl xc]).run P (wd r h dr) = .ok s'.v (wd r h' dr') ∧ K s' h' := by
    rcases hk with ⟨hroom, hk⟩ | ⟨hno, hfit, olds, hol, holds, hk⟩
    · cases sa with
      | none =>
        refine ⟨_, h, dr, ?_, hk⟩
        simp [Builtin.append_, run_underlying ht, sizeOf, typeInfo, hi, hsz, Builtin.lenOf, hroom, hfn, Sl.v]
      | some b =>
        obtain ⟨hok, hk⟩ := hk
        refine ⟨_, _, dr, ?_, hk⟩
        have hst := run_storeCells (P := P) (r := r) (dr := dr) (p := b.add (sl * sz)) news 0 h h1 (fun j _ hj => hok j (by omega))
        simp [Builtin.append_, run_underlying ht, sizeOf, typeInfo, hi, hsz, Builtin.lenOf, hroom, hfn, hst, Sl.v]
    · have hnr : ¬ sl + xl ≤ sc := by omega
      have hfo : (Builtin.firstCells sz sl (.slice sa sl sc)).run P (wd r h dr).drew = .ok olds.toArray (wd r h dr).drew := run_firstCells (P := P) (r := r) (h := h) (dr := dr + 1) hol holds
      have hfn' : (Builtin.firstCells sz xl (.slice xa xl xc)).run P (wd r h dr).drew = .ok news.toArray (wd r h dr).drew := run_firstCells (P := P) (r := r) (h := h) (dr := dr + 1) hnl hnews
      have hm : sl + xl ≤ 140737488355328 := by
        have : (sl + xl) * 1 ≤ (sl + xl) * by' := Nat.mul_le_mul_left _ h0
        omega
      have h48' : ¬ (281474976710656 < Builtin.nextslicecap (sl + xl) sc * by') := by have := growslice_fits hno hfit; omega
      have h63' : ¬ (9223372036854775807 < ((sl : Int) + (xl : Int))) := by omega
      have hge := grownCap_ge (wd r h dr) (sl + xl) sc el
      have hle : grownCap (wd r h dr) (sl + xl) sc el ≤ maxLen := grownCap_le_maxLen _ _ _ _ (by simp only [maxLen]; omega)
      refine ⟨_, _, dr + 1, ?_, hk _ hge hle⟩
      have e : (Builtin.append_ #[t, t] ty #[.slice sa sl sc, .slice xa xl xc]).run P (wd r h dr) = .ok (.slice (some ⟨h.size, 0, none⟩) (sl + xl) (grownCap (wd r h dr) (sl + xl) sc el))
          ((wd r h dr).drew.alloc (.cells ((olds ++ news).toArray ++ Builtin.zeroCells z.cells (grownCap (wd r h dr) (sl + xl) sc el - (sl + xl))) el)) := by
        have hws : (wd r h dr).heap.size = h.size := rfl
        simp [Builtin.append_, run_underlying ht, sizeOf, typeInfo, zeroValue, hi, hzv, hsz, hby, Builtin.lenOf, hnr, h63', h48', Question.forced, hfn', hfo, newRow, grownCap, hws]
        congr 2
        apply Array.ext'
        simp [List.append_assoc]
      exact e
  obtain ⟨s', h', dr', hr, hk'⟩ := key
  have e1 : (execOp ρ ⟨dst, .call ⟨.builtin .append, #[a, b], #[t, t]⟩, ty, pos, af, gd⟩).run P (wd r h dr) = .ok (.value s'.v) (wd r h' dr') := by
    unfold execOp
    simp only [resolve, invoke, builtin, Sem.run_bind, Sem.run_pure, Result.andThen_ok, List.map_toArray, List.map_cons, List.map_nil, hs, hx, hr]
  rw [e1]
  exact ⟨h', dr', rfl, s', rfl, hk'⟩
end
end Go.Tw
namespace Go.Tw
open Go Go.RowKit
/-- a call of a function that is one of the program's -/
def CallF (P : Program) (r : World) (f : Value) (args : List Value) (h : Heap) (R : Value → Heap → Prop) : Prop :=
 ∃ g first cap, f = .func (.func g) first cap ∧ (∀ args w, (callFunc g args).run P w = .ok (.enter g args) w) ∧ CallsH P r g (first.toList ++ args ++ cap.toList) h R
/-- the loop's record as it is while no round runs -/
def ready (fn : FuncId) (tmps : Array Value) (ps : Array Tmp) (assign body : Code) (D : Nat) : Obj := .loop { state := .ready, pending := none, fn, tmps, params := ps, assign, body, defers := D }
theorem act_set (n : Nat) (e : Env) (d d' : List Deferred) (t : Nat) (v : Value) : (act n e d).tmps.setIfInBounds t v = (act n (upd e t v) d').tmps := by
 apply Array.ext_getElem?
 intro s
 rw [act_get, Array.getElem?_setIfInBounds, act_get]
 have hz : (act n e d).tmps.size = n := by simp [act]
 by_cases hs : t = s
 ·subst hs
  rw [if_pos rfl, hz, upd_same]
 ·rw [if_neg hs, upd_ne _ _ (fun q => hs q.symm)]
/-- a record, not a row of cells -/
def notCells : Obj → Bool
 | .cells _ _ _ => false
 | _ => true
def busyO : Obj → Obj
 | .loop r => .loop { r with state := .busy }
 | o => o
theorem notCells_busy {o : Obj} (h : notCells o = true) : notCells (busyO o) = true := by cases o <;> first | exact h | rfl
theorem CallF.mono {P : Program} {r : World} {f : Value} {args : List Value} {h : Heap} {R R' : Value → Heap → Prop} (hc : CallF P r f args h R) (hr : ∀ v h, R v h → R' v h) : CallF P r f args h R' := by
 obtain ⟨g, fi, ca, hf, hg, hc⟩ := hc
 exact ⟨g, fi, ca, hf, hg, hc.mono hr⟩
/-- the arguments of a round, in the frame that the loop found -/
def args_in (e : Env) : List (Nat × Value) → Env
 | [] => e
 | (t, v) :: l => args_in (upd e t v) l
theorem foldl_args (n : Nat) : ∀ (l : List (Nat × Value)) (e : Env) (d : List Deferred), (l.foldl (fun tmps (t, a) => tmps.setIfInBounds t a) (act n e d).tmps) = (act n (args_in e l) []).tmps
 | [], e, d => rfl
 | (t, v) :: l, e, d => by
  show List.foldl _ ((act n e d).tmps.setIfInBounds t v) l = _
  rw [act_set n e d [] t v]
  exact foldl_args n l _ []
section
variable {P : Program} {r : World} {n : Nat} {h : Heap}
/-- one round -/
theorem round_of {fn : FuncId} {e0 : Env} {d0 : List Deferred} {ps : Array Tmp} {assign body : Code} {D L : Nat} {args : List Value} {R : Value → Heap → Prop} {o : Obj} (ho : o = ready fn (act n e0 d0).tmps ps assign body D) (hL : h[L]? = some o) (hn : args.length = ps.size)
  (hw : W ⟨P, r, some L, n, none, noPan⟩ [] assign (fun d1 e1 h1 => h1 = h ∧ W ⟨P, r, some L, n, none, noPan⟩ d1 body (fun _ _ h2 => h2[L]? = some (busyO o) ∧ R (.bool true) (hput h2 L o)) (fun _ _ _ _ => False) (fun _ _ _ => False) e1 (hput h L (busyO o)))
   (fun _ _ _ _ => False) (fun _ _ _ => False) (args_in e0 (ps.toList.zip args)) h) : YieldH P r L args h R := by
 subst ho
 intro dr
 refine ⟨_, hL, hn, ?_⟩
 have ez : (ps.zip args.toArray).foldl (fun tmps (t, a) => tmps.setIfInBounds t a) (act n e0 d0).tmps = (act n (args_in e0 (ps.toList.zip args)) []).tmps := by
  rw [← foldl_args n _ e0 d0, ← Array.foldl_toList, Array.toList_zip]
 dsimp only
 rw [ez]
 refine roundIn_of_wpIn (F := FW .none) trivial ?_
 refine wpIn_mono (hw dr) fun x a w hq => ?_
 cases x with
 | normal =>
  obtain ⟨d1, e1, h1, dr1, rfl, rfl, rfl, hb⟩ := hq
  refine ⟨_, run_beginRound (w := wd r h1 dr1) hL rfl, ?_⟩
  refine wpIn_mono (hb dr1) fun x a w hq => ?_
  cases x with
  | normal =>
   obtain ⟨d2, e2, h2, dr2, rfl, rfl, h3, hR⟩ := hq
   exact ⟨_, _, run_endRound none (w := wd r h2 dr2) h3, _, _, _, rfl, rfl, hR⟩
  | exit i => obtain ⟨_, _, _, _, _, _, hf⟩ := hq; exact hf.elim
  | ret => obtain ⟨_, _, _, _, _, _, hf⟩ := hq; exact hf.elim
  | panic ch => obtain ⟨_, _, _, _, _, _, _, _, hf⟩ := hq; exact hf.elim
  | _ => exact hq.elim
 | exit i => obtain ⟨_, _, _, _, _, _, hf⟩ := hq; exact hf.elim
 | ret => obtain ⟨_, _, _, _, _, _, hf⟩ := hq; exact hf.elim
 | panic ch => obtain ⟨_, _, _, _, _, _, _, _, hf⟩ := hq; exact hf.elim
 | _ => exact hq.elim
theorem W_rangeFunc {kp : Option Nat} {pan : List Deferred → Value → Value → Heap → Prop} {e : Env} {d : List Deferred} {N : DPost} {X : Nat → DPost} {R : DPost} {g : Operand} {ps : Array Tmp} {assign body : Code} {fv : Value} (hg : ev n e g = fv)
  (H : ∀ (fn : FuncId) (o : Obj), o = ready fn (act n e d).tmps ps assign body h.size →
   CallF P r fv [.func (.yield (h.size + 1)) #[] #[]] ((h.push (.deferred (some []))).push o) fun _ h5 => h5[h.size + 1]? = some o ∧ ∀ o', N (⟨.collected h.size, #[]⟩ :: d) e (hput h5 (h.size + 1) o')) :
  W ⟨P, r, .none, n, kp, pan⟩ d (.rangeFunc g ps assign body) N X R e h := by
 intro dr
 have key : ∀ fn : FuncId, (FW .none).fn fn → ∃ (l : Nat) (mark : List Deferred) (w₁ : World) (d' : Deferred) (w₁' : World) (f : FuncId) (args : Array Value) (w₂ : World),
   (Instr.enterLoop fn (act n e d).tmps ps assign body (FW .none).round).run P (wd r h dr) = .ok (l, mark) w₁ ∧
   (resolve (act n e d).eval (rangeCall g l) 0).run P w₁ = .ok d' w₁' ∧
   (∀ f', Target.leads P w₁' d'.target d'.args = some f' → (FW .none).fn f') ∧
   (invoke d'.target d'.args).run P w₁' = .ok (.enter f args) w₂ ∧
   ((FW .none).depth.isSome = true → 1 ≤ 0) ∧
   CallsIn (FW .none) (0 - 1) P f args w₂ (rangePost (FW .none) 0 P l (mkQ n r kp pan N X R) { act n e d with defers := mark ++ (act n e d).defers }) := by
  intro fn _
  obtain ⟨f, first, cap, hf, hcall, hc⟩ := H fn _ rfl
  subst hf
  generalize ho : ready fn (act n e d).tmps ps assign body h.size = o at hc
  have e0 : (Instr.enterLoop fn (act n e d).tmps ps assign body (FW .none).round).run P (wd r h dr) = .ok (h.size + 1, [{ target := .collected h.size, args := #[] }]) (wd r ((h.push (.deferred (some []))).push o) dr) := by
   rw [← ho]; exact run_enterLoop_outer fn _ ps assign body
  generalize (h.push (.deferred (some []))).push o = h1 at hc e0
  have e1 : (resolve (act n e d).eval (rangeCall g (h.size + 1)) 0).run P (wd r h1 dr) = .ok ⟨.fn (.func f) cap, first ++ #[.func (.yield (h.size + 1)) #[] #[]]⟩ (wd r h1 dr) := by
   have hg' : (act n e d).eval g = .func (.func f) first cap := by rw [act_eval]; exact hg
   have hy : (act n e d).eval (.const (.func (.yield (h.size + 1)) #[] #[])) = .func (.yield (h.size + 1)) #[] #[] := rfl
   simp [resolve, Deferred.ofValue, hg', hy]
  have ea : (first.toList ++ [Value.func (.yield (h.size + 1)) #[] #[]] ++ cap.toList).toArray = first ++ #[Value.func (.yield (h.size + 1)) #[] #[]] ++ cap := by
   apply Array.toList_inj.1; simp
  refine ⟨h.size + 1, _, _, _, _, f, _, _, e0, e1, fun _ _ => trivial, ?_, fun hd => by simp [Fence.wide] at hd, callsFW (Calls.mono (hc dr) ?_)⟩
  ·rw [ea]
   simp [invoke, hcall]
  ·intro x w hx
   obtain ⟨v, h5, dr5, rfl, rfl, h6, hN⟩ := hx
   have e2 := run_endLoop (P := P) (w := wd r h5 dr5) (l := h.size + 1) (r := { state := .ready, pending := .none, fn, tmps := (act n e d).tmps, params := ps, assign, body, defers := h.size }) (by rw [← ho] at h6; exact h6) (by simp)
   exact ⟨.none, _, e2, _, _, _, _, rfl, rfl, hN _⟩
 exact wpIn_rangeFunc key
end
end Go.Tw
namespace Go.Tw
open Go Go.RowKit
/-- what a whole number of 64 signed bits keeps -/
abbrev w64 (n : Int) : Int := IntKind.wrap .i64 n
theorem w64_of {n : Int} (h0 : -9223372036854775808 ≤ n) (h1 : n < 9223372036854775808) : w64 n = n := by
 rw [w64, IntKind.wrap_i64]; omega
abbrev LdN (k : IntKind) (h : Heap) (p : Addr) (K : Int → Prop) : Prop := ∃ x, hcell h p = some (.int k x) ∧ K x
abbrev LdI (h : Heap) (p : Addr) (K : Int → Prop) : Prop := ∃ x, hcell h p = some (.int .i64 x) ∧ K x
abbrev LdB (h : Heap) (p : Addr) (K : Bool → Prop) : Prop := ∃ x, hcell h p = some (.bool x) ∧ K x
abbrev LdT (h : Heap) (p : Addr) (K : ByteArray → Prop) : Prop := ∃ x, hcell h p = some (.string x) ∧ K x
abbrev LdS (h : Heap) (p : Addr) (K : Sl → Prop) : Prop := ∃ x : Sl, hcell h p = some x.v ∧ K x
abbrev LdP (h : Heap) (p : Addr) (K : Option Addr → Prop) : Prop := ∃ x, hcell h p = some (.pointer x) ∧ K x
abbrev LdM (h : Heap) (p : Addr) (K : Option Nat → Prop) : Prop := ∃ x, hcell h p = some (.map x) ∧ K x
abbrev LdV (h : Heap) (p : Addr) (K : Value → Prop) : Prop := ∃ x, hcell h p = some x ∧ K x
abbrev Ck (a : Option Addr) (K : Addr → Prop) : Prop := ∃ p, a = some p ∧ K p
abbrev Ix (s : Sl) (i : Int) (sz : Nat) (K : Addr → Prop) : Prop := ∃ p, s.a = some p ∧ 0 ≤ i ∧ i < s.len ∧ K (p.add (i.toNat * sz))
abbrev Br (b : Bool) (A B : Prop) : Prop := (b = true → A) ∧ (b = false → B)
abbrev New (h : Heap) (o : Obj) (K : Addr → Heap → Prop) : Prop := ∀ p h', p = ⟨h.size, 0, none⟩ → h' = h.push o → K p h'
abbrev St (h : Heap) (p : Addr) (n : Nat) (vs : List Value) (K : Heap → Prop) : Prop := StOk h p n ∧ ∀ h', h' = hsets h p 0 vs → K h'
/-- s[lo:hi], s[lo:hi:mx] -/
abbrev Sub (s : Sl) (lo hi mx : Int) (sz : Nat) (K : Sl → Prop) : Prop :=
 0 ≤ lo ∧ lo ≤ hi ∧ hi ≤ mx ∧ mx ≤ s.cap ∧ ∀ t : Sl, t = ⟨sliceA s.a mx.toNat lo.toNat sz, hi.toNat - lo.toNat, mx.toNat - lo.toNat⟩ → K t
/-- a byte of a string -/
def strAt (s : ByteArray) (i : Int) : Int := ((s.data[i.toNat]?.getD 0).toNat : Int)
section
variable {P : Program} {ρ : Operand → Value} {dst : Option Tmp} {ty : TypeId} {pos : String} {af : Array Edge} {gd : Option (Nat × Bool)}
theorem r_indexStr {t : TypeId} {x y : Operand} {s : ByteArray} {k : IntKind} {i : Int} (ht : P.underlying t = some .string) (hx : ρ x = .string s) (hy : ρ y = .int k i) (h0 : 0 ≤ i) (h1 : i < s.size) (w : World) :
  (execOp ρ ⟨dst, .index t x y, ty, pos, af, gd⟩).run P w = .ok (.value (.int .u8 (strAt s i))) w := by
 have h2 : i.toNat < s.size := by omega
 have e1 : s[i.toNat]? = some (s.data[i.toNat]'h2) := getElem?_pos s i.toNat h2
 have e2 : s.data[i.toNat]? = some (s.data[i.toNat]'h2) := Array.getElem?_eq_getElem h2
 simp [execOp, go_sem, Instr.index, asIntOf, run_underlying ht, hx, hy, h0, e1, strAt, e2]
end
/-- what is asked of a slice type -/
structure SlF (P : Program) (t el sz by' : Nat) (z : Value) : Prop where
 ty : P.underlying t = some (.slice el)
 info : ∃ i, P.info? el = some i ∧ i.size = sz ∧ i.bytes = by' ∧ i.zero = some z
 pos : Nat.blt 0 by' = true
 size : ∀ w, (sizeOf el).run P w = .ok sz w
 zero : ∀ w, (zeroValue el).run P w = .ok z w
section
variable {P : Program} {ρ : Operand → Value} {dst : Option Tmp} {ty : TypeId} {pos : String} {af : Array Edge} {gd : Option (Nat × Bool)} {r : World} {h : Heap} {dr : Nat}
theorem SlF.append {a b : Operand} {t el sz by' : Nat} {z : Value} {s x : Sl} {K : Sl → Heap → Prop} (F : SlF P t el sz by' z) (hs : ρ a = s.v) (hx : ρ b = x.v) (happ : App el sz by' z s x h K) :
  uponV P (behind r fun v h' => ∃ s' : Sl, v = s'.v ∧ K s' h') ((execOp ρ ⟨dst, .call ⟨.builtin .append, #[a, b], #[t, t]⟩, ty, pos, af, gd⟩).run P (wd r h dr)) := by
 obtain ⟨i, hi, h1, h2, h3⟩ := F.info
 exact r_append F.ty hi h1 h2 h3 (by simpa [Nat.blt_eq] using F.pos) hs hx happ
/-- make([]T, n) -/
abbrev MkS (el sz by' : Nat) (z : Value) (n : Int) (h : Heap) (K : Sl → Heap → Prop) : Prop :=
 0 ≤ n ∧ n < 9223372036854775808 ∧ by' * n ≤ 281474976710656 ∧ ∀ s h', s = (⟨some ⟨h.size, 0, none⟩, n.toNat, n.toNat⟩ : Sl) → h' = h.push (.cells ((Array.range (n.toNat * sz)).map ((if n.toNat * sz = 0 then #[] else z.cells)[· % (if n.toNat * sz = 0 then #[] else z.cells).size]!)) el) → K s h'
theorem SlF.make {a b : Operand} {t el sz by' : Nat} {z : Value} {n : Int} (F : SlF P t el sz by' z) (ha : ρ a = .int .i64 n) (hb : ρ b = .int .i64 n) (h0 : 0 ≤ n) (h63 : n < 9223372036854775808) (h48 : by' * n ≤ 281474976710656) :
  (execOp ρ ⟨dst, .makeSlice t a b, ty, pos, af, gd⟩).run P (wd r h dr) = .ok (.value (.slice (some ⟨h.size, 0, none⟩) n.toNat n.toNat)) (wd r (h.push (.cells ((Array.range (n.toNat * sz)).map ((if n.toNat * sz = 0 then #[] else z.cells)[· % (if n.toNat * sz = 0 then #[] else z.cells).size]!)) el)) dr) := by
 obtain ⟨i, hi, h1, h2, h3⟩ := F.info
 unfold execOp
 simp only [ha, hb, Sem.run_bind, run_makeSlice (r := r) (h := h) (dr := dr) F.ty F.size F.zero (fun w => ⟨i, by simp [typeInfo, hi], h2⟩) h0 h63 h48, Result.andThen_ok, Sem.run_pure]
theorem SlF.build {t n : Nat} {parts : Array (Nat × Operand)} {el sz by' : Nat} {z : Value} {cells : Array Value} (F : SlF P t el sz by' z) (hlen : decide (n * sz ≤ 16777216) = true) (hne : (n * sz).beq 0 = false)
  (hf : Instr.fill (fun i => some (i * sz, sz)) ((Array.range (n * sz)).map (z.cells[· % z.cells.size]!)) (parts.map fun (i, x) => (i, ρ x)).toList = some cells) :
  (execOp ρ ⟨dst, .buildSlice t n parts, ty, pos, af, gd⟩).run P (wd r h dr) = .ok (.value (.slice (some ⟨h.size, 0, none⟩) n n)) (wd r (h.push (.cells cells el)) dr) := r_buildSlice F.ty F.size F.zero hlen hne hf
end
theorem one_all {l : List Value} (h : l.all one = true) : ∀ u ∈ l, one u = true := fun u hu => List.all_eq_true.1 h u hu
section
variable {c : Cx} {K : Post} {t alt : Tr} {C : Held} {e : Env} {h : Heap} {i : Nat} {bef : List Nat} {l : List (Nat × Value)}
/-- next ones, each in its own way -/
theorem s_or (h1 : S c K (.ef i bef t .no) C e h) (h2 : S c K alt C e h) : S c K (.ef i bef t alt) C e h := ⟨h1.1, h2⟩
def dropT : Nat → Tr → Tr
 | 0, t => t
 | n + 1, .pu _ t | n + 1, .rd _ t | n + 1, .rl _ t | n + 1, .ef _ _ t _ => dropT n t
 | _ + 1, t => t
/-- two ways through some operations meet behind them -/
theorem S_meet {i : Nat} (h1 : ∀ b, S c K (dropT i t) C (mkE l b) h) (h2 : (∀ b, S c K (dropT i t) C (mkE l b) h) → S c K t C e h) : S c K t C e h := h2 h1
end
end Go.Tw
namespace Go.Tw
open Go Go.RowKit
abbrev ad (b o : Nat) : Addr := ⟨b, o, none⟩
theorem ad_add (b o n : Nat) : Addr.add (ad b o) n = ad b (o + n) := by
 unfold Addr.add
 by_cases h : n = 0 <;> simp [h]
/-- block b has the cells cs; none is frozen -/
def Blk (h : Heap) (b : Nat) (cs : List Value) : Prop := ∃ el, h[b]? = some (.cells cs.toArray el (0, 0))
theorem Blk.lt {h : Heap} {b : Nat} {cs : List Value} (H : Blk h b cs) : b < h.size := by
 obtain ⟨el, H⟩ := H
 exact (Array.getElem?_eq_some_iff.1 H).1
theorem Blk.cell {h : Heap} {b : Nat} {cs : List Value} (H : Blk h b cs) (o : Nat) : hcell h (ad b o) = cs[o]? := by
 obtain ⟨el, H⟩ := H
 unfold hcell
 rw [H]
 simp
theorem Blk.cell' {h : Heap} {b o : Nat} {cs : List Value} {v : Value} (H : Blk h b cs) (hv : cs[o]? = some v) : hcell h (ad b o) = some v := (H.cell o).trans hv
theorem Blk.froz {h : Heap} {b : Nat} {cs : List Value} (H : Blk h b cs) (o : Nat) : hfroz h (ad b o) = false := by
 obtain ⟨el, H⟩ := H
 unfold hfroz
 rw [H]
 simp
theorem Blk.of_eq {h h' : Heap} {b : Nat} {cs : List Value} (H : Blk h b cs) (e : h'[b]? = h[b]?) : Blk h' b cs := by
 obtain ⟨el, H⟩ := H; exact ⟨el, e.trans H⟩
theorem push_old {h : Heap} {x : Obj} {b : Nat} (hb : b < h.size) : (h.push x)[b]? = h[b]? := by
 rw [Array.getElem?_push, if_neg (by omega)]
theorem Blk.push {h : Heap} {b : Nat} {cs : List Value} {x : Obj} (H : Blk h b cs) : Blk (h.push x) b cs := H.of_eq (push_old H.lt)
theorem Blk.new {h : Heap} {cs : List Value} {el : TypeId} : Blk (h.push (.cells cs.toArray el)) h.size cs := ⟨el, by simp⟩
theorem Blk.stok {h : Heap} {b o k : Nat} {cs : List Value} (H : Blk h b cs) (hk : o + k ≤ cs.length) : StOk h (ad b o) k := fun j hj => by
 rw [ad_add]
 exact ⟨⟨cs[o + j]'(by omega), by rw [H.cell]; exact List.getElem?_eq_getElem (by omega)⟩, H.froz _⟩
theorem hset_size (h : Heap) (a : Addr) (v : Value) : (hset h a v).size = h.size := by unfold hset; simp
theorem hset_other {h : Heap} {a : Addr} {v : Value} {b : Nat} (hb : a.block ≠ b) : (hset h a v)[b]? = h[b]? := by
 unfold hset; rw [Array.getElem?_modify, if_neg hb]
theorem Blk.set {h : Heap} {b o : Nat} {cs : List Value} {v : Value} (H : Blk h b cs) : Blk (hset h (ad b o) v) b (cs.set o v) := by
 obtain ⟨el, H⟩ := H
 refine ⟨el, ?_⟩
 unfold hset
 rw [Array.getElem?_modify, if_pos rfl, H]
 simp
theorem Blk.set_ne {h : Heap} {a : Addr} {b : Nat} {cs : List Value} {v : Value} (H : Blk h b cs) (hb : a.block ≠ b) : Blk (hset h a v) b cs := H.of_eq (hset_other hb)
/-- ys in the place of as many, from k on -/
def splice (cs : List Value) (k : Nat) (ys : List Value) : List Value := cs.take k ++ ys ++ cs.drop (k + ys.length)
theorem splice_set (cs : List Value) (k : Nat) (v : Value) (ys : List Value) (hk : k < cs.length) : splice (cs.set k v) (k + 1) ys = splice cs k (v :: ys) := by
 unfold splice
 rw [List.take_add_one]
 simp only [List.getElem?_set_self hk, Option.toList_some, List.length_cons]
 rw [List.take_set_of_le (by omega), List.drop_set_of_lt (by omega)]
 simp
 congr 1; omega
theorem hsets_size : ∀ (ys : List Value) (h : Heap) (p : Addr) (i : Nat), (hsets h p i ys).size = h.size
 | [], _, _, _ => rfl
 | v :: ys, h, p, i => by rw [hsets, hsets_size ys, hset_size]
theorem Addr.add_block (p : Addr) (n : Nat) : (p.add n).block = p.block := by unfold Addr.add; split <;> rfl
theorem hsets_other {b : Nat} : ∀ (ys : List Value) (h : Heap) (p : Addr) (i : Nat), p.block ≠ b → (hsets h p i ys)[b]? = h[b]?
 | [], _, _, _, _ => rfl
 | v :: ys, h, p, i, hb => by rw [hsets, hsets_other ys _ _ _ hb, hset_other (by rw [Addr.add_block]; exact hb)]
theorem Blk.sets {b o : Nat} : ∀ (ys : List Value) (h : Heap) (i : Nat) (cs : List Value), Blk h b cs → o + i + ys.length ≤ cs.length → Blk (hsets h (ad b o) i ys) b (splice cs (o + i) ys)
 | [], h, i, cs, H, hl => by simpa [hsets, splice] using H
 | v :: ys, h, i, cs, H, hl => by
  simp only [List.length_cons] at hl
  rw [hsets, ad_add, ← splice_set _ _ _ _ (by omega)]
  have := Blk.sets (o := o) ys (hset h (ad b (o + i)) v) (i + 1) (cs.set (o + i) v) H.set (by simp; omega)
  simpa [Nat.add_assoc] using this
/-! ### What stays -/
def Ext (n : Nat) (h h' : Heap) : Prop := h.size ≤ h'.size ∧ ∀ b, b < n → h'[b]? = h[b]?
theorem Ext.refl (n : Nat) (h : Heap) : Ext n h h := ⟨Nat.le_refl _, fun _ _ => rfl⟩
theorem Ext.trans {n : Nat} {h1 h2 h3 : Heap} (A : Ext n h1 h2) (B : Ext n h2 h3) : Ext n h1 h3 := ⟨Nat.le_trans A.1 B.1, fun b hb => (B.2 b hb).trans (A.2 b hb)⟩
theorem Ext.mono {n m : Nat} {h1 h2 : Heap} (A : Ext n h1 h2) (hm : m ≤ n) : Ext m h1 h2 := ⟨A.1, fun b hb => A.2 b (by omega)⟩
theorem Ext.push {n : Nat} {h : Heap} {x : Obj} (hn : n ≤ h.size) : Ext n h (h.push x) := ⟨by simp, fun b hb => push_old (by omega)⟩
theorem Ext.set {n : Nat} {h : Heap} {a : Addr} {v : Value} (hn : n ≤ a.block) : Ext n h (hset h a v) := ⟨by rw [hset_size]; exact Nat.le_refl _, fun b hb => hset_other (by omega)⟩
theorem Ext.sets {n : Nat} {h : Heap} {a : Addr} {i : Nat} {vs : List Value} (hn : n ≤ a.block) : Ext n h (hsets h a i vs) := ⟨by rw [hsets_size]; exact Nat.le_refl _, fun b hb => hsets_other _ _ _ _ (by omega)⟩
theorem Ext.blk {n : Nat} {h h' : Heap} {b : Nat} {cs : List Value} (E : Ext n h h') (H : Blk h b cs) (hb : b < n) : Blk h' b cs := H.of_eq (E.2 b hb)
theorem hcell_of_eq {h h' : Heap} {p : Addr} (e : h'[p.block]? = h[p.block]?) : hcell h' p = hcell h p := by unfold hcell; rw [e]
theorem Ext.cell {n : Nat} {h h' : Heap} {p : Addr} (E : Ext n h h') (hb : p.block < n) : hcell h' p = hcell h p := hcell_of_eq (E.2 _ hb)
theorem hcell_lt {h : Heap} {p : Addr} {v : Value} (H : hcell h p = some v) : p.block < h.size := by
 unfold hcell at H
 cases ho : h[p.block]? with
 | none => rw [ho] at H; cases H
 | some o => exact (Array.getElem?_eq_some_iff.1 ho).1
/-! ### Slices that are read -/
/-- the cells of the first places of a slice; all lie ahead of block n -/
structure Rs (n sz : Nat) (h : Heap) (s : Sl) (vs : List Value) : Prop where
 len : s.len * sz = vs.length
 cap : s.len ≤ s.cap
 at_ : vs = [] ∨ ∃ b o, s.a = some (ad b o) ∧ b < n ∧ ∀ i, i < vs.length → hcell h (ad b (o + i)) = vs[i]?
theorem Rs.mono {n m sz : Nat} {h : Heap} {s : Sl} {vs : List Value} (H : Rs n sz h s vs) (hm : n ≤ m) : Rs m sz h s vs :=
 ⟨H.len, H.cap, H.at_.imp id fun ⟨b, o, h1, h2, h3⟩ => ⟨b, o, h1, by omega, h3⟩⟩
theorem Rs.ext {n m sz : Nat} {h h' : Heap} {s : Sl} {vs : List Value} (H : Rs n sz h s vs) (E : Ext m h h') (hm : n ≤ m) : Rs n sz h' s vs :=
 ⟨H.len, H.cap, H.at_.imp id fun ⟨b, o, h1, h2, h3⟩ => ⟨b, o, h1, h2, fun i hi => by rw [E.cell (by simp; omega)]; exact h3 i hi⟩⟩
theorem Rs.holds {n sz : Nat} {h : Heap} {s : Sl} {vs : List Value} (H : Rs n sz h s vs) : Holds h s.a vs := by
 rcases H.at_ with rfl | ⟨b, o, h1, _, h3⟩
 ·exact .inl rfl
 ·refine .inr ⟨_, h1, ?_⟩
  have : ∀ (ws : List Value) (k : Nat), (∀ i, i < ws.length → hcell h (ad b (o + (k + i))) = ws[i]?) → CellsAt h (ad b o) k ws := by
   intro ws
   induction ws with
   | nil => intro k _; trivial
   | cons w ws ih =>
    intro k hk
    refine ⟨?_, ih (k + 1) fun i hi => ?_⟩
    ·rw [ad_add]; simpa using hk 0 (by simp)
    ·have := hk (i + 1) (by simpa using hi)
     rw [show k + 1 + i = k + (i + 1) by omega, this]; simp
  exact this vs 0 (by simpa using h3)
theorem Rs.ix {n sz : Nat} {h : Heap} {s : Sl} {vs : List Value} {i : Int} {K : Addr → Prop} (H : Rs n sz h s vs) (h0 : 0 ≤ i) (h1 : i < s.len) (hz : 0 < sz)
  (hK : ∀ b o, b < n → s.a = some (ad b o) → (∀ j, j < sz → hcell h (ad b (o + i.toNat * sz + j)) = vs[i.toNat * sz + j]?) → K (ad b (o + i.toNat * sz))) : Ix s i sz K := by
 have hl : i.toNat * sz + sz ≤ vs.length := by
  rw [← H.len, ← Nat.succ_mul]; exact Nat.mul_le_mul_right _ (by omega)
 rcases H.at_ with e | ⟨b, o, e1, e2, e3⟩
 ·rw [e] at hl; simp at hl; omega
 ·refine ⟨_, e1, h0, h1, ?_⟩
  rw [ad_add]
  exact hK b o e2 e1 fun j hj => by rw [Nat.add_assoc]; exact e3 _ (by omega)
/-- a slice of whole numbers -/
abbrev iV (x : Int) : Value := .int .i64 x
abbrev RI (n : Nat) (h : Heap) (s : Sl) (l : List Int) : Prop := Rs n 1 h s (l.map iV)
theorem RI.len {n : Nat} {h : Heap} {s : Sl} {l : List Int} (H : RI n h s l) : s.len = l.length := by simpa using Rs.len H
theorem RI.ix {n : Nat} {h : Heap} {s : Sl} {l : List Int} {i : Int} {K : Addr → Prop} (H : RI n h s l) (h0 : 0 ≤ i) (h1 : i < l.length)
  (hK : ∀ p : Addr, p.block < n → hcell h p = some (iV (l[i.toNat]!)) → K p) : Ix s i 1 K := by
 refine Rs.ix H h0 (by rw [H.len]; exact h1) (by decide) fun b o hb _ hc => hK _ hb ?_
 have hi : i.toNat < l.length := by omega
 have := hc 0 (by decide)
 simp only [Nat.add_zero, Nat.mul_one] at this ⊢
 rw [this, List.getElem?_map, List.getElem?_eq_getElem hi]
 simp [hi]
theorem RI.of_blk {n b : Nat} {h : Heap} {l : List Int} {cs : List Value} {c : Nat} (H : Blk h b cs) (hb : b < n) (hp : l.map iV <+: cs) (hc : l.length ≤ c) : RI n h ⟨some (ad b 0), l.length, c⟩ l := by
 refine ⟨by simp, hc, .inr ⟨b, 0, rfl, hb, fun i hi => ?_⟩⟩
 rw [H.cell, Nat.zero_add]
 obtain ⟨t, rfl⟩ := hp
 rw [List.getElem?_append_left hi]
theorem RI.nil (n : Nat) (h : Heap) : RI n h Sl.nil [] := ⟨rfl, Nat.le_refl _, .inl rfl⟩
/-! ### Slices that are grown -/
/-- none yet, or a block of its own, from n on -/
structure Own (n sz : Nat) (h : Heap) (s : Sl) (vs : List Value) : Prop where
 len : s.len * sz = vs.length
 cap : s.len ≤ s.cap
 at_ : (s.a = none ∧ s.cap = 0) ∨ ∃ b tl, s.a = some (ad b 0) ∧ n ≤ b ∧ Blk h b (vs ++ tl) ∧ s.cap * sz = (vs ++ tl).length
theorem Own.nil (n sz : Nat) (h : Heap) : Own n sz h Sl.nil [] := ⟨by simp [Sl.nil], Nat.le_refl _, .inl ⟨rfl, rfl⟩⟩
theorem Own.mono {n m sz : Nat} {h : Heap} {s : Sl} {vs : List Value} (H : Own n sz h s vs) (hm : m ≤ n) : Own m sz h s vs :=
 ⟨H.len, H.cap, H.at_.imp id fun ⟨b, tl, h1, h2, h3⟩ => ⟨b, tl, h1, by omega, h3⟩⟩
theorem Own.rs {n sz : Nat} {h : Heap} {s : Sl} {vs : List Value} (H : Own n sz h s vs) : Rs h.size sz h s vs := by
 refine ⟨H.len, H.cap, ?_⟩
 rcases H.at_ with ⟨e1, e2⟩ | ⟨b, tl, e1, e2, e3, e4⟩
 ·have := H.len; have := H.cap
  refine .inl (List.eq_nil_of_length_eq_zero ?_)
  have h0 : s.len = 0 := by omega
  rw [← H.len, h0, Nat.zero_mul]
 ·refine .inr ⟨b, 0, e1, e3.lt, fun i hi => ?_⟩
  rw [e3.cell, Nat.zero_add, List.getElem?_append_left hi]
/-- whatever else changes -/
theorem Own.keep {n sz : Nat} {h h' : Heap} {s : Sl} {vs : List Value} (H : Own n sz h s vs) (hk : ∀ p, s.a = some p → h'[p.block]? = h[p.block]?) : Own n sz h' s vs :=
 ⟨H.len, H.cap, H.at_.imp id fun ⟨b, tl, h1, h2, h3, h4⟩ => ⟨b, tl, h1, h2, h3.of_eq (hk _ h1), h4⟩⟩
theorem Own.lt {n sz : Nat} {h : Heap} {s : Sl} {vs : List Value} (H : Own n sz h s vs) {p : Addr} (hp : s.a = some p) : p.block < h.size ∧ n ≤ p.block := by
 rcases H.at_ with ⟨e1, e2⟩ | ⟨b, tl, e1, e2, e3, e4⟩
 ·rw [e1] at hp; cases hp
 ·rw [e1] at hp; cases hp; exact ⟨e3.lt, e2⟩
theorem Own.ext {n sz : Nat} {h h' : Heap} {s : Sl} {vs : List Value} (H : Own n sz h s vs) (E : Ext h.size h h') : Own n sz h' s vs := H.keep fun _ hp => E.2 _ (H.lt hp).1
/-- a slice after an append: its own block is another, or the others are as they were -/
structure Grown (n sz : Nat) (h h' : Heap) (s s' : Sl) (vs : List Value) : Prop where
 own : Own n sz h' s' vs
 ext : Ext n h h'
 others : ∀ b, b < h.size → (∀ p, s.a = some p → p.block ≠ b) → h'[b]? = h[b]?
 blk : s'.a = s.a ∨ ∃ b, h.size ≤ b ∧ s'.a = some (ad b 0)
theorem App.own {n sz by' : Nat} {el : TypeId} {z : Value} {h : Heap} {s x : Sl} {vs ys : List Value} {m : Nat} {K : Sl → Heap → Prop} (hO : Own n sz h s vs) (hx : Rs m sz h x ys) (hz : z.cells.size = sz)
  (h1 : ∀ v ∈ ys, one v = true) (hn : n ≤ h.size) (hb : (s.len + x.len) * by' ≤ 140737488355328) (hK : ∀ s' h', Grown n sz h h' s s' (vs ++ ys) → K s' h') : App el sz by' z s x h K := by
 refine ⟨ys, hx.len.symm, hx.holds, h1, ?_⟩
 have hl : (s.len + x.len) * sz = (vs ++ ys).length := by rw [Nat.add_mul, hO.len, hx.len, List.length_append]
 by_cases hc : s.len + x.len ≤ s.cap
 ·refine .inl ⟨hc, ?_⟩
  rcases hO.at_ with ⟨e1, e2⟩ | ⟨b, tl, e1, e2, e3, e4⟩
  ·simp only [e1]
   apply hK
   have hs0 : s.len = 0 := by omega
   have hx0 : x.len = 0 := by omega
   refine ⟨⟨hl, by simp [e2, hs0, hx0], .inl ⟨rfl, e2⟩⟩, Ext.refl _ _, fun _ _ _ => rfl, .inl e1.symm⟩
  ·simp only [e1]
   have hroom : vs.length + ys.length ≤ (vs ++ tl).length := by
    rw [← e4, ← hO.len, ← hx.len, ← Nat.add_mul]; exact Nat.mul_le_mul_right _ hc
   rw [ad_add, Nat.zero_add]
   refine ⟨e3.stok (by rw [hO.len, hx.len]; exact hroom), hK _ _ ?_⟩
   refine ⟨⟨hl, hc, .inr ⟨b, tl.drop ys.length, rfl, e2, ?_, ?_⟩⟩, Ext.sets (by exact e2), fun c hc' hne => hsets_other _ _ _ _ (show b ≠ c from hne (ad b 0) e1), .inl e1.symm⟩
   ·have := Blk.sets (o := s.len * sz) ys h 0 _ e3 (by rw [hO.len]; exact hroom)
    rw [hO.len, Nat.add_zero] at this
    rw [hO.len]
    have e5 : splice (vs ++ tl) vs.length ys = vs ++ ys ++ tl.drop ys.length := by
     unfold splice
     rw [List.take_left' rfl, List.drop_append]
     simp
    rw [← e5]; exact this
   ·rw [e4]; simp only [List.length_append, List.length_drop] at hroom ⊢; omega
 ·refine .inr ⟨by omega, hb, vs, hO.len.symm, hO.rs.holds, fun cap hcap _ => hK _ _ ?_⟩
  have ez : (Builtin.zeroCells z.cells (cap - (s.len + x.len))).size = (cap - (s.len + x.len)) * sz := by simp [Builtin.zeroCells, hz]
  refine ⟨⟨hl, hcap, .inr ⟨h.size, (Builtin.zeroCells z.cells (cap - (s.len + x.len))).toList, rfl, hn, ?_, ?_⟩⟩, Ext.push hn, fun c hc' _ => push_old hc', .inr ⟨_, Nat.le_refl _, rfl⟩⟩
  ·have := Blk.new (h := h) (cs := (vs ++ ys) ++ (Builtin.zeroCells z.cells (cap - (s.len + x.len))).toList) (el := el)
   have ea : ((vs ++ ys) ++ (Builtin.zeroCells z.cells (cap - (s.len + x.len))).toList).toArray = (vs ++ ys).toArray ++ Builtin.zeroCells z.cells (cap - (s.len + x.len)) := by
    apply Array.toList_inj.1; simp
   rw [ea] at this; exact this
  ·rw [List.length_append, ← hl, Array.length_toList, ez, ← Nat.add_mul]
   show cap * sz = _
   congr 1; omega
end Go.Tw
namespace Go.Tw
open Go Go.RowKit
theorem Blk.ld {h : Heap} {b : Nat} {cs : List Value} (H : Blk h b cs) (k : Nat) {v : Value} (hv : cs[k]? = some v) : hcell h (Addr.add (ad b 0) k) = some v := by
 rw [ad_add, Nat.zero_add, H.cell, hv]
theorem Ix.mk {s : Sl} {b o : Nat} {i : Int} {sz : Nat} {K : Addr → Prop} (hs : s.a = some (ad b o)) (h0 : 0 ≤ i) (h1 : i < s.len) (hK : K (ad b (o + i.toNat * sz))) : Ix s i sz K :=
 ⟨_, hs, h0, h1, by rw [ad_add]; exact hK⟩
theorem St.one {h : Heap} {b o : Nat} {cs : List Value} {v : Value} {K : Heap → Prop} (H : Blk h b cs) (ho : o < cs.length) (hK : K (hset h (ad b o) v)) : St h (ad b o) 1 [v] K :=
 ⟨H.stok (by omega), fun h' e => by subst e; rw [hsets, ad_add]; exact hK⟩
theorem Rs.new {h : Heap} {cs : List Value} {el : TypeId} {n sz : Nat} (hn : n * sz = cs.length) : Rs (h.size + 1) sz (h.push (.cells cs.toArray el)) ⟨some (ad h.size 0), n, n⟩ cs :=
 ⟨hn, Nat.le_refl _, .inr ⟨h.size, 0, rfl, by omega, fun i _ => by rw [Nat.zero_add]; exact Blk.new.cell i⟩⟩
theorem Grown.pushed {n sz : Nat} {h h' : Heap} {x : Obj} {s s' : Sl} {vs : List Value} (hn : n ≤ h.size) (G : Grown n sz (h.push x) h' s s' vs) : Grown n sz h h' s s' vs :=
 ⟨G.own, (Ext.push hn).trans G.ext, fun b hb hne => (G.others b (by simp; omega) hne).trans (push_old hb), G.blk.imp id fun ⟨b, h1, h2⟩ => ⟨b, by simp at h1; omega, h2⟩⟩
/-- append(s, v) -/
theorem App.push {n sz by' : Nat} {el : TypeId} {z : Value} {h : Heap} {s : Sl} {vs cs : List Value} {K : Sl → Heap → Prop} (hO : Own n sz h s vs) (hc : cs.length = sz) (hz : z.cells.size = sz)
  (h1 : ∀ v ∈ cs, one v = true) (hn : n ≤ h.size) (hb : (s.len + 1) * by' ≤ 140737488355328) (hK : ∀ s' h', Grown n sz h h' s s' (vs ++ cs) → K s' h') :
  New h (.cells cs.toArray el) fun p h' => App el sz by' z s ⟨some p, 1, 1⟩ h' K := fun p h' hp hh => by
 subst hp; subst hh
 exact App.own (hO.ext (Ext.push (Nat.le_refl _))) (Rs.new (by omega)) hz h1 (by simp; omega) hb fun s' h' G => hK s' h' (G.pushed hn)
end Go.Tw
