/- The typed layer: a range over a function. -/
import Derived.Test.YtcafckgflpmfgaaDoorTwHeap
import Derived.RangeFuncIn
namespace Go.Tw
open Go Go.RowKit

/-- a call of a function that is one of the program's -/
def CallF (P : Program) (r : World) (f : Value) (args : List Value) (h : Heap) (R : Value → Heap → Prop) : Prop :=
  ∃ g first cap, f = .func (.func g) first cap ∧ (∀ args w, (callFunc g args).run P w = .ok (.enter g args) w) ∧ CallsH P r g (first.toList ++ args ++ cap.toList) h R

/-- the loop's record as it is while no round runs -/
def ready (fn : FuncId) (tmps : Array Value) (ps : Array Tmp) (assign body : Code) (D : Nat) : Obj := .loop { state := .ready, pending := none, fn, tmps, params := ps, assign, body, defers := D }

theorem act_set (n : Nat) (e : Env) (d d' : List Deferred) (t : Nat) (v : Value) : (act n e d).tmps.setIfInBounds t v = (act n (upd e t v) d').tmps := by
  apply Array.ext_getElem?
  intro s
  rw [act_get, Array.getElem?_setIfInBounds, act_get]
  have hz : (act n e d).tmps.size = n := by simp [act]
  by_cases hs : t = s
  · subst hs
    rw [if_pos rfl, hz, upd_same]
  · rw [if_neg hs, upd_ne _ _ (fun q => hs q.symm)]

/-- a record, not a row of cells -/
def notCells : Obj → Bool
  | .cells _ _ _ => false
  | _ => true
def busyO : Obj → Obj
  | .loop r => .loop { r with state := .busy }
  | o => o
theorem notCells_busy {o : Obj} (h : notCells o = true) : notCells (busyO o) = true := by cases o <;> first | exact h | rfl
theorem CallF.mono {P : Program} {r : World} {f : Value} {args : List Value} {h : Heap} {R R' : Value → Heap → Prop} (hc : CallF P r f args h R) (hr : ∀ v h, R v h → R' v h) : CallF P r f args h R' := by
  obtain ⟨g, fi, ca, hf, hg, hc⟩ := hc
  exact ⟨g, fi, ca, hf, hg, hc.mono hr⟩

/-- the arguments of a round, in the frame that the loop found -/
def args_in (e : Env) : List (Nat × Value) → Env
  | [] => e
  | (t, v) :: l => args_in (upd e t v) l
theorem foldl_args (n : Nat) : ∀ (l : List (Nat × Value)) (e : Env) (d : List Deferred), (l.foldl (fun tmps (t, a) => tmps.setIfInBounds t a) (act n e d).tmps) = (act n (args_in e l) []).tmps
  | [], e, d => rfl
  | (t, v) :: l, e, d => by
    show List.foldl _ ((act n e d).tmps.setIfInBounds t v) l = _
    rw [act_set n e d [] t v]
    exact foldl_args n l _ []

section
variable {P : Program} {r : World} {n : Nat} {h : Heap}

/-- one round -/
theorem round_of {fn : FuncId} {e0 : Env} {d0 : List Deferred} {ps : Array Tmp} {assign body : Code} {D L : Nat} {args : List Value} {R : Value → Heap → Prop} {o : Obj} (ho : o = ready fn (act n e0 d0).tmps ps assign body D) (hL : h[L]? = some o) (hn : args.length = ps.size)
    (hw : W ⟨P, r, some L, n⟩ [] assign (fun d1 e1 h1 => h1 = h ∧ W ⟨P, r, some L, n⟩ d1 body (fun _ _ h2 => h2[L]? = some (busyO o) ∧ R (.bool true) (hput h2 L o)) (fun _ _ _ _ => False) (fun _ _ _ => False) e1 (hput h L (busyO o)))
      (fun _ _ _ _ => False) (fun _ _ _ => False) (args_in e0 (ps.toList.zip args)) h) : YieldH P r L args h R := by
  subst ho
  intro dr
  refine ⟨_, hL, hn, ?_⟩
  have ez : (ps.zip args.toArray).foldl (fun tmps (t, a) => tmps.setIfInBounds t a) (act n e0 d0).tmps = (act n (args_in e0 (ps.toList.zip args)) []).tmps := by
    rw [← foldl_args n _ e0 d0, ← Array.foldl_toList, Array.toList_zip]
  dsimp only
  rw [ez]
  refine roundIn_of_wpIn (F := FW .none) trivial ?_
  refine wpIn_mono (hw dr) fun x a w hq => ?_
  cases x with
  | normal =>
    obtain ⟨d1, e1, h1, dr1, rfl, rfl, rfl, hb⟩ := hq
    refine ⟨_, run_beginRound (w := wd r h1 dr1) hL rfl, ?_⟩
    refine wpIn_mono (hb dr1) fun x a w hq => ?_
    cases x with
    | normal =>
      obtain ⟨d2, e2, h2, dr2, rfl, rfl, h3, hR⟩ := hq
      exact ⟨_, _, run_endRound none (w := wd r h2 dr2) h3, _, _, _, rfl, rfl, hR⟩
    | exit i => obtain ⟨_, _, _, _, _, _, hf⟩ := hq; exact hf.elim
    | ret => obtain ⟨_, _, _, _, _, _, hf⟩ := hq; exact hf.elim
    | _ => exact hq.elim
  | exit i => obtain ⟨_, _, _, _, _, _, hf⟩ := hq; exact hf.elim
  | ret => obtain ⟨_, _, _, _, _, _, hf⟩ := hq; exact hf.elim
  | _ => exact hq.elim

theorem W_rangeFunc {e : Env} {d : List Deferred} {N : DPost} {X : Nat → DPost} {R : DPost} {g : Operand} {ps : Array Tmp} {assign body : Code} {fv : Value} (hg : ev n e g = fv)
    (H : ∀ (fn : FuncId) (o : Obj), o = ready fn (act n e d).tmps ps assign body h.size →
      CallF P r fv [.func (.yield (h.size + 1)) #[] #[]] ((h.push (.deferred (some []))).push o) fun _ h5 => h5[h.size + 1]? = some o ∧ ∀ o', N (⟨.collected h.size, #[]⟩ :: d) e (hput h5 (h.size + 1) o')) :
    W ⟨P, r, .none, n⟩ d (.rangeFunc g ps assign body) N X R e h := by
  intro dr
  have key : ∀ fn : FuncId, (FW .none).fn fn → ∃ (l : Nat) (mark : List Deferred) (w₁ : World) (d' : Deferred) (w₁' : World) (f : FuncId) (args : Array Value) (w₂ : World),
      (Instr.enterLoop fn (act n e d).tmps ps assign body (FW .none).round).run P (wd r h dr) = .ok (l, mark) w₁ ∧
      (resolve (act n e d).eval (rangeCall g l) 0).run P w₁ = .ok d' w₁' ∧
      (∀ f', Target.leads P w₁' d'.target d'.args = some f' → (FW .none).fn f') ∧
      (invoke d'.target d'.args).run P w₁' = .ok (.enter f args) w₂ ∧
      ((FW .none).depth.isSome = true → 1 ≤ 0) ∧
      CallsIn (FW .none) (0 - 1) P f args w₂ (rangePost (FW .none) 0 P l (mkQ n r N X R) { act n e d with defers := mark ++ (act n e d).defers }) := by
    intro fn _
    obtain ⟨f, first, cap, hf, hcall, hc⟩ := H fn _ rfl
    subst hf
    generalize ho : ready fn (act n e d).tmps ps assign body h.size = o at hc
    have e0 : (Instr.enterLoop fn (act n e d).tmps ps assign body (FW .none).round).run P (wd r h dr) = .ok (h.size + 1, [{ target := .collected h.size, args := #[] }]) (wd r ((h.push (.deferred (some []))).push o) dr) := by
      rw [← ho]; exact run_enterLoop_outer fn _ ps assign body
    generalize (h.push (.deferred (some []))).push o = h1 at hc e0
    have e1 : (resolve (act n e d).eval (rangeCall g (h.size + 1)) 0).run P (wd r h1 dr) = .ok ⟨.fn (.func f) cap, first ++ #[.func (.yield (h.size + 1)) #[] #[]]⟩ (wd r h1 dr) := by
      have hg' : (act n e d).eval g = .func (.func f) first cap := by rw [act_eval]; exact hg
      have hy : (act n e d).eval (.const (.func (.yield (h.size + 1)) #[] #[])) = .func (.yield (h.size + 1)) #[] #[] := rfl
      simp [resolve, Deferred.ofValue, hg', hy]
    have ea : (first.toList ++ [Value.func (.yield (h.size + 1)) #[] #[]] ++ cap.toList).toArray = first ++ #[Value.func (.yield (h.size + 1)) #[] #[]] ++ cap := by
      apply Array.toList_inj.1; simp
    refine ⟨h.size + 1, _, _, _, _, f, _, _, e0, e1, fun _ _ => trivial, ?_, fun hd => by simp [Fence.wide] at hd, callsFW (Calls.mono (hc dr) ?_)⟩
    · rw [ea]
      simp [invoke, hcall]
    · intro x w hx
      obtain ⟨v, h5, dr5, rfl, rfl, h6, hN⟩ := hx
      have e2 := run_endLoop (P := P) (w := wd r h5 dr5) (l := h.size + 1) (r := { state := .ready, pending := .none, fn, tmps := (act n e d).tmps, params := ps, assign, body, defers := h.size }) (by rw [← ho] at h6; exact h6) (by simp)
      exact ⟨.none, _, e2, _, _, _, _, rfl, rfl, hN _⟩
  exact wpIn_rangeFunc key
end
end Go.Tw
