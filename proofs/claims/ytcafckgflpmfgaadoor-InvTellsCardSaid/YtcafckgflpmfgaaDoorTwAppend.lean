/- The typed layer: append, copy. -/
import Derived.Test.YtcafckgflpmfgaaDoorTwHeap
namespace Go.Tw
open Go Go.RowKit

structure Sl where
  a : Option Addr
  len : Nat
  cap : Nat
def Sl.v (s : Sl) : Value := .slice s.a s.len s.cap
def Sl.nil : Sl := ⟨none, 0, 0⟩

/-- the cells of the first n places of a slice, k values -/
def Holds (h : Heap) (a : Option Addr) (vs : List Value) : Prop := vs = [] ∨ ∃ b, a = some b ∧ CellsAt h b 0 vs

/-- append: there is room, or a new array -/
def App (el sz by' : Nat) (z : Value) (s x : Sl) (h : Heap) (K : Sl → Heap → Prop) : Prop :=
  ∃ news : List Value, news.length = x.len * sz ∧ Holds h x.a news ∧ (∀ v ∈ news, one v = true) ∧
    ((s.len + x.len ≤ s.cap ∧ (match s.a with
        | some b => StOk h (b.add (s.len * sz)) (x.len * sz) ∧ K ⟨s.a, s.len + x.len, s.cap⟩ (hsets h (b.add (s.len * sz)) 0 news)
        | none => K ⟨none, s.len + x.len, s.cap⟩ h)) ∨
     (s.cap < s.len + x.len ∧ (s.len + x.len) * by' ≤ 140737488355328 ∧ ∃ olds : List Value, olds.length = s.len * sz ∧ Holds h s.a olds ∧
        ∀ cap, s.len + x.len ≤ cap → cap ≤ maxLen → K ⟨some ⟨h.size, 0, none⟩, s.len + x.len, cap⟩ (h.push (.cells ((olds ++ news).toArray ++ Builtin.zeroCells z.cells (cap - (s.len + x.len))) el))))

section
variable {P : Program} {ρ : Operand → Value} {dst : Option Tmp} {ty : TypeId} {pos : String} {af : Array Edge} {gd : Option (Nat × Bool)} {r : World} {h : Heap} {dr : Nat}

theorem run_firstCells {sz n : Nat} {a : Option Addr} {l c : Nat} {vs : List Value} (hn : vs.length = n * sz) (hh : Holds h a vs) : (Builtin.firstCells sz n (.slice a l c)).run P (wd r h dr) = .ok vs.toArray (wd r h dr) := by
  rcases hh with rfl | ⟨b, rfl, hc⟩
  · cases a with
    | none => simp [Builtin.firstCells]
    | some a =>
      have h0 : n * sz = 0 := by simpa using hn.symm
      simp only [Builtin.firstCells, h0]
      exact run_loadCells (vs := []) rfl trivial
  · simp only [Builtin.firstCells]
    exact run_loadCells hn hc

theorem r_append {a b : Operand} {t : TypeId} {el sz by' : Nat} {z : Value} {s x : Sl} {K : Sl → Heap → Prop} {i : TypeInfo} (ht : P.underlying t = some (.slice el)) (hi : P.info? el = some i) (hsz : i.size = sz) (hby : i.bytes = by') (hzv : i.zero = some z) (h0 : 0 < by')
    (hs : ρ a = s.v) (hx : ρ b = x.v) (happ : App el sz by' z s x h K) :
    uponV P (behind r fun v h' => ∃ s' : Sl, v = s'.v ∧ K s' h') ((execOp ρ ⟨dst, .call ⟨.builtin .append, #[a, b], #[t, t]⟩, ty, pos, af, gd⟩).run P (wd r h dr)) := by
  obtain ⟨sa, sl, sc⟩ := s
  obtain ⟨xa, xl, xc⟩ := x
  obtain ⟨news, hnl, hnews, h1, hk⟩ := happ
  simp only [Sl.v] at hs hx hnl hnews hk
  have hfn := run_firstCells (P := P) (r := r) (dr := dr) (l := xl) (c := xc) (n := xl) hnl hnews
  have key : ∃ s' : Sl, ∃ h' dr', (Builtin.append_ #[t, t] ty #[.slice sa sl sc, .slice xa xl xc]).run P (wd r h dr) = .ok s'.v (wd r h' dr') ∧ K s' h' := by
    rcases hk with ⟨hroom, hk⟩ | ⟨hno, hfit, olds, hol, holds, hk⟩
    · cases sa with
      | none =>
        refine ⟨_, h, dr, ?_, hk⟩
        simp [Builtin.append_, run_underlying ht, sizeOf, typeInfo, hi, hsz, Builtin.lenOf, hroom, hfn, Sl.v]
      | some b =>
        obtain ⟨hok, hk⟩ := hk
        refine ⟨_, _, dr, ?_, hk⟩
        have hst := run_storeCells (P := P) (r := r) (dr := dr) (p := b.add (sl * sz)) news 0 h h1 (fun j _ hj => hok j (by omega))
        simp [Builtin.append_, run_underlying ht, sizeOf, typeInfo, hi, hsz, Builtin.lenOf, hroom, hfn, hst, Sl.v]
    · have hnr : ¬ sl + xl ≤ sc := by omega
      have hfo : (Builtin.firstCells sz sl (.slice sa sl sc)).run P (wd r h dr).drew = .ok olds.toArray (wd r h dr).drew := run_firstCells (P := P) (r := r) (h := h) (dr := dr + 1) hol holds
      have hfn' : (Builtin.firstCells sz xl (.slice xa xl xc)).run P (wd r h dr).drew = .ok news.toArray (wd r h dr).drew := run_firstCells (P := P) (r := r) (h := h) (dr := dr + 1) hnl hnews
      have hm : sl + xl ≤ 140737488355328 := by
        have : (sl + xl) * 1 ≤ (sl + xl) * by' := Nat.mul_le_mul_left _ h0
        omega
      have h48' : ¬ (281474976710656 < Builtin.nextslicecap (sl + xl) sc * by') := by have := growslice_fits hno hfit; omega
      have h63' : ¬ (9223372036854775807 < ((sl : Int) + (xl : Int))) := by omega
      have hge := grownCap_ge (wd r h dr) (sl + xl) sc el
      have hle : grownCap (wd r h dr) (sl + xl) sc el ≤ maxLen := grownCap_le_maxLen _ _ _ _ (by simp only [maxLen]; omega)
      refine ⟨_, _, dr + 1, ?_, hk _ hge hle⟩
      have e : (Builtin.append_ #[t, t] ty #[.slice sa sl sc, .slice xa xl xc]).run P (wd r h dr) = .ok (.slice (some ⟨h.size, 0, none⟩) (sl + xl) (grownCap (wd r h dr) (sl + xl) sc el))
          ((wd r h dr).drew.alloc (.cells ((olds ++ news).toArray ++ Builtin.zeroCells z.cells (grownCap (wd r h dr) (sl + xl) sc el - (sl + xl))) el)) := by
        have hws : (wd r h dr).heap.size = h.size := rfl
        simp [Builtin.append_, run_underlying ht, sizeOf, typeInfo, zeroValue, hi, hzv, hsz, hby, Builtin.lenOf, hnr, h63', h48', Question.forced, hfn', hfo, newRow, grownCap, hws]
        congr 2
        apply Array.ext'
        simp [List.append_assoc]
      exact e
  obtain ⟨s', h', dr', hr, hk'⟩ := key
  have e1 : (execOp ρ ⟨dst, .call ⟨.builtin .append, #[a, b], #[t, t]⟩, ty, pos, af, gd⟩).run P (wd r h dr) = .ok (.value s'.v) (wd r h' dr') := by
    unfold execOp
    simp only [resolve, invoke, builtin, Sem.run_bind, Sem.run_pure, Result.andThen_ok, List.map_toArray, List.map_cons, List.map_nil, hs, hx, hr]
  rw [e1]
  exact ⟨h', dr', rfl, s', rfl, hk'⟩
end
end Go.Tw
