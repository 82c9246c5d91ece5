/- The typed layer: the words in which a function is told. -/
import Derived.Test.YtcafckgflpmfgaaDoorTwAppend
import Derived.Test.YtcafckgflpmfgaaDoorTwRange
namespace Go.Tw
open Go Go.RowKit

/-- what a whole number of 64 signed bits keeps -/
abbrev w64 (n : Int) : Int := IntKind.wrap .i64 n
theorem w64_of {n : Int} (h0 : -9223372036854775808 ≤ n) (h1 : n < 9223372036854775808) : w64 n = n := by
  rw [w64, IntKind.wrap_i64]; omega

abbrev LdN (k : IntKind) (h : Heap) (p : Addr) (K : Int → Prop) : Prop := ∃ x, hcell h p = some (.int k x) ∧ K x
abbrev LdI (h : Heap) (p : Addr) (K : Int → Prop) : Prop := ∃ x, hcell h p = some (.int .i64 x) ∧ K x
abbrev LdB (h : Heap) (p : Addr) (K : Bool → Prop) : Prop := ∃ x, hcell h p = some (.bool x) ∧ K x
abbrev LdT (h : Heap) (p : Addr) (K : ByteArray → Prop) : Prop := ∃ x, hcell h p = some (.string x) ∧ K x
abbrev LdS (h : Heap) (p : Addr) (K : Sl → Prop) : Prop := ∃ x : Sl, hcell h p = some x.v ∧ K x
abbrev LdP (h : Heap) (p : Addr) (K : Option Addr → Prop) : Prop := ∃ x, hcell h p = some (.pointer x) ∧ K x
abbrev LdM (h : Heap) (p : Addr) (K : Option Nat → Prop) : Prop := ∃ x, hcell h p = some (.map x) ∧ K x
abbrev LdV (h : Heap) (p : Addr) (K : Value → Prop) : Prop := ∃ x, hcell h p = some x ∧ K x
abbrev Ck (a : Option Addr) (K : Addr → Prop) : Prop := ∃ p, a = some p ∧ K p
abbrev Ix (s : Sl) (i : Int) (sz : Nat) (K : Addr → Prop) : Prop := ∃ p, s.a = some p ∧ 0 ≤ i ∧ i < s.len ∧ K (p.add (i.toNat * sz))
abbrev Br (b : Bool) (A B : Prop) : Prop := (b = true → A) ∧ (b = false → B)
abbrev New (h : Heap) (o : Obj) (K : Addr → Heap → Prop) : Prop := ∀ p h', p = ⟨h.size, 0, none⟩ → h' = h.push o → K p h'
abbrev St (h : Heap) (p : Addr) (n : Nat) (vs : List Value) (K : Heap → Prop) : Prop := StOk h p n ∧ ∀ h', h' = hsets h p 0 vs → K h'
/-- s[lo:hi], s[lo:hi:mx] -/
abbrev Sub (s : Sl) (lo hi mx : Int) (sz : Nat) (K : Sl → Prop) : Prop :=
  0 ≤ lo ∧ lo ≤ hi ∧ hi ≤ mx ∧ mx ≤ s.cap ∧ ∀ t : Sl, t = ⟨sliceA s.a mx.toNat lo.toNat sz, hi.toNat - lo.toNat, mx.toNat - lo.toNat⟩ → K t

/-- a byte of a string -/
def strAt (s : ByteArray) (i : Int) : Int := ((s.data[i.toNat]?.getD 0).toNat : Int)
section
variable {P : Program} {ρ : Operand → Value} {dst : Option Tmp} {ty : TypeId} {pos : String} {af : Array Edge} {gd : Option (Nat × Bool)}
theorem r_indexStr {t : TypeId} {x y : Operand} {s : ByteArray} {k : IntKind} {i : Int} (ht : P.underlying t = some .string) (hx : ρ x = .string s) (hy : ρ y = .int k i) (h0 : 0 ≤ i) (h1 : i < s.size) (w : World) :
    (execOp ρ ⟨dst, .index t x y, ty, pos, af, gd⟩).run P w = .ok (.value (.int .u8 (strAt s i))) w := by
  have h2 : i.toNat < s.size := by omega
  have e1 : s[i.toNat]? = some (s.data[i.toNat]'h2) := getElem?_pos s i.toNat h2
  have e2 : s.data[i.toNat]? = some (s.data[i.toNat]'h2) := Array.getElem?_eq_getElem h2
  simp [execOp, go_sem, Instr.index, asIntOf, run_underlying ht, hx, hy, h0, e1, strAt, e2]
end

/-- what is asked of a slice type -/
structure SlF (P : Program) (t el sz by' : Nat) (z : Value) : Prop where
  ty : P.underlying t = some (.slice el)
  info : ∃ i, P.info? el = some i ∧ i.size = sz ∧ i.bytes = by' ∧ i.zero = some z
  pos : Nat.blt 0 by' = true
  size : ∀ w, (sizeOf el).run P w = .ok sz w
  zero : ∀ w, (zeroValue el).run P w = .ok z w

section
variable {P : Program} {ρ : Operand → Value} {dst : Option Tmp} {ty : TypeId} {pos : String} {af : Array Edge} {gd : Option (Nat × Bool)} {r : World} {h : Heap} {dr : Nat}

theorem SlF.append {a b : Operand} {t el sz by' : Nat} {z : Value} {s x : Sl} {K : Sl → Heap → Prop} (F : SlF P t el sz by' z) (hs : ρ a = s.v) (hx : ρ b = x.v) (happ : App el sz by' z s x h K) :
    uponV P (behind r fun v h' => ∃ s' : Sl, v = s'.v ∧ K s' h') ((execOp ρ ⟨dst, .call ⟨.builtin .append, #[a, b], #[t, t]⟩, ty, pos, af, gd⟩).run P (wd r h dr)) := by
  obtain ⟨i, hi, h1, h2, h3⟩ := F.info
  exact r_append F.ty hi h1 h2 h3 (by simpa [Nat.blt_eq] using F.pos) hs hx happ

/-- make([]T, n) -/
abbrev MkS (el sz by' : Nat) (z : Value) (n : Int) (h : Heap) (K : Sl → Heap → Prop) : Prop :=
  0 ≤ n ∧ n < 9223372036854775808 ∧ by' * n ≤ 281474976710656 ∧ ∀ s h', s = (⟨some ⟨h.size, 0, none⟩, n.toNat, n.toNat⟩ : Sl) → h' = h.push (.cells ((Array.range (n.toNat * sz)).map ((if n.toNat * sz = 0 then #[] else z.cells)[· % (if n.toNat * sz = 0 then #[] else z.cells).size]!)) el) → K s h'
theorem SlF.make {a b : Operand} {t el sz by' : Nat} {z : Value} {n : Int} (F : SlF P t el sz by' z) (ha : ρ a = .int .i64 n) (hb : ρ b = .int .i64 n) (h0 : 0 ≤ n) (h63 : n < 9223372036854775808) (h48 : by' * n ≤ 281474976710656) :
    (execOp ρ ⟨dst, .makeSlice t a b, ty, pos, af, gd⟩).run P (wd r h dr) = .ok (.value (.slice (some ⟨h.size, 0, none⟩) n.toNat n.toNat)) (wd r (h.push (.cells ((Array.range (n.toNat * sz)).map ((if n.toNat * sz = 0 then #[] else z.cells)[· % (if n.toNat * sz = 0 then #[] else z.cells).size]!)) el)) dr) := by
  obtain ⟨i, hi, h1, h2, h3⟩ := F.info
  unfold execOp
  simp only [ha, hb, Sem.run_bind, run_makeSlice (r := r) (h := h) (dr := dr) F.ty F.size F.zero (fun w => ⟨i, by simp [typeInfo, hi], h2⟩) h0 h63 h48, Result.andThen_ok, Sem.run_pure]
theorem SlF.build {t n : Nat} {parts : Array (Nat × Operand)} {el sz by' : Nat} {z : Value} {cells : Array Value} (F : SlF P t el sz by' z) (hlen : decide (n * sz ≤ 16777216) = true) (hne : (n * sz).beq 0 = false)
    (hf : Instr.fill (fun i => some (i * sz, sz)) ((Array.range (n * sz)).map (z.cells[· % z.cells.size]!)) (parts.map fun (i, x) => (i, ρ x)).toList = some cells) :
    (execOp ρ ⟨dst, .buildSlice t n parts, ty, pos, af, gd⟩).run P (wd r h dr) = .ok (.value (.slice (some ⟨h.size, 0, none⟩) n n)) (wd r (h.push (.cells cells el)) dr) := r_buildSlice F.ty F.size F.zero hlen hne hf
end

theorem one_all {l : List Value} (h : l.all one = true) : ∀ u ∈ l, one u = true := fun u hu => List.all_eq_true.1 h u hu

section
variable {c : Cx} {K : Post} {t alt : Tr} {C : Held} {e : Env} {h : Heap} {i : Nat} {bef : List Nat} {l : List (Nat × Value)}
/-- next ones, each in its own way -/
theorem s_or (h1 : S c K (.ef i bef t .no) C e h) (h2 : S c K alt C e h) : S c K (.ef i bef t alt) C e h := ⟨h1.1, h2⟩

def dropT : Nat → Tr → Tr
  | 0, t => t
  | n + 1, .pu _ t | n + 1, .rd _ t | n + 1, .rl _ t | n + 1, .ef _ _ t _ => dropT n t
  | _ + 1, t => t
/-- two ways through some operations meet behind them -/
theorem S_meet {i : Nat} (h1 : ∀ b, S c K (dropT i t) C (mkE l b) h) (h2 : (∀ b, S c K (dropT i t) C (mkE l b) h) → S c K t C e h) : S c K t C e h := h2 h1
end
end Go.Tw
