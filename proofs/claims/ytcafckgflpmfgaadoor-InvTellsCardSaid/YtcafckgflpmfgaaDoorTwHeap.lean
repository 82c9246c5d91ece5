/- The typed layer: operations that read, write and make memory; calls. -/
import Derived.Test.YtcafckgflpmfgaaDoorTwOps
namespace Go.Tw
open Go Go.RowKit

def hcell (h : Heap) (a : Addr) : Option Value :=
  match h[a.block]? with
  | some (.cells c _ _) => if a.spot.isSome then none else c[a.off]?
  | _ => none
def hfroz (h : Heap) (a : Addr) : Bool :=
  match h[a.block]? with
  | some (.cells _ _ (lo, hi)) => lo ≤ a.off && a.off < hi
  | _ => false
def hset (h : Heap) (a : Addr) (v : Value) : Heap :=
  h.modify a.block fun
    | .cells c elem frozen => .cells (if a.spot.isSome then c else c.setIfInBounds a.off v) elem frozen
    | o => o

theorem wd_cell (r : World) (h : Heap) (dr : Nat) (a : Addr) : (wd r h dr).cell? a = hcell h a := rfl
theorem wd_froz (r : World) (h : Heap) (dr : Nat) (a : Addr) : (wd r h dr).frozen? a = hfroz h a := rfl
theorem wd_set (r : World) (h : Heap) (dr : Nat) (a : Addr) (v : Value) : (wd r h dr).setCell a v = wd r (hset h a v) dr := rfl

/-- a value of one cell -/
def one : Value → Bool
  | .agg _ | .tuple _ => false
  | _ => true
theorem one_cells {v : Value} (h : one v = true) : v.cells = #[v] := by cases v <;> simp [one] at h <;> rfl

/-- cells side by side -/
def CellsAt (h : Heap) (p : Addr) : Nat → List Value → Prop
  | _, [] => True
  | i, v :: vs => hcell h (p.add i) = some v ∧ CellsAt h p (i + 1) vs
def hsets (h : Heap) (p : Addr) : Nat → List Value → Heap
  | _, [] => h
  | i, v :: vs => hsets (hset h (p.add i) v) p (i + 1) vs
/-- k cells that are there and may be written -/
def StOk (h : Heap) (p : Addr) (k : Nat) : Prop := ∀ j, j < k → (∃ u, hcell h (p.add j) = some u) ∧ hfroz h (p.add j) = false

theorem run_load {P : Program} {r : World} {h : Heap} {dr : Nat} {a : Addr} {v : Value} (hc : hcell h a = some v) : (load a).run P (wd r h dr) = .ok v (wd r h dr) := by
  simp [load, Sem.run, wd_cell, hc]
theorem run_loadCellsFrom {P : Program} {r : World} {h : Heap} {dr : Nat} {p : Addr} : ∀ (vs : List Value) (i : Nat) (acc : Array Value), CellsAt h p i vs →
    (loadCellsFrom p i vs.length acc).run P (wd r h dr) = .ok (acc ++ vs.toArray) (wd r h dr)
  | [], i, acc, _ => by simp [loadCellsFrom]
  | v :: vs, i, acc, hc => by
    have e1 := run_load (P := P) (r := r) (dr := dr) hc.1
    have e2 := run_loadCellsFrom (P := P) (r := r) (dr := dr) vs (i + 1) (acc.push v) hc.2
    simp only [List.length_cons, loadCellsFrom, Sem.run_bind, e1, Result.andThen_ok, e2]
    congr 1
    simp
theorem run_loadCells {P : Program} {r : World} {h : Heap} {dr : Nat} {p : Addr} {vs : List Value} {n : Nat} (hn : vs.length = n) (hc : CellsAt h p 0 vs) : (loadCells p n).run P (wd r h dr) = .ok vs.toArray (wd r h dr) := by
  subst hn; have := run_loadCellsFrom (P := P) (r := r) (dr := dr) vs 0 #[] hc; simpa [loadCells] using this

section heap
variable {P : Program} {ρ : Operand → Value} {dst : Option Tmp} {ty : TypeId} {pos : String} {af : Array Edge} {gd : Option (Nat × Bool)} {r : World} {h : Heap} {dr : Nat}

theorem run_loadVar1 {t : TypeId} {p : Addr} {v : Value} (hA : ∀ w, (isAgg t).run P w = .ok false w) (hc : hcell h p = some v) : (loadVar t p).run P (wd r h dr) = .ok v (wd r h dr) := by
  unfold loadVar
  simp only [Sem.run_bind, hA, Result.andThen_ok, Bool.false_eq_true, if_false]
  exact run_load hc
theorem run_loadVarN {t : TypeId} {p : Addr} {vs : List Value} {n : Nat} (hA : ∀ w, (isAgg t).run P w = .ok true w) (hz : ∀ w, (sizeOf t).run P w = .ok n w) (hn : vs.length = n) (hc : CellsAt h p 0 vs) : (loadVar t p).run P (wd r h dr) = .ok (.agg vs.toArray) (wd r h dr) := by
  unfold loadVar
  simp only [Sem.run_bind, hA, Result.andThen_ok, if_true, hz, run_loadCells hn hc, Sem.run_pure]
theorem run_loadAt {t : TypeId} {x : Value} {p : Addr} {v : Value} (hx : x = .pointer (some p)) (hl : (loadVar t p).run P (wd r h dr) = .ok v (wd r h dr)) : (Instr.loadAt t x).run P (wd r h dr) = .ok v (wd r h dr) := by
  subst hx
  simp [Instr.loadAt, Instr.sureAddr, hl]

theorem r_load1 {t : TypeId} {x : Operand} {p : Addr} {v : Value} (hA : ∀ w, (isAgg t).run P w = .ok false w) (hx : ρ x = .pointer (some p)) (hc : hcell h p = some v) :
    (execOp ρ ⟨dst, .load t x, ty, pos, af, gd⟩).run P (wd r h dr) = .ok (.value v) (wd r h dr) := by
  unfold execOp
  simp only [Sem.run_bind, run_loadAt hx (run_loadVar1 hA hc), Result.andThen_ok, Sem.run_pure]
theorem r_loadN {t : TypeId} {x : Operand} {p : Addr} {vs : List Value} {n : Nat} (hA : ∀ w, (isAgg t).run P w = .ok true w) (hz : ∀ w, (sizeOf t).run P w = .ok n w) (hn : vs.length = n) (hx : ρ x = .pointer (some p)) (hc : CellsAt h p 0 vs) :
    (execOp ρ ⟨dst, .load t x, ty, pos, af, gd⟩).run P (wd r h dr) = .ok (.value (.agg vs.toArray)) (wd r h dr) := by
  unfold execOp
  simp only [Sem.run_bind, run_loadAt hx (run_loadVarN hA hz hn hc), Result.andThen_ok, Sem.run_pure]

theorem hset_cell_some {h : Heap} {a b : Addr} {v u : Value} (hc : hcell h b = some u) : ∃ u', hcell (hset h a v) b = some u' := by
  unfold hcell hset at *
  rw [Array.getElem?_modify]
  by_cases hb : a.block = b.block
  · rw [if_pos hb]
    cases ho : h[b.block]? with
    | none => rw [ho] at hc; cases hc
    | some o =>
      rw [ho] at hc
      cases o with
      | cells c el fz =>
        simp only [Option.map_some] at hc ⊢
        by_cases hs : b.spot.isSome = true
        · rw [if_pos hs] at hc; cases hc
        · rw [if_neg hs] at hc ⊢
          have hlt : b.off < c.size := (Array.getElem?_eq_some_iff.1 hc).1
          by_cases ha : a.spot.isSome = true
          · rw [if_pos ha]; exact ⟨_, hc⟩
          · rw [if_neg ha]; exact ⟨_, Array.getElem?_eq_getElem (by simpa using hlt)⟩
      | _ => simp at hc
  · rw [if_neg hb]; exact ⟨u, hc⟩
theorem hset_froz {h : Heap} {a b : Addr} {v : Value} : hfroz (hset h a v) b = hfroz h b := by
  unfold hfroz hset
  rw [Array.getElem?_modify]
  by_cases hb : a.block = b.block
  · rw [if_pos hb]
    cases ho : h[b.block]? with
    | none => rfl
    | some o => cases o <;> rfl
  · rw [if_neg hb]

theorem run_store {a : Addr} {v u : Value} (h1 : one v = true) (hc : hcell h a = some u) (hf : hfroz h a = false) : (store a v).run P (wd r h dr) = .ok () (wd r (hset h a v) dr) := by
  cases v <;> simp [one] at h1 <;> simp [store, Sem.run, wd_cell, hc, wd_froz, hf, wd_set]
theorem run_storeCells {p : Addr} : ∀ (vs : List Value) (i : Nat) (h : Heap), (∀ v ∈ vs, one v = true) → (∀ j, i ≤ j → j < i + vs.length → (∃ u, hcell h (p.add j) = some u) ∧ hfroz h (p.add j) = false) →
    (storeCells p vs i).run P (wd r h dr) = .ok () (wd r (hsets h p i vs) dr)
  | [], i, h, _, _ => by simp [storeCells, hsets]
  | v :: vs, i, h, h1, hok => by
    obtain ⟨⟨u, hu⟩, hf⟩ := hok i (Nat.le_refl _) (by simp)
    have e1 := run_store (P := P) (r := r) (dr := dr) (h1 v (by simp)) hu hf
    have e2 := run_storeCells (p := p) vs (i + 1) (hset h (p.add i) v) (fun v hv => h1 v (by simp [hv])) (fun j hj hj' => by
      obtain ⟨⟨u, hu⟩, hf⟩ := hok j (by omega) (by simp; omega)
      exact ⟨hset_cell_some hu, by rw [hset_froz]; exact hf⟩)
    simp only [storeCells, Sem.run_bind, e1, Result.andThen_ok, e2, hsets]
theorem run_storeVar {t : TypeId} {p : Addr} {v : Value} {n : Nat} (hz : ∀ w, (sizeOf t).run P w = .ok n w) (hn : v.cells.size = n) (h1 : ∀ u ∈ v.cells.toList, one u = true) (hok : StOk h p n) :
    (storeVar t p v).run P (wd r h dr) = .ok () (wd r (hsets h p 0 v.cells.toList) dr) := by
  unfold storeVar
  simp only [Sem.run_bind, hz, Result.andThen_ok, hn, ne_eq, not_true_eq_false, if_false]
  exact run_storeCells _ 0 h h1 (fun j _ hj => hok j (by simpa [hn] using hj))

/-- what the step of an effect asks -/
theorem uponV_value {nv : Value → World → Prop} {v : Value} {w : World} (h : nv v w) : uponV P nv (.ok (.value v) w) := h

theorem r_store {t : TypeId} {a x : Operand} {p : Addr} {v : Value} {n : Nat} (hz : ∀ w, (sizeOf t).run P w = .ok n w) (ha : ρ a = .pointer (some p)) (hx : ρ x = v) (hn : v.cells.size = n) (h1 : ∀ u ∈ v.cells.toList, one u = true) (hok : StOk h p n) :
    (execOp ρ ⟨dst, .store t a x, ty, pos, af, gd⟩).run P (wd r h dr) = .ok .skip (wd r (hsets h p 0 v.cells.toList) dr) := by
  subst hx
  unfold execOp
  simp only [ha, Instr.storeAt, Instr.sureAddr, Sem.run_bind, Sem.run_pure, Result.andThen_ok, run_storeVar hz hn h1 hok]

theorem run_newRow {el : TypeId} {cells : Array Value} : (newRow el cells).run P (wd r h dr) = .ok ⟨h.size, 0, none⟩ (wd r (h.push (.cells cells el)) dr) := by
  simp [newRow, newObj, Sem.run, wd]
theorem r_box {t : TypeId} {x : Operand} {v : Value} (hx : ρ x = v) : (execOp ρ ⟨dst, .box t x, ty, pos, af, gd⟩).run P (wd r h dr) = .ok (.value (.pointer (some ⟨h.size, 0, none⟩))) (wd r (h.push (.cells v.cells t)) dr) := by
  subst hx
  unfold execOp
  simp only [Instr.box, newVar, Sem.run_bind, run_newRow, Result.andThen_ok, Sem.run_pure]
theorem r_alloc {t : TypeId} {z : Value} (hz : ∀ w, (zeroValue t).run P w = .ok z w) : (execOp ρ ⟨dst, .alloc t, ty, pos, af, gd⟩).run P (wd r h dr) = .ok (.value (.pointer (some ⟨h.size, 0, none⟩))) (wd r (h.push (.cells z.cells t)) dr) := by
  unfold execOp
  simp only [Instr.alloc, newVar, Sem.run_bind, hz, run_newRow, Result.andThen_ok, Sem.run_pure]
theorem r_buildSlice {t : TypeId} {n : Nat} {parts : Array (Nat × Operand)} {el : TypeId} {sz : Nat} {z : Value} {cells : Array Value} (ht : P.underlying t = some (.slice el)) (hz : ∀ w, (sizeOf el).run P w = .ok sz w) (hzv : ∀ w, (zeroValue el).run P w = .ok z w)
    (hlen : decide (n * sz ≤ 16777216) = true) (hne : (n * sz).beq 0 = false) (hf : Instr.fill (fun i => some (i * sz, sz)) ((Array.range (n * sz)).map (z.cells[· % z.cells.size]!)) (parts.map fun (i, x) => (i, ρ x)).toList = some cells) :
    (execOp ρ ⟨dst, .buildSlice t n parts, ty, pos, af, gd⟩).run P (wd r h dr) = .ok (.value (.slice (some ⟨h.size, 0, none⟩) n n)) (wd r (h.push (.cells cells el)) dr) := by
  have h1 : ¬ n * sz > 2 ^ 24 := by have := of_decide_eq_true hlen; omega
  have h2 : ¬ n * sz = 0 := fun e => by rw [e] at hne; cases hne
  unfold execOp
  simp only [Instr.buildSlice, Sem.run_bind, run_underlying ht, hz, Result.andThen_ok, h1, if_false, h2, hzv, Sem.run_pure, hf, run_newRow]

theorem run_makeSlice {t : TypeId} {el : TypeId} {sz by' : Nat} {z : Value} {n : Int} (ht : P.underlying t = some (.slice el)) (hz : ∀ w, (sizeOf el).run P w = .ok sz w) (hzv : ∀ w, (zeroValue el).run P w = .ok z w) (hb : ∀ w, ∃ i : TypeInfo, (typeInfo el).run P w = .ok i w ∧ i.bytes = by')
    (h0 : 0 ≤ n) (h63 : n < 9223372036854775808) (h48 : by' * n ≤ 281474976710656) :
    (Instr.makeSlice t (.int .i64 n) (.int .i64 n)).run P (wd r h dr) = .ok (.slice (some ⟨h.size, 0, none⟩) n.toNat n.toNat) (wd r (h.push (.cells ((Array.range (n.toNat * sz)).map ((if n.toNat * sz = 0 then #[] else z.cells)[· % (if n.toNat * sz = 0 then #[] else z.cells).size]!)) el)) dr) := by
  obtain ⟨i, hi, hby⟩ := hb (wd r h dr)
  have hw : IntKind.i64.wrap n = n := by rw [IntKind.wrap_i64]; omega
  have e1 : ¬ (n < 0) := by omega
  have e2 : ¬ ((by' : Int) * n > 281474976710656) := by omega
  unfold Instr.makeSlice
  simp only [Sem.run_bind, run_underlying ht, Result.andThen_ok, asInt, asIntOf, Sem.run_pure, hi, hby, hw]
  have hcond : ((decide (n < 0) || decide ((by' : Int) * n > 2 ^ 48)) || decide (n < 0) || decide (n > n)) = false := by
    simp only [e1, decide_false, Bool.false_or, Int.lt_irrefl, Bool.or_false, gt_iff_lt, decide_eq_false_iff_not]
    simpa using e2
  simp only [hcond, Bool.false_eq_true, if_false]
  have hroom : ∀ (b : Nat) (w : World), (askRoom b).run P w = .ok () w := fun b w => by unfold askRoom; split <;> simp [mark, Sem.run]
  simp only [Sem.run_bind, hroom, Result.andThen_ok, hz]
  by_cases hn : n.toNat * sz = 0
  · simp only [hn, if_true, Sem.run_bind, Sem.run_pure, Result.andThen_ok, run_newRow]
  · simp only [hn, if_false, Sem.run_bind, hzv, Sem.run_pure, Result.andThen_ok, run_newRow]

end heap

/-! ### The steps -/
section steps
variable {c : Cx} {K : Post} {t alt : Tr} {C : Held} {e : Env} {h : Heap} {i : Nat} {bef : List Nat}

theorem s_pu {o : Oper} {d : Option Tmp} {v : Value} (ho : c.ops[i]? = some o) (hd : o.dst = d) (hw : wants c o e = true) (hr : ∀ w, (execOp (ev c.n e) o).run c.P w = .ok (.value v) w) (hs : S c K t C (updO e d v) h) : S c K (.pu i t) C e h := by
  subst hd; exact ⟨o, v, ho, .inl ⟨hw, hr⟩, hs⟩
theorem s_sk {o : Oper} {d : Option Tmp} (ho : c.ops[i]? = some o) (hd : o.dst = d) (hw : wants c o e = false) (hs : S c K t C (updO e d undef) h) : S c K (.pu i t) C e h := by
  subst hd; exact ⟨o, undef, ho, .inr ⟨hw, rfl⟩, hs⟩
theorem s_rl {o : Oper} {d : Option Tmp} {v : Value} (ho : c.ops[i]? = some o) (hd : o.dst = d) (hw : wants c o e = true) (hr : ∀ dr, (execOp (ev c.n e) o).run c.P (wd c.r h dr) = .ok (.value v) (wd c.r h dr)) (hs : S c K t C (updO e d v) h) : S c K (.rl i t) C e h := by
  subst hd; exact ⟨o, v, ho, .inl ⟨hw, hr⟩, hs⟩
theorem s_skl {o : Oper} {d : Option Tmp} (ho : c.ops[i]? = some o) (hd : o.dst = d) (hw : wants c o e = false) (hs : S c K t C (updO e d undef) h) : S c K (.rl i t) C e h := by
  subst hd; exact ⟨o, undef, ho, .inr ⟨hw, rfl⟩, hs⟩
theorem s_rd {o : Oper} {d : Option Tmp} {v : Value} (ho : c.ops[i]? = some o) (hd : o.dst = d) (hw : wants c o e = true) (hr : ∀ dr, (execOp (ev c.n e) o).run c.P (wd c.r h dr) = .ok (.value v) (wd c.r h dr)) (hs : S c K t ((i, fun h' => Rd c o e v h') :: C) (updO e d v) h) : S c K (.rd i t) C e h := by
  subst hd; exact ⟨o, v, ho, .inl ⟨hw, hr⟩, hs⟩
theorem s_skd {o : Oper} {d : Option Tmp} (ho : c.ops[i]? = some o) (hd : o.dst = d) (hw : wants c o e = false) (hs : S c K t ((i, fun h' => Rd c o e undef h') :: C) (updO e d undef) h) : S c K (.rd i t) C e h := by
  subst hd; exact ⟨o, undef, ho, .inr ⟨hw, rfl⟩, hs⟩
/-- an effect whose outcome is known -/
theorem s_ef1 {o : Oper} {d : Option Tmp} {v : Value} {h' : Heap} (ho : c.ops[i]? = some o) (hd : o.dst = d) (hw : wants c o e = true) (hr : ∀ dr, (execOp (ev c.n e) o).run c.P (wd c.r h dr) = .ok (.value v) (wd c.r h' dr)) (hc : Chk bef C h') (hs : S c K t C (updO e d v) h') (ha : S c K alt C e h) : S c K (.ef i bef t alt) C e h := by
  subst hd; exact ⟨⟨o, ho, .inl ⟨hw, fun dr => by rw [hr]; exact ⟨h', dr, rfl, hc, hs⟩⟩⟩, ha⟩
theorem s_st {o : Oper} {d : Option Tmp} {h' : Heap} (ho : c.ops[i]? = some o) (hd : o.dst = d) (hw : wants c o e = true) (hr : ∀ dr, (execOp (ev c.n e) o).run c.P (wd c.r h dr) = .ok .skip (wd c.r h' dr)) (hc : Chk bef C h') (hs : S c K t C (updO e d undef) h') (ha : S c K alt C e h) : S c K (.ef i bef t alt) C e h := by
  subst hd; exact ⟨⟨o, ho, .inl ⟨hw, fun dr => by rw [hr]; exact ⟨h', dr, rfl, hc, hs⟩⟩⟩, ha⟩
/-- an effect that may come out in several ways -/
theorem s_ef {o : Oper} {d : Option Tmp} {k : Value → Heap → Prop} (ho : c.ops[i]? = some o) (hd : o.dst = d) (hw : wants c o e = true) (hr : ∀ dr, uponV c.P (behind c.r k) ((execOp (ev c.n e) o).run c.P (wd c.r h dr)))
    (hs : ∀ v h', k v h' → Chk bef C h' ∧ S c K t C (updO e d v) h') (ha : S c K alt C e h) : S c K (.ef i bef t alt) C e h := by
  subst hd; exact ⟨⟨o, ho, .inl ⟨hw, fun dr => uponV_mono (hr dr) fun _ _ ⟨h', dr', hw, hk⟩ => ⟨h', dr', hw, hs _ _ hk⟩⟩⟩, ha⟩
theorem s_skf {o : Oper} {d : Option Tmp} (ho : c.ops[i]? = some o) (hd : o.dst = d) (hw : wants c o e = false) (hc : Chk bef C h) (hs : S c K t C (updO e d undef) h) (ha : S c K alt C e h) : S c K (.ef i bef t alt) C e h := by
  subst hd; exact ⟨⟨o, ho, .inr ⟨hw, hc, hs⟩⟩, ha⟩

theorem wants_yes {o : Oper} {g : Nat} {b x : Bool} {s : Tmp} (hg : o.guard = some (g, b)) (hs : (c.ops[g]?).bind (·.dst) = some s) (hn : Nat.blt s c.n = true) (he : e s = .bool x) (hx : x = b) : wants c o e = true := by
  unfold wants
  simp only [hg, hs, hn, cond_true, he, hx, beq_self_eq_true]
theorem wants_no {o : Oper} {g : Nat} {b x : Bool} {s : Tmp} (hg : o.guard = some (g, b)) (hs : (c.ops[g]?).bind (·.dst) = some s) (hn : Nat.blt s c.n = true) (he : e s = .bool x) (hx : x = !b) : wants c o e = false := by
  unfold wants
  simp only [hg, hs, hn, cond_true, he, hx]
  cases b <;> rfl
theorem wants_un {o : Oper} {g : Nat} {b : Bool} {s : Tmp} (hg : o.guard = some (g, b)) (hs : (c.ops[g]?).bind (·.dst) = some s) (he : e s = undef) : wants c o e = false := by
  unfold wants
  simp only [hg, hs, he]
  cases Nat.blt s c.n <;> rfl
end steps

/-! ### Calls -/
section calls
variable {P : Program} {ρ : Operand → Value} {dst : Option Tmp} {ty : TypeId} {pos : String} {af : Array Edge} {gd : Option (Nat × Bool)} {r : World} {h : Heap} {dr : Nat}

theorem calls_uponV {f : FuncId} {args : List Value} {k : Value → Heap → Prop} (hc : CallsH P r f args h k) : uponV P (behind r k) (.ok (.enter f args.toArray) (wd r h dr)) :=
  (hc dr).mono fun x w ⟨v, h', dr', hx, hw, hk⟩ => by subst hx; exact ⟨h', dr', hw, hk⟩

/-- a call of a function by its name -/
theorem r_call {f : FuncId} {as : Array Operand} {ts : Array TypeId} {args : List Value} {k : Value → Heap → Prop} (hf : ∀ args w, (callFunc f args).run P w = .ok (.enter f args) w) (ha : as.toList.map ρ = args) (hp : ρ (.func f) = .func (.func f) #[] #[])
    (hc : CallsH P r f args h k) : uponV P (behind r k) ((execOp ρ ⟨dst, .call ⟨.value (.func f), as, ts⟩, ty, pos, af, gd⟩).run P (wd r h dr)) := by
  have e1 : (execOp ρ ⟨dst, .call ⟨.value (.func f), as, ts⟩, ty, pos, af, gd⟩).run P (wd r h dr) = .ok (.enter f args.toArray) (wd r h dr) := by
    have ha' : as.map ρ = args.toArray := by apply Array.toList_inj.1; simpa using ha
    simp [execOp, resolve, Deferred.ofValue, invoke, hp, ha', hf]
  rw [e1]; exact calls_uponV hc

/-- a round of a loop over a function -/
def YieldH (P : Program) (r : World) (l : Nat) (args : List Value) (h : Heap) (R : Value → Heap → Prop) : Prop :=
  ∀ dr, ∃ rec : Loop, h[l]? = some (.loop rec) ∧ args.length = rec.params.size ∧
    RoundIn (FW .none) 0 P l rec.fn ((rec.params.zip args.toArray).foldl (fun tmps (t, a) => tmps.setIfInBounds t a) rec.tmps) rec.assign rec.body (wd r h dr) fun x w => ∃ v h' dr', x = .returned v ∧ w = wd r h' dr' ∧ R v h'

/-- a call of a function value -/
def CallV (P : Program) (r : World) (f : Value) (args : List Value) (h : Heap) (R : Value → Heap → Prop) : Prop :=
  (∃ g first cap, f = .func (.func g) first cap ∧ (∀ args w, (callFunc g args).run P w = .ok (.enter g args) w) ∧ CallsH P r g (first.toList ++ args ++ cap.toList) h R) ∨
  (∃ l, f = .func (.yield l) #[] #[] ∧ YieldH P r l args h R)

theorem CallV.mono {f : Value} {args : List Value} {R R' : Value → Heap → Prop} (hc : CallV P r f args h R) (hr : ∀ v h, R v h → R' v h) : CallV P r f args h R' := by
  rcases hc with ⟨g, fi, ca, hf, hg, hc⟩ | ⟨l, hf, hc⟩
  · exact .inl ⟨g, fi, ca, hf, hg, hc.mono hr⟩
  · refine .inr ⟨l, hf, fun dr => ?_⟩
    obtain ⟨rec, h1, h2, h3⟩ := hc dr
    exact ⟨rec, h1, h2, h3.mono fun _ _ ⟨v, h', dr', hx, hw, hR⟩ => ⟨v, h', dr', hx, hw, hr _ _ hR⟩⟩

theorem r_callV {f : Operand} {as : Array Operand} {ts : Array TypeId} {fv : Value} {args : List Value} {k : Value → Heap → Prop} (ha : as.toList.map ρ = args) (hp : ρ f = fv) (hc : CallV P r fv args h k) :
    uponV P (behind r k) ((execOp ρ ⟨dst, .call ⟨.value f, as, ts⟩, ty, pos, af, gd⟩).run P (wd r h dr)) := by
  have ha' : as.map ρ = args.toArray := by apply Array.toList_inj.1; simpa using ha
  rcases hc with ⟨g, fi, ca, rfl, hg, hc⟩ | ⟨l, rfl, hc⟩
  · have e1 : (execOp ρ ⟨dst, .call ⟨.value f, as, ts⟩, ty, pos, af, gd⟩).run P (wd r h dr) = .ok (.enter g (fi.toList ++ args ++ ca.toList).toArray) (wd r h dr) := by
      simp [execOp, resolve, Deferred.ofValue, invoke, hp, ha', hg]
    rw [e1]; exact calls_uponV hc
  · obtain ⟨rec, h1, h2, h3⟩ := hc dr
    have e0 : (Instr.getLoop l).run P (wd r h dr) = .ok rec (wd r h dr) := by
      have : (wd r h dr).heap[l]? = some (.loop rec) := h1
      simp [Instr.getLoop, getObj, Sem.run, this, Sem.run_bind]
    have e1 : (execOp ρ ⟨dst, .call ⟨.value f, as, ts⟩, ty, pos, af, gd⟩).run P (wd r h dr) = .ok (.round l rec.fn ((rec.params.zip args.toArray).foldl (fun tmps (t, a) => tmps.setIfInBounds t a) rec.tmps) rec.assign rec.body) (wd r h dr) := by
      simp [execOp, resolve, Deferred.ofValue, invoke, hp, ha', Instr.yield, e0, h2]
    rw [e1]
    exact h3.mono fun x w ⟨v, h', dr', hx, hw, hk⟩ => by subst hx; exact ⟨h', dr', hw, hk⟩
end calls

end Go.Tw
