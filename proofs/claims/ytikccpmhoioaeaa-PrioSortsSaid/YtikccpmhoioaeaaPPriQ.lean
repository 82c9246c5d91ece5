/- The first in rank: the law 'PrioSorts'. -/
import Derived.Test.YtikccpmhoioaeaaPPriP
namespace Go.Proofs.Ytikccpmhoioaeaa.Pr
open Go Go.RowKit Go.Tw Go.Many Go.Pri
set_option linter.unusedVariables false
section
variable {r : World} {h : Heap}
theorem sorts_law {l1 : Sl} {l : List Int} (hl1 : RI h.size h l1 l) (hz : l.length ≤ 1125899906842624) : law3_PrioSorts r l1 h fun y h' => y = true ∧ Ext h.size h h' := by
  apply law3_PrioSorts_of
  have hlen := hl1.len
  refine ranked_ok fun h1 E1 => ⟨fun c => (by cases c), fun _ => New.cells fun h2 E2 z2 B2 => ?_⟩
  have E02 := E1.trans E2
  have hc : h.size ≤ h1.size := E1.1
  intro X HX
  have step : ∀ i : Nat, i < l.length → w64 ((i : Int) + 1) = ((i + 1 : Nat) : Int) := fun i hi => by rw [w64_of] <;> omega
  have key1 : ∀ (d i : Nat) (h3 : Heap) (q : Option Addr) (L : List It), i + d = l.length → Fw h h3 → h2.size ≤ h3.size → Blk h3 h1.size [.pointer q] → Tr (Bs Any h1.size) h3 q L → Wait l L → (∀ y ∈ L, y.val < (i : Int)) → L.length = i → X (i : Int) h3 := by
    intro d
    induction d with
    | succ d ih =>
      intro i h3 q L hi E3 hz3 B3 T3 W hb hL
      have hil : i < l.length := by omega
      refine HX _ _ ⟨fun _ => ?_, fun c => absurd (of_decide_eq_false c) (by omega)⟩
      have ex : l[(i : Int).toNat]! = l[i] := by rw [Int.toNat_natCast, getElem!_pos l i hil]
      refine ⟨_, B3.ld 0 rfl, RI.ix (hl1.ext E3 (Nat.le_refl _)) (by omega) (by omega) fun p _ hp => ⟨_, hp, ?_⟩⟩
      rw [ex]
      refine push_ok (v := ⟨l[i], (i : Int)⟩) T3 (by omega) (fun b hb => ⟨trivial, by omega⟩) fun q4 h4 E4 T4 => ?_
      have z4 := E4.1
      refine St.whole (E4.blk B3) rfl rfl fun h5 B5 o5 z5 => ?_
      rw [step i hil]
      obtain ⟨W', hb'⟩ := W.push (List.getElem?_eq_getElem hil) hb
      exact ih (i + 1) h5 q4 _ (by omega) ((E3.trans E4).over hc o5 z5) (by omega) B5 (T4.to (To.over (fun e => e.2 rfl) o5 z5)) W' hb' (by simp; omega)
    | zero =>
      intro i h3 q L hi E3 hz3 B3 T3 W hb hL
      obtain rfl : i = l.length := by omega
      refine HX _ _ ⟨fun c => absurd (of_decide_eq_true c) (by omega), fun _ => New.cells fun h6 E6 z6 B6 => ?_⟩
      have E36 := E3.trans E6
      have hne : h1.size ≠ h3.size := by have := B3.lt; omega
      have hc3 : h.size ≤ h3.size := E3.1
      intro X25 HX25
      have key2 : ∀ (d i : Nat) (h7 : Heap) (q : Option Addr) (L : List It) (last : It), i + d = l.length → Fw h h7 → h6.size ≤ h7.size → Blk h7 h1.size [.pointer q] → Blk h7 h3.size [iV last.rank, iV last.val] → Tr (Bs (Bs Any h1.size) h3.size) h7 q L → Wait l L → L.length = d → (0 < i → After last L) → X25 (i : Int) h7 := by
        intro d
        induction d with
        | zero =>
          intro i h7 q L last hi E7 hz7 B7 C7 T7 W hL hA
          refine HX25 _ _ ⟨fun c => absurd (of_decide_eq_true c) (by omega), fun _ => ⟨_, B7.ld 0 rfl, plen_ok T7 fun h15 E15 => ⟨?_, E7.trans E15⟩⟩⟩
          rw [hL]; rfl
        | succ d ih =>
          intro i h7 q L last hi E7 hz7 B7 C7 T7 W hL hA
          have hil : i < l.length := by omega
          refine HX25 _ _ ⟨fun _ => ⟨_, B7.ld 0 rfl, ?_⟩, fun c => absurd (of_decide_eq_false c) (by omega)⟩
          refine pop_ok T7 (by omega) (fun b hb => ⟨⟨trivial, by have := B7.lt; omega⟩, by have := C7.lt; omega⟩) (fun c => by subst c; cases hL) fun k x q8 h8 E8 K hx T8 => ?_
          refine New.cells fun h9 E9 z9 B9 => New.cells fun h10 E10 z10 B10 => ?_
          refine St.whole (E10.blk B9) rfl rfl fun h11 B11 o11 z11 => St.whole (B10.other o11 (by omega)) rfl rfl fun h12 B12 o12 z12 => ?_
          have D11 := B11.other o12 (by omega)
          have E812 : Fw h8 h12 := ((E9.trans E10).over (Nat.le_refl _) o11 z11).over (by omega) o12 z12
          have B7' := (E8.trans E812).blk B7
          have C7' := (E8.trans E812).blk C7
          have E12 := (E7.trans E8).trans E812
          have hlt1 := B7'.lt
          have a8 := E8.1
          have a12 := E812.1
          obtain ⟨W', hAf⟩ := W.pop K hx
          have hxm : x ∈ L := List.mem_of_getElem? hx
          obtain ⟨n, hn, hln⟩ := W.of x hxm
          have hnl := (List.getElem?_eq_some_iff.1 hln).1
          have hkl := K.lt
          intro J43 HJ43
          have go : X25 (w64 ((i : Int) + 1)) = X25 ((i + 1 : Nat) : Int) := by rw [step i hil]
          have f46 : ∀ (J46 : Bool → Prop), (∀ (x45 : Bool), (Br x45 (false = true ∧ Ext h.size h h12) (LdI h12 (Addr.add (ad h8.size 0) 0) fun x48 => LdI h12 (Addr.add (ad h8.size 0) 1) fun x50 => St h12 (ad h3.size 0) 2 [(.int .i64 x48), (.int .i64 x50)] fun h13 => LdP h13 (Addr.add (ad h9.size 0) 0) fun x54 => St h13 (ad h1.size 0) 1 [(.pointer x54)] fun h14 => X25 (w64 ((i : Int) + 1)) h14)) → J46 x45) → J46 false := by
            intro J46 HJ46
            refine HJ46 _ ⟨fun c => (by cases c), fun _ => ⟨_, D11.ld 0 rfl, _, D11.ld 1 rfl, ?_⟩⟩
            refine St.whole C7' rfl rfl fun h13 B13 o13 z13 => ⟨_, (B12.other o13 (by have := C7.lt; omega)).ld 0 rfl, ?_⟩
            refine St.whole (B7'.other o13 hne) rfl rfl fun h14 B14 o14 z14 => ?_
            rw [go]
            have T12 := T8.fw E812
            refine ih (i + 1) h14 q8 _ x (by omega) ((E12.over hc3 o13 z13).over hc o14 z14) (by omega) B14 (B13.other o14 (by omega)) ((T12.to (To.over (fun e => e.2 rfl) o13 z13)).to (To.over (fun e => e.1.2 rfl) o14 z14)) W' ?_ fun _ => hAf
            simp only [List.length_append, List.length_take, List.length_drop]; omega
          have f43 : J43 false := by
            refine HJ43 _ ⟨fun c => (by cases c), fun _ => ?_⟩
            intro J46 HJ46
            have f := f46 J46 HJ46
            refine ⟨fun c => ?_, fun _ => f⟩
            have c := of_decide_eq_true c
            have ha := hA (by omega) x hxm
            refine ⟨_, D11.ld 0 rfl, _, C7'.ld 0 rfl, fun c2 => absurd (of_decide_eq_true c2) (by omega), fun _ => ⟨_, D11.ld 0 rfl, _, C7'.ld 0 rfl, fun c3 => ⟨_, D11.ld 1 rfl, _, C7'.ld 1 rfl, ?_⟩, fun _ => f⟩⟩
            have c3 := of_decide_eq_true c3
            dsimp only
            rw [decide_eq_false (by omega)]; exact f
          refine ⟨fun c => (by cases c), fun _ => ⟨_, D11.ld 1 rfl, fun c => absurd (of_decide_eq_true c) (by omega), fun _ => ⟨_, D11.ld 1 rfl, fun c => absurd (of_decide_eq_true c) (by omega), fun _ => ⟨_, D11.ld 1 rfl, ?_⟩⟩⟩⟩
          have exn : l[x.val.toNat]! = x.rank := by
            rw [hn, Int.toNat_natCast, getElem!_pos l n hnl]
            rw [List.getElem?_eq_getElem hnl] at hln
            injection hln
          refine RI.ix (hl1.ext E12 (Nat.le_refl _)) (by omega) (by omega) fun p _ hp => ⟨_, hp, _, D11.ld 0 rfl, ?_⟩
          rw [exn]
          dsimp only
          rw [decide_eq_true rfl]
          exact f43
      refine key2 l.length 0 h6 q L ⟨0, 0⟩ (by omega) E36 (Nat.le_refl _) (E6.blk B3) B6 ?_ W hL (fun c => absurd c (by decide))
      exact T3.to (To.old E6 fun b hb hl => ⟨hb, by omega⟩)
  exact key1 l.length 0 h2 none [] (by omega) E02 (Nat.le_refl _) B2 (Tr.nil _ _) ⟨fun y hy => (by cases hy), List.Pairwise.nil⟩ (fun y hy => by cases hy) rfl
end
end Go.Proofs.Ytikccpmhoioaeaa.Pr
