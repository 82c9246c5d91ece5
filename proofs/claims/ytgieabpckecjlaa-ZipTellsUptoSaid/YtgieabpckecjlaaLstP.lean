/- Lists, cell by cell: what the functions do. -/
import Derived.Test.YtgieabpckecjlaaLst
import Derived.Test.YtgieabpckecjlaaTwMore
namespace Go.Proofs.Ytgieabpckecjlaa
open Go Go.RowKit Go.Tw
set_option linter.unusedVariables false

/-- the cells from a place on hold these -/
def Lk (h : Heap) : List Int → Option Addr → Prop
  | [], p => p = none
  | x :: l, p => ∃ b q, p = some (ad b 0) ∧ Blk h b [iV x, .pointer q] ∧ Lk h l q
theorem Lk.keep {h h' : Heap} (H : ∀ b x q, Blk h b [iV x, .pointer q] → Blk h' b [iV x, .pointer q]) : ∀ {l : List Int} {p : Option Addr}, Lk h l p → Lk h' l p
  | [], _, e => e
  | _ :: _, _, ⟨b, q, e, B, L⟩ => ⟨b, q, e, H _ _ _ B, L.keep H⟩
theorem Lk.fw {h h' : Heap} {l : List Int} {p : Option Addr} (L : Lk h l p) (E : Fw h h') : Lk h' l p := L.keep fun _ _ _ B => E.blk B
theorem Lk.over {h h' : Heap} {l : List Int} {p : Option Addr} {c : Nat} {cs : List Value} (L : Lk h l p) (B : Blk h c cs) (hc : ∀ x q, cs ≠ [iV x, .pointer q]) (ho : ∀ d, d ≠ c → h'[d]? = h[d]?) : Lk h' l p :=
  L.keep fun b x q A => A.other ho (A.ne B (fun e => hc x q e.symm))
theorem Lk.hput {h : Heap} {l : List Int} {p : Option Addr} {c : Nat} {o o' : Obj} (L : Lk h l p) (hc : h[c]? = some o) (hn : notCells o = true) : Lk (hput h c o') l p := L.keep fun b x q A => A.hput hc hn

section
variable {r : World} {h : Heap}

theorem len_ok {p : Option Addr} {n : Int} {R : Int → Heap → Prop} (H : ∀ h', Fw h h' → R n h') : list_List_Len r p n h R := by
  apply list_List_Len_of
  refine New.cells fun h1 E1 z1 B1 => ⟨_, B1.ld 1 rfl, H h1 E1⟩

theorem push_ok {p : Option Addr} {l : List Int} {x : Int} {R : Option Addr → Int → Heap → Prop} (L : Lk h l p) (hl : l.length ≤ 281474976710656) (H : ∀ q h', Fw h h' → Lk h' (x :: l) q → R q ((l.length + 1 : Nat) : Int) h') : list_List_Push r p (l.length : Int) x h R := by
  apply list_List_Push_of
  refine New.cells fun h1 E1 z1 B1 => New.cells fun h2 E2 z2 B2 => ⟨_, (E2.blk B1).ld 0 rfl, ?_⟩
  refine New.cells fun h3 E3 z3 B3 => ⟨_, (E3.blk (E2.blk B1)).ld 1 rfl, ?_⟩
  refine St.whole (E3.blk B2) rfl rfl fun h4 B4 o4 z4 => ⟨_, B4.ld 0 rfl, _, B4.ld 1 rfl, ?_⟩
  rw [show w64 ((l.length : Int) + 1) = ((l.length + 1 : Nat) : Int) by rw [w64_of] <;> omega]
  have E : Fw h h3 := (E1.trans E2).trans E3
  refine H _ h4 (E.over (c := h1.size) E1.1 o4 z4) ⟨h2.size, p, rfl, B3.other o4 (by omega), ?_⟩
  exact (L.fw E).over (E3.blk B2) (fun x q e => by simp at e) o4

theorem pop_ok {p : Option Addr} {l : List Int} {R : Int → Option Addr → Int → Bool → Heap → Prop} (L : Lk h l p) (hl : l.length ≤ 281474976710656) (H0 : l = [] → ∀ h', Fw h h' → R 0 none 0 false h')
    (H1 : ∀ x t q h', l = x :: t → Fw h h' → Lk h' t q → R x q (t.length : Int) true h') : list_List_Pop r p (l.length : Int) h R := by
  apply list_List_Pop_of
  refine New.cells fun h1 E1 z1 B1 => New.cells fun h2 E2 z2 B2 => ⟨_, (E2.blk B1).ld 0 rfl, ?_⟩
  have E : Fw h h2 := E1.trans E2
  cases l with
  | nil =>
    have L : p = none := L
    subst L
    refine ⟨fun _ => ?_, fun c => (by simp at c)⟩
    refine St.whole B2 rfl rfl fun h3 B3 o3 z3 => ⟨_, B3.ld 0 rfl, _, B3.ld 1 rfl, ?_⟩
    exact H0 rfl h3 (E.over (c := h1.size) E1.1 o3 z3)
  | cons x t =>
    obtain ⟨b, q, rfl, B, L⟩ := L
    refine ⟨fun c => (by simp at c), fun _ => ⟨_, (E2.blk B1).ld 0 rfl, _, rfl, _, (E.blk B).ld 0 rfl, _, (E2.blk B1).ld 0 rfl, _, rfl, _, (E.blk B).ld 1 rfl, _, (E2.blk B1).ld 1 rfl, ?_⟩⟩
    refine St.whole B2 rfl rfl fun h3 B3 o3 z3 => ⟨_, B3.ld 0 rfl, _, B3.ld 1 rfl, ?_⟩
    rw [show w64 (((x :: t).length : Int) - 1) = (t.length : Int) by rw [w64_of] <;> simp at hl ⊢ <;> omega]
    exact H1 x t q h3 rfl (E.over (c := h1.size) E1.1 o3 z3) ((L.fw E).over B2 (fun x q e => by simp at e) o3)

theorem at0_ok {p : Option Addr} {l : List Int} {R : Int → Bool → Heap → Prop} (L : Lk h l p) (H0 : l = [] → ∀ h', Fw h h' → R 0 false h') (H1 : ∀ x t h', l = x :: t → Fw h h' → R x true h') : list_List_At r p (l.length : Int) 0 h R := by
  apply list_List_At_of
  refine New.cells fun h1 E1 z1 B1 => ?_
  intro J HJ
  refine ⟨fun c => (by simp at c), fun _ => ⟨_, B1.ld 1 rfl, ?_⟩⟩
  cases l with
  | nil => exact HJ _ ⟨fun _ => H0 rfl h1 E1, fun c => (by simp at c)⟩
  | cons x t =>
    obtain ⟨b, q, rfl, B, L⟩ := L
    refine HJ _ ⟨fun c => by simp at c; omega, fun _ => ⟨_, B1.ld 0 rfl, ?_⟩⟩
    intro X HX
    exact HX _ _ ⟨fun c => (by simp at c), fun _ => ⟨_, rfl, _, (E1.blk B).ld 0 rfl, H1 x t h1 rfl E1⟩⟩

/-- one after the other -/
theorem all_ok {h0 : Heap} {L c : Nat} {p : Option Addr} {l : List Int} {R : Heap → Prop} {I : List Int → Heap → Prop} (hc : hcell h (Addr.add (ad c 0) 0) = some (.pointer p)) (hk : Lk h0 l p) (I0 : I [] h) (keep : ∀ d h', I d h' → Fw h0 h')
    (step : ∀ d x t h' K, I d h' → l = d ++ x :: t → (∀ h'', I (d ++ [x]) h'' → K (.bool true) h'') → YieldH Try.prog r L [iV x] h' K) (fin : ∀ h', I l h' → R h') : list_List_All_1 r (.func (.yield L) #[] #[]) (ad c 0) h R := by
  apply list_List_All_1_of
  refine ⟨p, hc, ?_⟩
  intro X HX
  have key : ∀ (t d : List Int) (p : Option Addr) (h' : Heap), l = d ++ t → Lk h0 t p → I d h' → X p h' := by
    intro t
    induction t with
    | nil =>
      intro d p h' hd hp hI
      have hp : p = none := hp
      subst hp
      rw [List.append_nil] at hd
      subst hd
      refine HX _ _ ?_
      intro J HJ
      exact ⟨fun c => (by simp at c), fun _ => HJ _ _ ⟨fun c => (by cases c), fun _ => fin h' hI⟩⟩
    | cons x t ih =>
      intro d p h' hd hp hI
      obtain ⟨b, q, rfl, B, Lq⟩ := hp
      refine HX _ _ ?_
      intro J HJ
      refine ⟨fun _ => ⟨_, rfl, _, ((keep d h' hI).blk B).ld 0 rfl, .inr ⟨L, rfl, step d x t h' _ hI hd fun h'' hI' => ⟨true, rfl, HJ _ _ ⟨fun _ => ⟨_, rfl, q, ((keep _ h'' hI').blk B).ld 1 rfl, ?_⟩, fun c => (by cases c)⟩⟩⟩⟩, fun c => (by simp at c)⟩
      exact ih (d ++ [x]) q h'' (by rw [hd]; simp) Lq hI'
  exact key l [] p h rfl hk I0

theorem rev_ok {p : Option Addr} {l : List Int} {n : Int} {R : Option Addr → Int → Heap → Prop} (hL : Lk h l p) (hl : l.length ≤ 281474976710656) (H : ∀ q h', Fw h h' → Lk h' l.reverse q → R q (l.length : Int) h') : list_List_Rev r p n h R := by
  apply list_List_Rev_of
  refine New.cells fun h1 E1 z1 B1 => New.cells fun h2 E2 z2 B2 => New.cells fun h3 E3 z3 B3 => ⟨_, (E3.blk (E2.blk B1)).ld 0 rfl, _, (E3.blk (E2.blk B1)).ld 1 rfl, ?_⟩
  apply list_List_All_of
  refine New.cells fun h4 E4 z4 B4 => ?_
  intro D o h5 hD hh5 hno HY
  have E5 : Fw h4 h5 := by subst hh5; exact (Ext.push (Nat.le_refl _)).trans (Ext.push (by simp))
  have hDe : h5[D]? = some (.deferred (some [])) := by
    subst hh5; rw [push_old (by simp [hD]), hD]; simp
  have hLo : h5[D + 1]? = some o := by
    subst hh5; rw [hD, Array.getElem?_push, if_pos (by simp)]
  clear hh5
  have E15 : Fw h h5 := (((E1.trans E2).trans E3).trans E4).trans E5
  refine ⟨_, _, _, rfl, Try.call69, ?_⟩
  -- what holds between the rounds
  let I : List Int → Heap → Prop := fun d h' => h'[D + 1]? = some o ∧ h'[D]? = some (.deferred (some [])) ∧ Fw h h' ∧ (∃ v0 v1, Blk h' h1.size [v0, v1] ∧ ∀ x, v0 ≠ iV x) ∧ ∃ q, Blk h' h2.size [.pointer q, iV (d.length : Int)] ∧ Lk h' d.reverse q
  have main : list_List_All_1 r (.func (.yield (D + 1)) #[] #[]) (ad h3.size 0) h5 fun h7 => (h7[D + 1]? = some o) ∧ ∀ (o26 : Obj) (h8 : Heap), h8 = Tw.hput h7 (D + 1) o26 → LdP h8 (Addr.add (ad h2.size 0) 0) fun x36 => LdI h8 (Addr.add (ad h2.size 0) 1) fun x38 =>
      St h8 (ad h1.size 0) 2 [(.pointer x36), (.int .i64 x38)] fun h12 => (h12[D]? = some (.deferred (some []))) ∧ ∀ h13 : Heap, h13 = Tw.hput h12 D (.deferred none) → LdP h13 (Addr.add (ad h1.size 0) 0) fun x44 => LdI h13 (Addr.add (ad h1.size 0) 1) fun x46 => R x44 x46 h13 := by
    refine all_ok (I := I) (l := l) ((E5.blk B4).ld 0 rfl) hL ⟨hLo, hDe, E15, ⟨_, _, E5.blk (E4.blk (E3.blk B2)), fun x => by simp⟩, none, E5.blk (E4.blk B3), rfl⟩ (fun d h' hI => hI.2.2.1) ?_ ?_
    · intro d x t h6 K hI hdl hK
      obtain ⟨i1, i2, i3, ⟨v0, v1, i4, i6⟩, q, i5, i7⟩ := hI
      refine HY x h6 K i1 fun h9 hh9 => ?_
      have hl2 : d.length + 1 ≤ l.length := by rw [hdl]; simp
      have hD1 := E4.1
      have b9 := i5.hput (o' := busyO o) i1 hno
      have c9 := i4.hput (o' := busyO o) i1 hno
      have l9 := i7.hput (o' := busyO o) i1 hno
      have r9 : (Tw.hput h6 (D + 1) (busyO o))[D + 1]? = some (busyO o) := hput_self i1
      have d9 : (Tw.hput h6 (D + 1) (busyO o))[D]? = some (.deferred (some [])) := by rw [hput_other (by omega)]; exact i2
      have f9 : Fw h (Tw.hput h6 (D + 1) (busyO o)) := i3.hput (by have := E15.1; omega)
      rw [← hh9] at b9 c9 l9 r9 d9 f9
      refine ⟨_, b9.ld 0 rfl, _, b9.ld 1 rfl, ?_⟩
      rw [show (d.length : Int) = (d.reverse.length : Int) by simp]
      refine push_ok l9 (by simp; omega) fun q' h10 f10 l10 => ?_
      have b10 := f10.blk b9
      refine St.whole b10 rfl rfl fun h11 b11 o11 z11 => ?_
      have hn := notCells_busy hno
      have r11 := other_at o11 (f10.at_ r9) (fun e => b10.not (f10.at_ r9) hn e.symm)
      have d11 := other_at o11 (f10.at_ d9) (fun e => b10.not (f10.at_ d9) rfl e.symm)
      refine ⟨r11, hK _ ⟨hput_self r11, by rw [hput_other (by omega)]; exact d11, ((f9.trans f10).over (by omega) o11 z11).hput (by have := E15.1; omega), ⟨v0, v1, ((f10.blk c9).other o11 (by omega)).hput r11 hn, i6⟩, q', ?_, ?_⟩⟩
      · have := b11.hput (o' := o) r11 hn
        simpa using this
      · have := (l10.over b10 (fun x q e => by simp at e) o11).hput (o' := o) r11 hn
        simpa using this
    · intro h7 hI
      obtain ⟨i1, i2, i3, ⟨v0, v1, i4, i6⟩, q, i5, i7⟩ := hI
      refine ⟨i1, fun o26 h8 hh8 => ?_⟩
      have b8 := i5.hput (o' := o26) i1 hno
      have c8 := i4.hput (o' := o26) i1 hno
      have l8 := i7.hput (o' := o26) i1 hno
      have d8 : (Tw.hput h7 (D + 1) o26)[D]? = some (.deferred (some [])) := by rw [hput_other (by omega)]; exact i2
      have f8 : Fw h (Tw.hput h7 (D + 1) o26) := i3.hput (by have := E15.1; have := E4.1; omega)
      rw [← hh8] at b8 c8 l8 d8 f8
      refine ⟨_, b8.ld 0 rfl, _, b8.ld 1 rfl, ?_⟩
      refine St.whole c8 rfl rfl fun h12 b12 o12 z12 => ?_
      have d12 := other_at o12 d8 (fun e => c8.not d8 rfl e.symm)
      refine ⟨d12, fun h13 hh13 => ?_⟩
      have b13 := b12.hput (o' := .deferred none) d12 rfl
      have l13 := (l8.over c8 (fun x q e => by simp at e; exact i6 x e.1) o12).hput (o' := .deferred none) d12 rfl
      have f13 : Fw h (Tw.hput h12 D (.deferred none)) := (f8.over (by omega) o12 z12).hput (by have := E4.1; omega)
      rw [← hh13] at b13 l13 f13
      exact ⟨_, b13.ld 0 rfl, _, b13.ld 1 rfl, H q h13 f13 l13⟩
  exact CallsH.mono main fun v h7 hx => hx.2
end
end Go.Proofs.Ytgieabpckecjlaa
