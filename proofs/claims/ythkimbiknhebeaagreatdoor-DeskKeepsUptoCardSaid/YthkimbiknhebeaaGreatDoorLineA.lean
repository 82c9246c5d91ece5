/- The closure that desk.line puts off: it catches an Errno, and nothing else happens. The desk's text of numbers. The desk's parts: what the library asks, forms, a number. The desk's parts: what is stored, what an error tells. The desk: a line. The desk: what a line does. The desk: a line is the document's. A script, in plain Lean: line by line; what stands behind changes nothing ahead; an error changes nothing. The desk: a script is answered line by line. -/
import Derived.Test.YthkimbiknhebeaaGreatDoorGLine
import Derived.Test.YthkimbiknhebeaaGreatDoorGDesk
import Derived.Test.YthkimbiknhebeaaGreatDoorSeqA
import Derived.Test.YthkimbiknhebeaaGreatDoorGWbtP
import Derived.Test.YthkimbiknhebeaaGreatDoorOneA
namespace Go.Proofs.YthkimbiknhebeaaGreatDoor.St
open Go Go.RowKit Go.Tw
set_option linter.unusedVariables false
/-- recover, and what it hands back is kept -/
theorem wpS_recover {P : Program} {Q : Exit → Act → List Frame → World → Prop} {n : Nat} {e : Env} {cs cs' : List Frame} {w : World} {ops : Array Oper} {s t : Tmp} {v : Value} {y1 y2 : TypeId} {q1 q2 : String} {af1 af2 : Array Edge}
  (ho : ops = #[⟨some s, .call ⟨.builtin .recover, #[], #[]⟩, y1, q1, af1, none⟩, ⟨some t, .assign (.tmp s), y2, q2, af2, none⟩]) (hs : Nat.blt s n = true)
  (hr : recoverD cs = some (v, cs') ∨ (recoverD cs = none ∧ v = .nilIface ∧ cs' = cs)) (H : Q .normal (act n (upd (upd e s v) t v) []) cs' w) : wpOpsS P ops Q (List.range ops.size) (act n e []) cs w := by
 subst ho
 have e1 : ∀ ρ, (execOp ρ ⟨some s, .call ⟨.builtin .recover, #[], #[]⟩, y1, q1, af1, none⟩).run P w = .ok .recover w := fun ρ => by
  simp [execOp, go_sem, resolve, invoke, Deferred.ofValue]
 have e2 : (execOp (act n (upd e s v) []).eval ⟨some t, .assign (.tmp s), y2, q2, af2, none⟩).run P w = .ok (.value v) w := by
  have : ev n (upd e s v) (.tmp s) = v := by simp [ev, hs, upd_same]
  rw [act_eval]
  simp [execOp, go_sem, this]
 have w1 : Region.wanted (⟨some s, .call ⟨.builtin .recover, #[], #[]⟩, y1, q1, af1, none⟩ : Oper) (yielded #[⟨some s, .call ⟨.builtin .recover, #[], #[]⟩, y1, q1, af1, none⟩, ⟨some t, .assign (.tmp s), y2, q2, af2, none⟩] (act n e []).tmps) = true := rfl
 have w2 : Region.wanted (⟨some t, .assign (.tmp s), y2, q2, af2, none⟩ : Oper) (yielded #[⟨some s, .call ⟨.builtin .recover, #[], #[]⟩, y1, q1, af1, none⟩, ⟨some t, .assign (.tmp s), y2, q2, af2, none⟩] (act n (upd e s v) []).tmps) = true := rfl
 have p1 : (act n e []).put (some s) v = act n (upd e s v) [] := act_put _ _ _ _ _
 have p2 : (act n (upd e s v) []).put (some t) v = act n (upd (upd e s v) t v) [] := act_put _ _ _ _ _
 show wpOpsS P _ Q [0, 1] (act n e []) cs w
 simp only [wpOpsS, List.getElem?_toArray, List.getElem?_cons_succ, List.getElem?_cons_zero]
 rw [if_pos w1, e1]
 rcases hr with hr | ⟨hr, rfl, rfl⟩
 ·simp only [hr, p1]
  rw [if_pos w2, e2]
  simp only [Oper.upon_value, p2]
  exact H
 ·simp only [hr, p1]
  rw [if_pos w2, e2]
  simp only [Oper.upon_value, p2]
  exact H
theorem rest_idle (r : World) (e : Env) (h : Heap) (he : e 1 = .nilIface) : W ⟨Tryz.prog, r, .none, 17, none, noPan⟩ [] desk_desk_line_1_rest (fun d _ h' => d = [] ∧ h' = h) (fun _ _ _ _ => False) (fun d _ h' => d = [] ∧ h' = h) e h := by
 refine W_mk (l := [(1, .nilIface)]) (fun b => ?_) ⟨he, trivial⟩
 unfold desk_desk_line_1_rest
 refine W_seq ?_
 refine W_region (.pu 0 (.pu 1 .fin)) rfl rfl ?_
 refine s_pu (d := some 5) (v := .nilIface) rfl rfl rfl (r_move rfl) ?_
 refine s_pu (d := some 6) (v := (.bool (!(isNil .nilIface)))) rfl rfl rfl (r_notNilI Tryz.underlying20 rfl rfl rfl) ?_
 refine s_fin ?_
 show W _ _ _ _ _ _ _ _
 refine W_if (!(isNil .nilIface)) rfl (fun g6 => ?_) (fun g6 => ?_)
 ·cases g6
 ·exact W_skip ⟨rfl, rfl⟩
theorem nt1 : (Tryz.f19).ntmps = 17 := rfl
theorem ini1 (p : Addr) : ({ tmps := #[Value.pointer (some p)] ++ Array.replicate ((Tryz.f19).ntmps - (#[Value.pointer (some p)] : Array Value).size) undef, defers := [] } : Act) = act 17 (ini [.pointer (some p)]) [] := by
 rw [nt1]; exact act_ini 17 [.pointer (some p)] (by simp)
theorem catch_idle (r : World) (p : Addr) (h : Heap) (dr : Nat) : CallsD Tryz.prog 19 #[.pointer (some p)] .returning (wd r h dr) fun e u' w' => (∃ v, e = .returned v) ∧ u' = .returning ∧ ∃ dr', w' = wd r h dr' := by
 refine callsD_of_wpS Tryz.func19 rfl fun c₀ cs hu => ?_
 rw [ini1]
 refine wpS_seq (wpS_region (wpS_recover (v := .nilIface) (cs' := c₀ :: cs) rfl rfl (.inr ⟨?_, rfl, rfl⟩) ?_))
 ·simp [recoverD, hu]
 refine wpS_of_wp (wp_mono ((wpIn_wide (n := 0)).1 (rest_idle r _ h (upd_same _ _ _) dr)) ?_)
 have fin : ∀ e dr', bodyPostS Tryz.prog Tryz.f19 c₀ cs (fun e u' w' => (∃ v, e = .returned v) ∧ u' = .returning ∧ ∃ dr', w' = wd r h dr') .ret (act 17 e []) (c₀ :: cs) (wd r h dr') := fun e dr' => by
  refine ⟨rfl, .returning, by rw [← hu], .tuple #[], ?_, ⟨_, rfl⟩, rfl, _, rfl⟩
  exact run_results (P := Tryz.prog) (r := r) (fn := Tryz.f19) (n := 17) (e := e) (d := []) (h := h) (l := []) (vs := []) rfl (by simp) rfl dr'
 intro x a w hq
 cases x with
 | normal => obtain ⟨d, e, h', dr', rfl, rfl, rfl, rfl⟩ := hq; exact fin e dr'
 | ret => obtain ⟨d, e, h', dr', rfl, rfl, rfl, rfl⟩ := hq; exact fin e dr'
 | exit i => obtain ⟨_, _, _, _, _, _, hf⟩ := hq; exact hf.elim
 | panic ch => obtain ⟨_, _, _, _, _, _, _, _, hf⟩ := hq; exact hf.elim
 | _ => exact hq.elim
theorem catch_ok {r : World} {p : Addr} {k : Int} {h : Heap} {R : Heap → Prop} (H : desk_desk_line_1_F r p k h R) (dr : Nat) : CallsD Tryz.prog 19 #[.pointer (some p)] (.panicking [{ v := .iface 34 (.int .i64 k), recovered := false }]) (wd r h dr) fun e u' w' =>
  (∃ v, e = .returned v) ∧ u' = .panicking [{ v := .iface 34 (.int .i64 k), recovered := true }] ∧ ∃ h' dr', w' = wd r h' dr' ∧ R h' := by
 refine callsD_of_wpS Tryz.func19 rfl fun c₀ cs hu => ?_
 rw [ini1]
 refine wpS_seq (wpS_region (wpS_recover (v := .iface 34 (.int .i64 k)) (cs' := { c₀ with mode := .panicking [{ v := .iface 34 (.int .i64 k), recovered := true }] } :: cs) rfl rfl (.inl ?_) ?_))
 ·simp [recoverD, hu]
 have hw := W_mk (e := upd (upd (ini [.pointer (some p)]) 4 (.iface 34 (.int .i64 k))) 1 (.iface 34 (.int .i64 k))) (desk_desk_line_1_W H) ⟨rfl, rfl, trivial⟩
 refine wpS_of_wp (wp_mono ((wpIn_wide (n := 0)).1 (hw dr)) ?_)
 have fin : ∀ e h' dr', R h' → bodyPostS Tryz.prog Tryz.f19 c₀ cs (fun e u' w' => (∃ v, e = .returned v) ∧ u' = .panicking [{ v := .iface 34 (.int .i64 k), recovered := true }] ∧ ∃ h' dr', w' = wd r h' dr' ∧ R h') .ret (act 17 e []) ({ c₀ with mode := .panicking [{ v := .iface 34 (.int .i64 k), recovered := true }] } :: cs) (wd r h' dr') := fun e h' dr' hR => by
  refine ⟨rfl, _, rfl, .tuple #[], ?_, ⟨_, rfl⟩, rfl, _, _, rfl, hR⟩
  exact run_results (P := Tryz.prog) (r := r) (fn := Tryz.f19) (n := 17) (e := e) (d := []) (h := h') (l := []) (vs := []) rfl (by simp) rfl dr'
 intro x a w hq
 cases x with
 | normal => obtain ⟨d, e, h', dr', rfl, rfl, rfl, hR⟩ := hq; exact fin e h' dr' hR
 | ret => obtain ⟨d, e, h', dr', rfl, rfl, rfl, hR⟩ := hq; exact fin e h' dr' hR
 | exit i => obtain ⟨_, _, _, _, _, _, hf⟩ := hq; exact hf.elim
 | panic ch => obtain ⟨_, _, _, _, _, _, _, _, hf⟩ := hq; exact hf.elim
 | _ => exact hq.elim
end Go.Proofs.YthkimbiknhebeaaGreatDoor.St
namespace Go.Proofs.YthkimbiknhebeaaGreatDoor.St
open Go Go.RowKit Go.Tw
set_option linter.unusedVariables false
section
variable {r : World} {h : Heap}
abbrev Tab (r : World) (h : Heap) : Prop := ∀ h', Fw h h' → ∀ dr, Lib.TabIs Tryz.prog (wd r h' dr) "internal/strconv.uint64pow10" .u64 Lib.pow10Tab
theorem join_len : ∀ (l : List (List UInt8)), (∀ x ∈ l, x.length ≤ 20) → (Lib.join l [32]).length ≤ 21 * l.length := by
 intro l
 induction l with
 | nil => intro _; simp [Lib.join, List.intercalate]
 | cons x l ih =>
  intro h
  have hx := h x (by simp)
  have ih := ih fun y hy => h y (List.mem_cons_of_mem _ hy)
  cases l with
  | nil => simp [Lib.join, List.intercalate]; omega
  | cons z l =>
   have e : Lib.join (x :: z :: l) [32] = x ++ [32] ++ Lib.join (z :: l) [32] := by
    simp [Lib.join, List.intercalate, List.intersperse_cons_cons]
   rw [e]
   simp only [List.length_append, List.length_cons, List.length_nil] at ih ⊢
   omega
theorem dtext_ok {s : Sl} {l : List Int} {n : Nat} {R : ByteArray → Heap → Prop} (S : RI n h s l) (hn : n ≤ h.size) (hz : l.length ≤ 1048576) (hin : ∀ x ∈ l, -9223372036854775808 ≤ x ∧ x < 9223372036854775808) (ht : Tab r h) (H : ∀ h', Fw h h' → R ⟨(Lib.join (l.map Lib.itoa) [32]).toArray⟩ h') : desk_text r s h R := by
 apply desk_text_of
 have sl := S.len
 intro X HX
 have key : ∀ (d i : Nat) (so : Sl) (h1 : Heap), i + d = l.length → Fw h h1 → Own h.size 1 h1 so (((l.take i).map Lib.itoa).map sV) → X so (i : Int) h1 := by
  intro d
  induction d with
  | zero =>
   intro i so h1 hi E O
   rw [List.take_of_length_le (by omega)] at O
   refine HX _ _ _ ⟨fun c => absurd (of_decide_eq_true c) (by omega), fun _ => ?_⟩
   refine join_ok (sep := [32]) O.rs (Nat.le_refl _) (by simp; omega) ?_ fun h5 E5 => H h5 (E.trans E5)
   have := join_len (l.map Lib.itoa) fun x hx => by
    obtain ⟨y, hy, rfl⟩ := List.mem_map.1 hx
    exact itoa_len (hin y hy).1 (hin y hy).2
   rw [List.length_map] at this; omega
  | succ d ih =>
   intro i so h1 hi E O
   have hil : i < l.length := by omega
   have ex : l[(i : Int).toNat]! = l[i] := by rw [Int.toNat_natCast, getElem!_pos l i hil]
   have b := hin l[i] (List.getElem_mem hil)
   refine HX _ _ _ ⟨fun _ => RI.ix (S.ext E hn) (by omega) (by omega) fun p _ hp => ⟨_, hp, ?_⟩, fun c => absurd (of_decide_eq_false c) (by omega)⟩
   rw [ex]
   refine itoa_ok b.1 (by omega) (ht h1 E) fun h2 E2 => ?_
   have lo := O.len
   rw [List.length_map, List.length_map, List.length_take] at lo
   refine App.push (cs := [sV (Lib.itoa l[i])]) (O.ext E2) rfl rfl (one_all rfl) (E.trans E2).1 (by omega) fun s3 h3 G => ?_
   rw [w64_of (by omega) (by omega)]
   refine ih (i + 1) s3 h3 (by omega) ((E.trans E2).trans' G.ext) ?_
   have e : l.take (i + 1) = l.take i ++ [l[i]] := by rw [List.take_add_one, List.getElem?_eq_getElem hil]; rfl
   rw [e, List.map_append, List.map_append]; exact G.own
 exact key l.length 0 Sl.nil h (by omega) (Fw.refl h) (by simpa using Own.nil h.size 1 h)
end
end Go.Proofs.YthkimbiknhebeaaGreatDoor.St
namespace Go.Proofs.YthkimbiknhebeaaGreatDoor.St
open Go Go.RowKit Go.Tw
open Go.Proofs.YthkimbiknhebeaaGreatDoor.Wb (Ri lo hi)
set_option linter.unusedVariables false
section
variable {r : World} {g : Nat} {h h' : Heap}
/-- what the library asks of a world -/
def Lb0 (r : World) (h : Heap) : Prop := (∃ m, hcell h ⟨0, 0, none⟩ = some (.int .i64 m)) ∧ (∃ ev, hcell h ⟨3, 0, none⟩ = some ev ∧ (ev = .nilIface ∨ ∃ te pe, ev = .iface te pe)) ∧
 (∃ ev, hcell h ⟨4, 0, none⟩ = some ev ∧ (ev = .nilIface ∨ ∃ te pe, ev = .iface te pe)) ∧ ∀ dr, Lib.TabIs Tryz.prog (wd r h dr) "internal/strconv.uint64pow10" .u64 Lib.pow10Tab
/-- .. whatever is written beyond the first g blocks -/
def Lb (r : World) (g : Nat) (h : Heap) : Prop := ∀ h', Ext g h h' → Lb0 r h'
theorem Lb.ext (L : Lb r g h) (E : Ext g h h') : Lb r g h' := fun h2 E2 => L h2 (E.trans E2)
theorem Lb.fw (L : Lb r g h) (hg : g ≤ h.size) (E : Fw h h') : Lb r g h' := L.ext (E.mono hg)
theorem Lb.here (L : Lb r g h) : Lb0 r h := L h (Ext.refl _ _)
theorem Lb.tab (L : Lb r g h) (hg : g ≤ h.size) : Tab r h := fun h' E => (L h' (E.mono hg)).2.2.2
/-! ### forms -/
def formsE : Array MapEntry := #[⟨.string ⟨#[105, 110, 115]⟩, .int .i64 2, 0⟩, ⟨.string ⟨#[100, 101, 108]⟩, .int .i64 1, 1⟩, ⟨.string ⟨#[99, 117, 116]⟩, .int .i64 2, 2⟩, ⟨.string ⟨#[115, 117, 109]⟩, .int .i64 2, 3⟩, ⟨.string ⟨#[112, 117, 116]⟩, .int .i64 1, 4⟩,
 ⟨.string ⟨#[100, 114, 111, 112]⟩, .int .i64 1, 5⟩, ⟨.string ⟨#[114, 97, 110, 107]⟩, .int .i64 1, 6⟩, ⟨.string ⟨#[108, 105, 115, 116]⟩, .int .i64 0, 7⟩, ⟨.string ⟨#[115, 101, 116]⟩, .int .i64 0, 8⟩]
theorem hput_push {o o' : Obj} : hput (h.push o) h.size o' = h.push o' := by
 unfold hput
 apply Array.ext_getElem?
 intro i
 rw [Array.getElem?_setIfInBounds, Array.getElem?_push, Array.getElem?_push]
 by_cases e : h.size = i
 ·subst e; simp
 ·simp [e, Ne.symm e]
theorem ins_step {es : Array MapEntry} {ck : Nat} {key : ByteArray} {v : Value} {K : Heap → Prop} (hn : Instr.findNow .string (.string key) es.toList 0 = some none) (H : K (h.push (.map (es.push { key := .string key, val := v, born := ck }) (ck + 1)))) : InsM (h.push (.map es ck)) h.size key v K :=
 ⟨es, ck, by simp, hn, fun h' e => by rw [e, hput_push]; exact H⟩
theorem forms_ok {R : Option Nat → Heap → Prop} (H : R (some h.size) (h.push (.map formsE 9))) : desk_forms r h R := by
 apply desk_forms_of
 intro m1 h1 e1 e2
 subst e1; subst e2
 exact ins_step rfl (ins_step rfl (ins_step rfl (ins_step rfl (ins_step rfl (ins_step rfl (ins_step rfl (ins_step rfl (ins_step rfl H))))))))
theorem fm_ne {w k : List UInt8} (h : w ≠ k) : ((⟨w.toArray⟩ : ByteArray) == ⟨k.toArray⟩) = false := by
 apply Bool.eq_false_iff.2
 intro e
 have e : (w.toArray == k.toArray) = true := e
 exact h (by simpa using e)
theorem forms_find (w : List UInt8) : (∃ i, ar w ≠ -1 ∧ Instr.findNow .string (.string ⟨w.toArray⟩) formsE.toList 0 = some (some (i, .int .i64 (ar w)))) ∨ (ar w = -1 ∧ Instr.findNow .string (.string ⟨w.toArray⟩) formsE.toList 0 = some none) := by
 by_cases h1 : w = wIns
 ·subst h1; exact .inl ⟨0, by decide, rfl⟩
 by_cases h2 : w = wDel
 ·subst h2; exact .inl ⟨1, by decide, rfl⟩
 by_cases h3 : w = wCut
 ·subst h3; exact .inl ⟨2, by decide, rfl⟩
 by_cases h4 : w = wSum
 ·subst h4; exact .inl ⟨3, by decide, rfl⟩
 by_cases h5 : w = wPut
 ·subst h5; exact .inl ⟨4, by decide, rfl⟩
 by_cases h6 : w = wDrop
 ·subst h6; exact .inl ⟨5, by decide, rfl⟩
 by_cases h7 : w = wRank
 ·subst h7; exact .inl ⟨6, by decide, rfl⟩
 by_cases h8 : w = wList
 ·subst h8; exact .inl ⟨7, by decide, rfl⟩
 by_cases h9 : w = wSet
 ·subst h9; exact .inl ⟨8, by decide, rfl⟩
 refine .inr ⟨by simp [ar, p1, p2, p3, h1, h2, h3, h4, h5, h6, h7, h8, h9], ?_⟩
 have f1 := fm_ne h1
 have f2 := fm_ne h2
 have f3 := fm_ne h3
 have f4 := fm_ne h4
 have f5 := fm_ne h5
 have f6 := fm_ne h6
 have f7 := fm_ne h7
 have f8 := fm_ne h8
 have f9 := fm_ne h9
 simp only [wIns, wDel, wCut, wSum, wPut, wDrop, wRank, wList, wSet] at f1 f2 f3 f4 f5 f6 f7 f8 f9
 simp [formsE, Instr.findNow, Instr.sameNow, f1, f2, f3, f4, f5, f6, f7, f8, f9]
theorem forms_lk {w : List UInt8} {m : Nat} {K : Int → Bool → Prop} (hm : h[m]? = some (.map formsE 9)) (H1 : ar w ≠ -1 → K (ar w) true) (H0 : ar w = -1 → K 0 false) : LkI h (some m) ⟨w.toArray⟩ K := by
 rcases forms_find w with ⟨i, h1, h2⟩ | ⟨h1, h2⟩
 ·exact ⟨m, formsE, 9, ar w, true, rfl, hm, .inl ⟨i, rfl, h2⟩, H1 h1⟩
 ·exact ⟨m, formsE, 9, 0, false, rfl, hm, .inr ⟨rfl, rfl, h2⟩, H0 h1⟩
/-! ### a number -/
theorem dnum_ok {w : List UInt8} {Pn : Value → Heap → Prop} {R : Int → Heap → Prop} (L : Lb r g h) (hg : g ≤ h.size) (hw : w.length ≤ 1099511627776) (H1 : ∀ m h', num? w = some m → Fw h h' → R m h')
  (H0 : num? w = none → ∀ h', Fw h h' → Pn (.iface 34 (.int .i64 6)) h') : desk_number r ⟨w.toArray⟩ h Pn R := by
 apply desk_number_of
 obtain ⟨_, ⟨ev, hv, he⟩, ⟨ev2, hv2, he2⟩, _⟩ := L.here
 have hd : (⟨w.toArray⟩ : ByteArray).data.toList = w := by simp
 have bad : ∀ {y2 : Int} {J5 : Bool → Heap → Prop}, (∀ (x4 : Bool) (h2 : Heap), (∀ J7 : Heap → Prop, (∀ (h3 : Heap), (R y2 h3) → J7 h3) → Br x4 (Pn ((.iface 34 (.int .i64 6))) h2) (J7 h2)) → J5 x4 h2) → num? w = none → ∀ h2, Fw h h2 → J5 true h2 :=
  fun HJ hn h2 E2 => HJ _ _ fun J7 HJ7 => ⟨fun _ => H0 hn h2 E2, fun c => by cases c⟩
 refine atoi_ok (by show w.length ≤ _; omega) hv he hv2 he2 (fun v h1 ea E1 => ?_) (fun hn x t p h1 E1 => ?_)
 ·rw [hd] at ea
  intro J5 HJ
  have no : (¬ (-1073741824 ≤ v ∧ v ≤ 1073741824 ∧ Lib.itoa v = w)) → num? w = none := fun hc => num_none.2 fun m hm => by
   obtain ⟨a, b⟩ := numW_atoi.1 hm
   rw [ea] at a; cases a
   exact hc b
  refine ⟨rfl, fun c => (by cases c), fun _ => ⟨fun c => ?_, fun c1 => ⟨fun c => ?_, fun c2 => ?_⟩⟩⟩
  ·have := of_decide_eq_true c
   exact bad HJ (no (by omega)) _ E1
  ·have := of_decide_eq_true c
   exact bad HJ (no (by omega)) _ E1
  ·have c1 := of_decide_eq_false c1
   have c2 := of_decide_eq_false c2
   refine itoa_ok (by omega) (by omega) ((L.fw hg E1).here).2.2.2 fun h4 E4 => ?_
   by_cases e : Lib.itoa v = w
   ·rw [e, decide_eq_true rfl]
    refine HJ _ _ fun J7 HJ7 => ⟨fun c => (by cases c), fun _ => HJ7 _ (H1 v h4 (num_iff.2 (numW_atoi.2 ⟨ea, by omega, by omega, e⟩)) (E1.trans E4))⟩
   ·rw [decide_eq_false (fun q => e (ba_eq q))]
    exact bad HJ (no fun q => e q.2.2) _ (E1.trans E4)
 ·rw [hd] at hn
  intro J5 HJ
  refine ⟨rfl, fun _ => bad HJ (num_none.2 fun m hm => hn m (numW_atoi.1 hm).1) _ E1, fun c => (by cases c)⟩
end
end Go.Proofs.YthkimbiknhebeaaGreatDoor.St
namespace Go.Proofs.YthkimbiknhebeaaGreatDoor.St
open Go Go.RowKit Go.Tw
open Go.Proofs.YthkimbiknhebeaaGreatDoor.Wb (Ri lo hi)
set_option linter.unusedVariables false
/-- all that was there is as it was, but for block D -/
def Xc (D : Nat) (h h' : Heap) : Prop := h.size ≤ h'.size ∧ ∀ c, c < h.size → c ≠ D → h'[c]? = h[c]?
/-- the desk, at block D, of trees in blocks of A -/
def DeA (A : Nat → Prop) (D : Nat) (h : Heap) (q t : List Int) : Prop := ∃ a b, Blk h D [.pointer a, .pointer b] ∧ Mo.Tr A h a q ∧ Wb.Tr A h b t
section
variable {r : World} {g D : Nat} {h h' h2 : Heap} {A A' : Nat → Prop} {q t : List Int}
theorem Xc.fw (E : Fw h h') : Xc D h h' := ⟨E.1, fun c hc _ => E.2 c hc⟩
theorem Xc.trans (X : Xc D h h') (Y : Xc D h' h2) : Xc D h h2 := ⟨Nat.le_trans X.1 Y.1, fun c hc hd => (Y.2 c (Nat.lt_of_lt_of_le hc X.1) hd).trans (X.2 c hc hd)⟩
theorem Xc.blk {b : Nat} {cs : List Value} (X : Xc D h h') (B : Blk h b cs) (hb : b ≠ D) : Blk h' b cs := B.of_eq (X.2 b B.lt hb)
theorem Xc.ext (X : Xc D h h') (hg : g ≤ D) (hD : D < h.size) : Ext g h h' := ⟨X.1, fun b hb => X.2 b (by omega) (by omega)⟩
theorem Xc.over {c : Nat} (X : Xc D h h') (hc : h.size ≤ c) (ho : ∀ d, d ≠ c → h2[d]? = h'[d]?) (hz : h2.size = h'.size) : Xc D h h2 :=
 ⟨by rw [hz]; exact X.1, fun d hd hn => (ho d (by omega)).trans (X.2 d hd hn)⟩
theorem Xc.to (X : Xc D h h') (hA : ¬ A D) : To A A h h' := ⟨X.1, fun b hb hi => ⟨X.2 b hi.lt (fun e => hA (e ▸ hb)), hb⟩⟩
theorem DeA.lt (S : DeA A D h q t) : D < h.size := by obtain ⟨a, b, B, _⟩ := S; exact B.lt
theorem DeA.to (S : DeA A D h q t) (T : To A A' h h') (hD : h'[D]? = h[D]?) : DeA A' D h' q t := by
 obtain ⟨a, b, B, M, W⟩ := S
 exact ⟨a, b, B.of_eq hD, M.to T, W.to T⟩
theorem DeA.fw (S : DeA A D h q t) (E : Fw h h') : DeA A D h' q t := S.to (To.fw E) (E.2 D S.lt)
theorem DeA.weak (S : DeA A D h q t) (hw : ∀ b, A b → A' b) : DeA A' D h q t := S.to (To.weak hw h) rfl
theorem DeA.over {c : Nat} (S : DeA A D h q t) (hc : ¬ A c) (hD : D ≠ c) (ho : ∀ d, d ≠ c → h'[d]? = h[d]?) (hz : h'.size = h.size) : DeA A D h' q t := S.to (To.over hc ho hz) (ho D hD)
theorem St1 {c : Nat} {x y : Value} {K : Heap → Prop} (B : Blk h c [x]) (hK : ∀ h', Blk h' c [y] → (∀ d, d ≠ c → h'[d]? = h[d]?) → h'.size = h.size → K h') : St h (ad c 0) 1 [y] K := St.whole B rfl rfl hK
theorem St2a {c : Nat} {x y z : Value} {K : Heap → Prop} (B : Blk h c [x, y]) (hK : ∀ h', Blk h' c [z, y] → (∀ d, d ≠ c → h'[d]? = h[d]?) → h'.size = h.size → K h') : St h (ad c 0) 1 [z] K :=
 St.one B (by simp) (hK _ B.set (fun d hd => hset_other (show c ≠ d from fun e => hd e.symm)) (hset_size _ _ _))
theorem St2b {c : Nat} {x y z : Value} {K : Heap → Prop} (B : Blk h c [x, y]) (hK : ∀ h', Blk h' c [x, z] → (∀ d, d ≠ c → h'[d]? = h[d]?) → h'.size = h.size → K h') : St h (ad c 1) 1 [z] K :=
 St.one B (by simp) (hK _ B.set (fun d hd => hset_other (show c ≠ d from fun e => hd e.symm)) (hset_size _ _ _))
theorem St2a' {c : Nat} {x y z : Value} {K : Heap → Prop} (B : Blk h c [x, y]) (hK : ∀ h', Blk h' c [z, y] → (∀ d, d ≠ c → h'[d]? = h[d]?) → h'.size = h.size → K h') : St h (Addr.add (ad c 0) 0) 1 [z] K := by
 rw [ad_add]; exact St2a B hK
theorem St2b' {c : Nat} {x y z : Value} {K : Heap → Prop} (B : Blk h c [x, y]) (hK : ∀ h', Blk h' c [x, z] → (∀ d, d ≠ c → h'[d]? = h[d]?) → h'.size = h.size → K h') : St h (Addr.add (ad c 0) 1) 1 [z] K := by
 rw [ad_add]; exact St2b B hK
theorem errno6 {K : ByteArray → Heap → Prop} (H : K ⟨eSyn.toArray⟩ h) : api_Errno_Error r 6 h K := by
 apply api_Errno_Error_of
 unfold api_Errno_Error_F
 exact ⟨fun c => (by cases c), fun _ => ⟨fun c => (by cases c), fun _ => ⟨fun c => (by cases c), fun _ => ⟨fun c => (by cases c), fun _ => ⟨fun c => (by cases c), fun _ => ⟨fun c => (by cases c), fun _ => ⟨fun _ => H, fun c => (by cases c)⟩⟩⟩⟩⟩⟩⟩
theorem errno1 {K : ByteArray → Heap → Prop} (H : K ⟨eRng.toArray⟩ h) : api_Errno_Error r 1 h K := by
 apply api_Errno_Error_of
 unfold api_Errno_Error_F
 exact ⟨fun c => (by cases c), fun _ => ⟨fun _ => H, fun c => (by cases c)⟩⟩
def eFull : List UInt8 := [69, 114, 114, 70, 117, 108, 108]
theorem errno4 {K : ByteArray → Heap → Prop} (H : K ⟨eFull.toArray⟩ h) : api_Errno_Error r 4 h K := by
 apply api_Errno_Error_of
 unfold api_Errno_Error_F
 exact ⟨fun c => (by cases c), fun _ => ⟨fun c => (by cases c), fun _ => ⟨fun c => (by cases c), fun _ => ⟨fun c => (by cases c), fun _ => ⟨fun _ => H, fun c => (by cases c)⟩⟩⟩⟩⟩
theorem changed_ok {l : List Int} {a b s2 : Option Addr} {has : Bool} {Pn : Value → Heap → Prop} {R : ByteArray → Heap → Prop} (B : Blk h D [.pointer a, .pointer b]) (hA : ¬ A D) (T : has = true → Mo.Tr A h s2 l) (T2 : Wb.Tr A h b t) (L : Lb r g h) (hg : g ≤ D) (hl : l.length ≤ 1099511627776)
  (H1 : has = true → ∀ h', Xc D h h' → DeA A D h' l t → R ⟨(Lib.itoa (l.length : Int)).toArray⟩ h') (H0 : has = false → ∀ h', Fw h h' → Pn (.iface 34 (.int .i64 1)) h') : desk_desk_changed r (some (ad D 0)) s2 has h Pn R := by
 apply desk_desk_changed_of
 unfold desk_desk_changed_F
 refine New.cells fun h1 E1 z1 B1 J7 HJ => ?_
 cases has with
 | false => exact ⟨fun _ => H0 rfl h1 E1, fun c => (by cases c)⟩
 | true =>
  refine ⟨fun c => (by cases c), fun _ => HJ _ ⟨_, B1.ld 0 rfl, _, rfl, ?_⟩⟩
  have hD := B.lt
  refine St2a' (E1.blk B) fun h3 B3 o3 z3 => ⟨_, rfl, _, B3.ld2 0 0 rfl, ?_⟩
  have T3 : Mo.Tr A h3 s2 l := ((T rfl).fw E1).to (To.over hA o3 z3)
  have U3 : Wb.Tr A h3 b t := (T2.fw E1).to (To.over hA o3 z3)
  have X3 : Xc D h h3 := ⟨by rw [z3]; exact E1.1, fun c hc hn => (o3 c hn).trans (E1.2 c hc)⟩
  refine Mo.slen_ok T3 fun h4 E4 => ?_
  have X4 := X3.trans (Xc.fw E4)
  refine itoa_ok (by omega) (by omega) ((L.ext (X4.ext hg hD)).here).2.2.2 fun h5 E5 => ?_
  exact H1 rfl h5 (X4.trans (Xc.fw E5)) ⟨_, _, (E4.trans E5).blk B3, T3.fw (E4.trans E5), U3.fw (E4.trans E5)⟩
theorem ranks_ok {l : List Int} {a b s2 : Option Addr} {R : ByteArray → Heap → Prop} (B : Blk h D [.pointer a, .pointer b]) (hA : ¬ A D) (T : Mo.Tr A h a q) (T2 : Wb.Tr A h s2 l) (L : Lb r g h) (hg : g ≤ D) (hl : l.length ≤ 1099511627776)
  (H1 : ∀ h', Xc D h h' → DeA A D h' q l → R ⟨(Lib.itoa (l.length : Int)).toArray⟩ h') : desk_desk_ranks r (some (ad D 0)) s2 h R := by
 apply desk_desk_ranks_of
 unfold desk_desk_ranks_F
 refine New.cells fun h1 E1 z1 B1 => ⟨_, B1.ld 0 rfl, _, rfl, ?_⟩
 have hD := B.lt
 refine St2b' (E1.blk B) fun h3 B3 o3 z3 => ⟨_, (B1.other o3 (Nat.ne_of_gt hD)).ld 0 rfl, ?_⟩
 have T3 : Mo.Tr A h3 a q := (T.fw E1).to (To.over hA o3 z3)
 have U3 : Wb.Tr A h3 s2 l := (T2.fw E1).to (To.over hA o3 z3)
 have X3 : Xc D h h3 := ⟨by rw [z3]; exact E1.1, fun c hc hn => (o3 c hn).trans (E1.2 c hc)⟩
 refine Wb.wlen_ok U3 fun h4 E4 => ?_
 have X4 := X3.trans (Xc.fw E4)
 refine itoa_ok (by omega) (by omega) ((L.ext (X4.ext hg hD)).here).2.2.2 fun h5 E5 => ?_
 exact H1 h5 (X4.trans (Xc.fw E5)) ⟨_, _, (E4.trans E5).blk B3, T3.fw (E4.trans E5), U3.fw (E4.trans E5)⟩
end
end Go.Proofs.YthkimbiknhebeaaGreatDoor.St
namespace Go.Proofs.YthkimbiknhebeaaGreatDoor.St
open Go Go.RowKit Go.Tw
open Go.Proofs.YthkimbiknhebeaaGreatDoor.Wb (Ri lo hi)
set_option linter.unusedVariables false
theorem w64_in (x : Int) : -9223372036854775808 ≤ w64 x ∧ w64 x < 9223372036854775808 := by
 simp only [w64, IntKind.wrap_i64]; omega
theorem ar_le (w : List UInt8) : ar w ≤ 2 ∧ -1 ≤ ar w := by
 unfold ar; split
 ·omega
 ·split
  ·omega
  ·split <;> omega
theorem own_str {N i : Nat} {h : Heap} {s : Sl} {l : List (List UInt8)} {K : Addr → Prop} (O : Own N 1 h s (l.map sV)) (hi : i < l.length) (hK : ∀ p, (∀ h', Ext h.size h h' → hcell h' p = some (sV l[i])) → K p) : Ix s (i : Int) 1 K := by
 have S := O.rs
 have ls : s.len = l.length := by have := S.len; simpa using this
 refine Rs.ix S (by omega) (by omega) (by decide) fun b o hb _ hc => hK _ fun h' E => ?_
 rw [E.cell (show b < h.size from hb)]
 have := hc 0 (by decide)
 simp only [Nat.add_zero, Nat.mul_one] at this ⊢
 rw [this, List.getElem?_map, Int.toNat_natCast, List.getElem?_eq_getElem hi]; rfl
section
variable {r : World} {g D : Nat} {h : Heap} {q t : List Int}
/-- what the desk's sequence and set are -/
structure Dk (q t : List Int) : Prop where
 ri : Ri t
 ql : q.length ≤ 1048576
 tl : t.length ≤ 1048576
 qi : ∀ x ∈ q, -1073741824 ≤ x ∧ x ≤ 1073741824
 ti : ∀ x ∈ t, -1073741824 ≤ x ∧ x ≤ 1073741824
/-- the cells of the array of numbers -/
def nC (ns : List Int) : List Value := (ns ++ List.replicate (2 - ns.length) 0).map iV
def linePn (r : World) (R : ByteArray → Heap → Prop) : Addr → Value → Heap → Prop := fun p v h' => ∃ k, v = .iface 34 (.int .i64 k) ∧ desk_desk_line_1_F r p k h' fun h3 => ∃ y, hcell h3 p = some (.string y) ∧ R y h3
/-- what is left of a line's walk, once its words and numbers are known -/
structure Ln (r : World) (A : Nat → Prop) (g D P : Nat) (h : Heap) (q t : List Int) (out : List Int × List Int × List UInt8) (R : ByteArray → Heap → Prop) : Prop where
 S : DeA A D h q t
 hA : ¬ A D
 hn : ∀ b, h.size ≤ b → A b
 hg : g ≤ D
 L : Lb r g h
 K : Dk q t
 hP : h.size ≤ P
 H : ∀ h', Xc D h h' → DeA A D h' out.1 out.2.1 → R ⟨out.2.2.toArray⟩ h'
variable {A : Nat → Prop} {P : Nat} {out : List Int × List Int × List UInt8} {R : ByteArray → Heap → Prop}
theorem Ln.fin (Z : Ln r A g D P h q t out R) {A' : Nat → Prop} {h1 : Heap} {q' t' : List Int} {an : List UInt8} {x : Value} (hA : ¬ A' P) (hD : ∀ b, A' b → A b) (X : Xc D h h1) (B : Blk h1 P [x]) (S1 : DeA A' D h1 q' t') (e : out = (q', t', an)) :
  St h1 (ad P 0) 1 [.string ⟨an.toArray⟩] fun h2 => LdT h2 (ad P 0) fun y => R y h2 := by
 subst e
 have hDs := Z.S.lt
 have := Z.hP
 exact St1 B fun h2 B2 o2 z2 => ⟨_, B2.cell' rfl, Z.H h2 (X.over Z.hP o2 z2) ((S1.over hA (by omega) o2 z2).weak hD)⟩
theorem Ln.pan (Z : Ln r A g D P h q t out R) {A' : Nat → Prop} {h1 : Heap} {k : Int} {an : List UInt8} {x : Value} (hk : (k = 6 ∧ an = eSyn) ∨ (k = 1 ∧ an = eRng)) (hA : ¬ A' P) (hD : ∀ b, A' b → A b) (X : Xc D h h1) (B : Blk h1 P [x]) (S1 : DeA A' D h1 q t) (e : out = (q, t, an)) :
  linePn r R (ad P 0) (.iface 34 (.int .i64 k)) h1 := by
 refine ⟨k, rfl, ?_⟩
 unfold desk_desk_line_1_F
 refine ⟨fun _ => ?_, fun c => (by cases c)⟩
 rcases hk with ⟨rfl, rfl⟩ | ⟨rfl, rfl⟩
 ·exact errno6 (Z.fin hA hD X B S1 e)
 ·exact errno1 (Z.fin hA hD X B S1 e)
/-- where the numbers have been read -/
structure Rd' (D P N : Nat) (h h7 : Heap) (ns : List Int) : Prop where
 E : Fw h h7
 hN : h.size ≤ N
 hne : P ≠ N
 BP : ∃ x, Blk h7 P [x]
 BN : Blk h7 N (nC ns)
abbrev A3 (A : Nat → Prop) (P N : Nat) : Nat → Prop := fun c => A c ∧ c ≠ P ∧ c ≠ N
variable {N : Nat} {h7 : Heap} {ns : List Int}
theorem Ln.st (Z : Ln r A g D P h q t out R) (Y : Rd' D P N h h7 ns) : DeA (A3 A P N) D h7 q t := Z.S.to (To.old Y.E fun b hb hl => ⟨hb, by have := Z.hP; omega, by have := Y.hN; omega⟩) (Y.E.2 D Z.S.lt)
theorem Ln.newA (Z : Ln r A g D P h q t out R) (Y : Rd' D P N h h7 ns) : ∀ b, h7.size ≤ b → A3 A P N b := fun b hb => by
 obtain ⟨x, BP⟩ := Y.BP
 have h1 := BP.lt
 have h2 := Y.BN.lt
 have h3 := Z.S.lt
 have h4 := Y.E.1
 exact ⟨Z.hn b (by omega), by omega, by omega⟩
/-- a sequence is stored, if there is one -/
theorem Ln.chg (Z : Ln r A g D P h q t out R) (Y : Rd' D P N h h7 ns) {h10 : Heap} {s2 : Option Addr} {has : Bool} {l : List Int} (E10 : Fw h7 h10) (H1 : has = true → Mo.Tr (A3 A P N) h10 s2 l ∧ out = (l, t, Lib.itoa (l.length : Int))) (H0 : has = false → out = (q, t, eRng)) (hl : l.length ≤ 1099511627776) :
  desk_desk_changed r (some (ad D 0)) s2 has h10 (linePn r R (ad P 0)) fun y h11 => St h11 (ad P 0) 1 [.string y] fun h12 => LdT h12 (ad P 0) fun x => R x h12 := by
 obtain ⟨x, BP⟩ := Y.BP
 have S7 := Z.st Y
 have E := Y.E.trans E10
 obtain ⟨a, b, B, M, W⟩ := S7.fw E10
 have hDs := Z.S.lt
 have hP := Z.hP
 refine changed_ok (A := A3 A P N) B (fun c => Z.hA c.1) (fun c => (H1 c).1) W (Z.L.fw (by have := Z.hg; omega) E) Z.hg hl (fun c h' X' S' => ?_) fun c h' E' => ?_
 ·exact Z.fin (fun c => c.2.1 rfl) (fun b hb => hb.1) ((Xc.fw E).trans X') (X'.blk (E10.blk BP) (by omega)) S' (H1 c).2
 ·exact Z.pan (.inr ⟨rfl, rfl⟩) (A' := A3 A P N) (fun c => c.2.1 rfl) (fun b hb => hb.1) (Xc.fw (E.trans E')) ((E10.trans E').blk BP) (S7.fw (E10.trans E')) (H0 c)
/-- a set is stored -/
theorem Ln.rks (Z : Ln r A g D P h q t out R) (Y : Rd' D P N h h7 ns) {h10 : Heap} {s2 : Option Addr} {l : List Int} (E10 : Fw h7 h10) (T : Wb.Tr (A3 A P N) h10 s2 l) (e : out = (q, l, Lib.itoa (l.length : Int))) (hl : l.length ≤ 1099511627776) :
  desk_desk_ranks r (some (ad D 0)) s2 h10 fun y h11 => St h11 (ad P 0) 1 [.string y] fun h12 => LdT h12 (ad P 0) fun x => R x h12 := by
 obtain ⟨x, BP⟩ := Y.BP
 have E := Y.E.trans E10
 obtain ⟨a, b, B, M, W⟩ := (Z.st Y).fw E10
 have hDs := Z.S.lt
 have hP := Z.hP
 refine ranks_ok (A := A3 A P N) B (fun c => Z.hA c.1) M T (Z.L.fw (by have := Z.hg; omega) E) Z.hg hl fun h' X' S' => ?_
 exact Z.fin (fun c => c.2.1 rfl) (fun b hb => hb.1) ((Xc.fw E).trans X') (X'.blk (E10.blk BP) (by omega)) S' e
/-- nothing is stored -/
theorem Ln.say (Z : Ln r A g D P h q t out R) (Y : Rd' D P N h h7 ns) {h10 : Heap} {an : List UInt8} (E10 : Fw h7 h10) (e : out = (q, t, an)) : St h10 (ad P 0) 1 [.string ⟨an.toArray⟩] fun h12 => LdT h12 (ad P 0) fun x => R x h12 := by
 obtain ⟨x, BP⟩ := Y.BP
 exact Z.fin (A' := A3 A P N) (fun c => c.2.1 rfl) (fun b hb => hb.1) (Xc.fw (Y.E.trans E10)) (E10.blk BP) ((Z.st Y).fw E10) e
theorem Ln.lb (Z : Ln r A g D P h q t out R) {h10 : Heap} (E : Fw h h10) : Lb r g h10 := Z.L.fw (by have := Z.S.lt; have := Z.hg; omega) E
theorem Ln.say_int (Z : Ln r A g D P h q t out R) (Y : Rd' D P N h h7 ns) {h10 : Heap} {m : Int} (E10 : Fw h7 h10) (h0 : -9223372036854775808 ≤ m) (h1 : m < 9223372036854775808) (e : out = (q, t, Lib.itoa m)) :
  strconv_Itoa r m h10 fun y h11 => St h11 (ad P 0) 1 [.string y] fun h12 => LdT h12 (ad P 0) fun x => R x h12 :=
 itoa_ok h0 (by omega) (Z.lb (Y.E.trans E10)).here.2.2.2 fun h11 E11 => Z.say Y (E10.trans E11) e
end
end Go.Proofs.YthkimbiknhebeaaGreatDoor.St
namespace Go.Proofs.YthkimbiknhebeaaGreatDoor.St
open Go Go.RowKit Go.Tw
open Go.Proofs.YthkimbiknhebeaaGreatDoor.Wb (Ri lo hi)
set_option linter.unusedVariables false
section
variable {r : World} {A : Nat → Prop} {g D P N : Nat} {h h7 : Heap} {q t ns : List Int} {out : List Int × List Int × List UInt8} {R : ByteArray → Heap → Prop}
theorem Ln.ins {x y : Int} (Z : Ln r A g D P h q t (actA wIns [x, y] q t) R) (Y : Rd' D P N h h7 [x, y]) (hx : -1073741824 ≤ y ∧ y ≤ 1073741824) :
  Ck (some (ad D 0)) fun p67 => LdP h7 (Addr.add (Addr.add p67 0) 0) fun x69 => LdI h7 (Addr.add (ad N 0) 0) fun x71 => LdI h7 (Addr.add (ad N 0) 1) fun x73 =>
   seq_Seq_Insert r x69 x71 x73 h7 fun y75 y76 h10 => desk_desk_changed r (some (ad D 0)) y75 y76 h10 (linePn r R (ad P 0)) fun y77 h11 => St h11 (ad P 0) 1 [.string y77] fun h12 => LdT h12 (ad P 0) fun x80 => R x80 h12 := by
 obtain ⟨a, b, B, M, W⟩ := Z.st Y
 have hq := Z.K.ql
 have e0 : actA wIns [x, y] q t = if 0 ≤ x ∧ x ≤ q.length then (q.take x.toNat ++ y :: q.drop x.toNat, t, Lib.itoa ((q.take x.toNat ++ y :: q.drop x.toNat).length : Int)) else (q, t, eRng) := rfl
 refine ⟨_, rfl, _, B.ld2 0 0 rfl, _, Y.BN.ld 0 rfl, _, Y.BN.ld 1 rfl, Mo.sinsert_ok M (by constructor <;> omega) (by omega) (Z.newA Y) (fun hn h10 E10 => ?_) fun n q' h10 en hle E10 T10 => ?_⟩
 ·exact Z.chg (l := []) Y E10 (fun c => (by cases c)) (fun _ => by rw [e0, if_neg hn]) (by simp)
 ·subst en
  exact Z.chg Y E10 (fun _ => ⟨T10, by rw [e0, if_pos ⟨by omega, by omega⟩, Int.toNat_natCast]⟩) (fun c => (by cases c)) (by simp; omega)
theorem Ln.del {x : Int} (Z : Ln r A g D P h q t (actA wDel [x] q t) R) (Y : Rd' D P N h h7 [x]) :
  Ck (some (ad D 0)) fun p67 => LdP h7 (Addr.add (Addr.add p67 0) 0) fun x69 => LdI h7 (Addr.add (ad N 0) 0) fun x71 =>
   seq_Seq_Delete r x69 x71 h7 fun y75 y76 h10 => desk_desk_changed r (some (ad D 0)) y75 y76 h10 (linePn r R (ad P 0)) fun y77 h11 => St h11 (ad P 0) 1 [.string y77] fun h12 => LdT h12 (ad P 0) fun x80 => R x80 h12 := by
 obtain ⟨a, b, B, M, W⟩ := Z.st Y
 have hq := Z.K.ql
 have e0 : actA wDel [x] q t = if 0 ≤ x ∧ x < q.length then (q.take x.toNat ++ q.drop (x.toNat + 1), t, Lib.itoa ((q.take x.toNat ++ q.drop (x.toNat + 1)).length : Int)) else (q, t, eRng) := rfl
 refine ⟨_, rfl, _, B.ld2 0 0 rfl, _, Y.BN.ld 0 rfl, Mo.sdelete_ok M (by omega) (Z.newA Y) (fun hn h10 E10 => ?_) fun n q' h10 en hle E10 T10 => ?_⟩
 ·exact Z.chg (l := []) Y E10 (fun c => (by cases c)) (fun _ => by rw [e0, if_neg hn]) (by simp)
 ·subst en
  exact Z.chg Y E10 (fun _ => ⟨T10, by rw [e0, if_pos ⟨by omega, by omega⟩, Int.toNat_natCast]⟩) (fun c => (by cases c)) (by simp; omega)
theorem twoA_cut {x y : Int} (q t : List Int) : actA wCut [x, y] q t = if 0 ≤ x ∧ x ≤ y ∧ y ≤ q.length then ((q.drop x.toNat).take (y.toNat - x.toNat), t, Lib.itoa (((q.drop x.toNat).take (y.toNat - x.toNat)).length : Int)) else (q, t, eRng) := rfl
theorem twoA_sum {x y : Int} (q t : List Int) : actA wSum [x, y] q t = if 0 ≤ x ∧ x ≤ y ∧ y ≤ q.length then (q, t, Lib.itoa (w64 ((q.drop x.toNat).take (y.toNat - x.toNat)).sum)) else (q, t, eRng) := rfl
theorem Ln.cut {x y : Int} (Z : Ln r A g D P h q t (actA wCut [x, y] q t) R) (Y : Rd' D P N h h7 [x, y]) :
  Ck (some (ad D 0)) fun p67 => LdP h7 (Addr.add (Addr.add p67 0) 0) fun x69 => LdI h7 (Addr.add (ad N 0) 0) fun x71 => LdI h7 (Addr.add (ad N 0) 1) fun x73 =>
   seq_Seq_Slice r x69 x71 x73 h7 fun y75 y76 h10 => desk_desk_changed r (some (ad D 0)) y75 y76 h10 (linePn r R (ad P 0)) fun y77 h11 => St h11 (ad P 0) 1 [.string y77] fun h12 => LdT h12 (ad P 0) fun x80 => R x80 h12 := by
 obtain ⟨a, b, B, M, W⟩ := Z.st Y
 have hq := Z.K.ql
 refine ⟨_, rfl, _, B.ld2 0 0 rfl, _, Y.BN.ld 0 rfl, _, Y.BN.ld 1 rfl, Mo.sslice_ok M (by omega) (Z.newA Y) (fun hn h10 E10 => ?_) fun m n q' h10 em en hmn hle E10 T10 => ?_⟩
 ·exact Z.chg (l := []) Y E10 (fun c => (by cases c)) (fun _ => by rw [twoA_cut, if_neg hn]) (by simp)
 ·subst em; subst en
  rw [List.drop_take] at T10
  exact Z.chg Y E10 (fun _ => ⟨T10, by rw [twoA_cut, if_pos ⟨by omega, by omega, by omega⟩, Int.toNat_natCast, Int.toNat_natCast]⟩) (fun c => (by cases c)) (by simp; omega)
theorem Ln.sum {x y : Int} (Z : Ln r A g D P h q t (actA wSum [x, y] q t) R) (Y : Rd' D P N h h7 [x, y]) (J112 : Addr → Bool → Heap → Prop)
  (HJ : ∀ (p110 : Addr) (has111 : Bool) (h19 : Heap),
   (∀ J114 : Heap → Prop, (∀ (h20 : Heap), (LdI h20 (Addr.add p110 1) fun x116 => strconv_Itoa r x116 h20 fun y118 h21 => St h21 (ad P 0) 1 [(.string y118)] fun h22 => LdT h22 (ad P 0) fun x121 => R x121 h22) → J114 h20) →
    Br (!has111) (linePn r R (ad P 0) ((.iface 34 (.int .i64 1))) h19) (J114 h19)) → J112 p110 has111 h19) :
  Ck (some (ad D 0)) fun p124 => LdP h7 (Addr.add (Addr.add p124 0) 0) fun x126 => LdI h7 (Addr.add (ad N 0) 0) fun x128 => LdI h7 (Addr.add (ad N 0) 1) fun x130 =>
   (seq_Seq_Measure r x126 x128 x130 h7 fun y132 y133 y134 y135 y136 y137 h23 =>
    New h23 (.cells #[(.int .i64 0), (.int .i64 0), (.int .i64 0), (.int .i64 0), (.int .i64 0)] 66) fun p138 h24 =>
    (hcell h24 (Addr.add (ad N 0) 1) = some (.int .i64 x130)) ∧ (hcell h24 (Addr.add (ad N 0) 0) = some (.int .i64 x128)) ∧ (hcell h24 (Addr.add (Addr.add p124 0) 0) = some (.pointer x126)) ∧
    St h24 p138 5 [(.int .i64 y132), (.int .i64 y133), (.int .i64 y134), (.int .i64 y135), (.int .i64 y136)] fun h25 => J112 p138 y137 h25) ∧
   (New h7 (.cells #[(.int .i64 0), (.int .i64 0), (.int .i64 0), (.int .i64 0), (.int .i64 0)] 66) fun p146 h26 =>
    (hcell h26 (Addr.add (ad N 0) 1) = some (.int .i64 x130)) ∧ (hcell h26 (Addr.add (ad N 0) 0) = some (.int .i64 x128)) ∧ (hcell h26 (Addr.add (Addr.add p124 0) 0) = some (.pointer x126)) ∧
    seq_Seq_Measure r x126 x128 x130 h26 fun y152 y153 y154 y155 y156 y157 h27 =>
    St h27 p146 5 [(.int .i64 y152), (.int .i64 y153), (.int .i64 y154), (.int .i64 y155), (.int .i64 y156)] fun h28 => J112 p146 y157 h28) := by
 have S7 := Z.st Y
 obtain ⟨a, b, B, M, W⟩ := Z.st Y
 obtain ⟨xP, BP⟩ := Y.BP
 have hq := Z.K.ql
 -- what follows a measure
 have bad : ∀ {h9 : Heap} {p : Addr}, Fw h7 h9 → ¬ (0 ≤ x ∧ x ≤ y ∧ y ≤ q.length) → J112 p false h9 := fun {h9 p} E9 hn =>
  HJ _ _ _ fun J114 HJ2 => ⟨fun _ => Z.pan (.inr ⟨rfl, rfl⟩) (A' := A3 A P N) (fun c => c.2.1 rfl) (fun b hb => hb.1) (Xc.fw (Y.E.trans E9)) (E9.blk BP) (S7.fw E9) (by rw [twoA_sum, if_neg hn]), fun c => (by cases c)⟩
 have good : ∀ {h9 : Heap} {c : Nat} {v1 v3 v4 v5 : Int} {m n : Nat}, Fw h7 h9 → x = m → y = n → m ≤ n → n ≤ q.length → Blk h9 c [iV v1, iV (w64 ((q.take n).drop m).sum), iV v3, iV v4, iV v5] → J112 (ad c 0) true h9 := fun {h9 c v1 v3 v4 v5 m n} E9 em en hmn hle B9 => by
  subst em; subst en
  rw [List.drop_take] at B9
  refine HJ _ _ _ fun J114 HJ2 => ⟨fun c => (by cases c), fun _ => HJ2 _ ⟨_, B9.ld 1 rfl, ?_⟩⟩
  have := w64_in ((q.drop m).take (n - m)).sum
  exact Z.say_int Y E9 this.1 this.2 (by rw [twoA_sum, if_pos ⟨by omega, by omega, by omega⟩, Int.toNat_natCast, Int.toNat_natCast])
 refine ⟨_, rfl, _, B.ld2 0 0 rfl, _, Y.BN.ld 0 rfl, _, Y.BN.ld 1 rfl, ?_, ?_⟩
 ·refine Mo.smeasure_ok M (by omega) (Z.newA Y) (fun hn h8 E8 => ?_) fun m n h8 em en hmn hle E8 => ?_
  ·refine New.cells (cs := [iV 0, iV 0, iV 0, iV 0, iV 0]) fun h9 E9 z9 B9 => ⟨((E8.trans E9).blk Y.BN).ld 1 rfl, ((E8.trans E9).blk Y.BN).ld 0 rfl, ((E8.trans E9).blk B).ld2 0 0 rfl, St.whole B9 rfl rfl fun h10 B10 o10 z10 => bad ((E8.trans E9).over E8.1 o10 z10) hn⟩
  ·refine New.cells (cs := [iV 0, iV 0, iV 0, iV 0, iV 0]) fun h9 E9 z9 B9 => ⟨((E8.trans E9).blk Y.BN).ld 1 rfl, ((E8.trans E9).blk Y.BN).ld 0 rfl, ((E8.trans E9).blk B).ld2 0 0 rfl, St.whole B9 rfl rfl fun h10 B10 o10 z10 => good ((E8.trans E9).over E8.1 o10 z10) em en hmn hle B10⟩
 ·refine New.cells (cs := [iV 0, iV 0, iV 0, iV 0, iV 0]) fun h8 E8 z8 B8 => ⟨(E8.blk Y.BN).ld 1 rfl, (E8.blk Y.BN).ld 0 rfl, (E8.blk B).ld2 0 0 rfl, ?_⟩
  refine Mo.smeasure_ok (M.fw E8) (by omega) (fun b hb => Z.newA Y b (Nat.le_trans E8.1 hb)) (fun hn h9 E9 => ?_) fun m n h9 em en hmn hle E9 => ?_
  ·exact St.whole (E9.blk B8) rfl rfl fun h10 B10 o10 z10 => bad ((E8.trans E9).over (Nat.le_refl _) o10 z10) hn
  ·exact St.whole (E9.blk B8) rfl rfl fun h10 B10 o10 z10 => good ((E8.trans E9).over (Nat.le_refl _) o10 z10) em en hmn hle B10
theorem Ln.put {x : Int} (Z : Ln r A g D P h q t (actA wPut [x] q t) R) (Y : Rd' D P N h h7 [x]) :
  Ck (some (ad D 0)) fun p160 => LdP h7 (Addr.add (Addr.add p160 1) 0) fun x162 => LdI h7 (Addr.add (ad N 0) 0) fun x164 => wbt_Set_Put r x162 x164 h7 fun y166 h29 =>
   desk_desk_ranks r (some (ad D 0)) y166 h29 fun y167 h30 => St h30 (ad P 0) 1 [(.string y167)] fun h31 => LdT h31 (ad P 0) fun x170 => R x170 h31 := by
 obtain ⟨a, b, B, M, W⟩ := Z.st Y
 have ht := Z.K.tl
 have := put_len x t Z.K.ri
 exact ⟨_, rfl, _, B.ld2 1 0 rfl, _, Y.BN.ld 0 rfl, Wb.wput_ok W Z.K.ri (by omega) (Z.newA Y) fun q' h10 E10 T10 => Z.rks (l := putS x t) Y E10 T10 rfl (by omega)⟩
theorem Ln.drop {x : Int} (Z : Ln r A g D P h q t (actA wDrop [x] q t) R) (Y : Rd' D P N h h7 [x]) :
  Ck (some (ad D 0)) fun p160 => LdP h7 (Addr.add (Addr.add p160 1) 0) fun x162 => LdI h7 (Addr.add (ad N 0) 0) fun x164 => wbt_Set_Drop r x162 x164 h7 fun y166 h29 =>
   desk_desk_ranks r (some (ad D 0)) y166 h29 fun y167 h30 => St h30 (ad P 0) 1 [(.string y167)] fun h31 => LdT h31 (ad P 0) fun x170 => R x170 h31 := by
 obtain ⟨a, b, B, M, W⟩ := Z.st Y
 have ht := Z.K.tl
 have := drop_len x t Z.K.ri
 exact ⟨_, rfl, _, B.ld2 1 0 rfl, _, Y.BN.ld 0 rfl, Wb.wdrop_ok W Z.K.ri (by omega) (Z.newA Y) fun q' h10 E10 T10 => Z.rks (l := dropS x t) Y E10 T10 rfl (by omega)⟩
theorem Ln.rank {x : Int} (Z : Ln r A g D P h q t (actA wRank [x] q t) R) (Y : Rd' D P N h h7 [x]) :
  Ck (some (ad D 0)) fun p184 => LdP h7 (Addr.add (Addr.add p184 1) 0) fun x186 => LdI h7 (Addr.add (ad N 0) 0) fun x188 => wbt_Set_Rank r x186 x188 h7 fun y190 h35 =>
   strconv_Itoa r y190 h35 fun y191 h36 => St h36 (ad P 0) 1 [(.string y191)] fun h37 => LdT h37 (ad P 0) fun x194 => R x194 h37 := by
 obtain ⟨a, b, B, M, W⟩ := Z.st Y
 have ht := Z.K.tl
 have : (lo x t).length ≤ t.length := List.length_filter_le _ _
 exact ⟨_, rfl, _, B.ld2 1 0 rfl, _, Y.BN.ld 0 rfl, Wb.wrank_ok W Z.K.ri (by omega) fun h10 E10 => Z.say_int Y E10 (by omega) (by omega) rfl⟩
theorem Ln.text (Z : Ln r A g D P h q t out R) (Y : Rd' D P N h h7 ns) {h10 : Heap} {s : Sl} {l : List Int} (E10 : Fw h7 h10) (O : Own h7.size 1 h10 s (l.map iV)) (hz : l.length ≤ 1048576) (hi : ∀ x ∈ l, -1073741824 ≤ x ∧ x ≤ 1073741824) (e : out = (q, t, Lib.join (l.map Lib.itoa) [32])) :
  desk_text r s h10 fun y201 h39 => St h39 (ad P 0) 1 [(.string y201)] fun h40 => LdT h40 (ad P 0) fun x204 => R x204 h40 := by
 have hD := Z.S.lt
 have hg := Z.hg
 have hs := Y.E.1
 exact dtext_ok O.rs (Nat.le_refl _) hz (fun x hx => by have := hi x hx; omega) ((Z.lb (Y.E.trans E10)).tab (by have := E10.1; omega)) fun h11 E11 => Z.say Y (E10.trans E11) e
theorem Ln.list (Z : Ln r A g D P h q t (actA wList [] q t) R) (Y : Rd' D P N h h7 []) :
  Ck (some (ad D 0)) fun p196 => LdP h7 (Addr.add (Addr.add p196 0) 0) fun x198 => seq_Seq_Ints r x198 h7 fun y200 h38 => desk_text r y200 h38 fun y201 h39 => St h39 (ad P 0) 1 [(.string y201)] fun h40 => LdT h40 (ad P 0) fun x204 => R x204 h40 := by
 obtain ⟨a, b, B, M, W⟩ := Z.st Y
 have hq := Z.K.ql
 exact ⟨_, rfl, _, B.ld2 0 0 rfl, Mo.sints_ok M (by omega) fun s h10 E10 O10 => Z.text Y E10 O10 hq Z.K.qi rfl⟩
theorem Ln.set (Z : Ln r A g D P h q t (actA wSet [] q t) R) (Y : Rd' D P N h h7 []) :
  Ck (some (ad D 0)) fun p206 => LdP h7 (Addr.add (Addr.add p206 1) 0) fun x208 => wbt_Set_Ints r x208 h7 fun y210 h41 => desk_text r y210 h41 fun y211 h42 => St h42 (ad P 0) 1 [(.string y211)] fun h43 => LdT h43 (ad P 0) fun x214 => R x214 h43 := by
 obtain ⟨a, b, B, M, W⟩ := Z.st Y
 have ht := Z.K.tl
 exact ⟨_, rfl, _, B.ld2 1 0 rfl, Wb.wints_ok W (by omega) fun s h10 E10 O10 => Z.text Y E10 O10 ht Z.K.ti rfl⟩
end
end Go.Proofs.YthkimbiknhebeaaGreatDoor.St
namespace Go.Proofs.YthkimbiknhebeaaGreatDoor.St
open Go Go.RowKit Go.Tw
open Go.Proofs.YthkimbiknhebeaaGreatDoor.Wb (Ri lo hi)
set_option linter.unusedVariables false
section
variable {r : World} {A : Nat → Prop} {g D : Nat} {h : Heap} {q t : List Int}
theorem nC_set {ns : List Int} {m : Int} {i : Nat} (hi : ns.length = i) (h2 : i < 2) : (nC ns).set i (iV m) = nC (ns ++ [m]) := by
 subst hi
 match ns, h2 with
 | [], _ => rfl
 | [a], _ => rfl
 | _ :: _ :: _, h => simp at h; omega
theorem nums_all {ws : List (List UInt8)} {i : Nat} {w : List UInt8} (hi : i < ws.length) (hw : ws[i] = w) (hn : num? w = none) : nums? ws = none := by
 have e : ws = (ws.take i ++ [w]) ++ ws.drop (i + 1) := by
  subst hw
  have : ws.take (i + 1) = ws.take i ++ [ws[i]] := by rw [List.take_add_one, List.getElem?_eq_getElem hi]; rfl
  rw [← this, List.take_append_drop]
 rw [e]
 refine nums_bad ?_
 rw [nums_snoc, hn]
 cases nums? (ws.take i) <;> rfl
set_option maxHeartbeats 1600000 in
theorem line_ok {line : List UInt8} {R : ByteArray → Heap → Prop} (S : DeA A D h q t) (hA : ¬ A D) (hn : ∀ b, h.size ≤ b → A b) (hg : g ≤ D) (L : Lb r g h) (K : Dk q t) (hl : line.length ≤ 1073741824)
  (H : ∀ h', Xc D h h' → DeA A D h' (ansA line q t).1 (ansA line q t).2.1 → R ⟨(ansA line q t).2.2.toArray⟩ h') : desk_desk_line r (some (ad D 0)) ⟨line.toArray⟩ h R := by
 have hD := S.lt
 refine desk_desk_line_of (Pn := linePn r R) (fun p h dr => catch_idle r p h dr) (fun p v h dr hp => ?_) ?_
 ·obtain ⟨k, rfl, hF⟩ := hp
  refine (catch_ok hF dr).mono ?_
  rintro e u' w' ⟨a, b, h', dr', c, y, d1, d2⟩
  exact ⟨a, b, h', dr', y, c, d1, d2⟩
 unfold desk_desk_line_F
 have Z : Ln r A g D h.size h q t (ansA line q t) R := ⟨S, hA, hn, hg, L, K, Nat.le_refl _, H⟩
 obtain ⟨w, ws, ew⟩ : ∃ w ws, pcs 32 line = w :: ws := by
  cases e : pcs 32 line with
  | nil => exact absurd e (pcs_ne _ _)
  | cons w ws => exact ⟨w, ws, rfl⟩
 have wl : ∀ x ∈ w :: ws, x.length ≤ 1099511627776 := fun x hx => by have := pcs_mem 32 line x (by rw [ew]; exact hx); omega
 have hd : (⟨line.toArray⟩ : ByteArray).data.toList = line := by simp
 refine New.cells (cs := [.string ⟨#[]⟩]) fun h1 E1 z1 B1 => ?_
 obtain ⟨m0, hm0⟩ := (Z.lb E1).here.1
 refine split_ok (b := 32) (show line.length < _ by omega) hm0 fun y6 h2 E2 O2 => ?_
 rw [hd, ew] at O2
 have ea : ansA line q t = if (ws.length : Int) = ar w then (match nums? ws with
  | none => (q, t, eSyn)
  | some ns => actA w ns q t) else (q, t, eSyn) := by unfold ansA; rw [ew]; rfl
 have l6 : y6.len = ws.length + 1 := by have := O2.rs.len; simp at this; omega
 have c6 := O2.rs.cap
 refine own_str (i := 0) O2 (by simp) fun p hp => ⟨_, hp h2 (Ext.refl _ _), forms_ok ?_⟩
 have E3 : Fw h2 (h2.push (.map formsE 9)) := Ext.push (Nat.le_refl _)
 have hm3 : (h2.push (.map formsE 9))[h2.size]? = some (.map formsE 9) := by simp
 generalize h2.push (.map formsE 9) = h3 at E3 hm3
 refine ⟨hp _ E3, ?_⟩
 have E03 : Fw h h3 := (E1.trans E2).trans E3
 have B3 : Blk h3 h.size [.string ⟨#[]⟩] := (E2.trans E3).blk B1
 have early : ansA line q t = (q, t, eSyn) → api_Errno_Error r 6 h3 fun y28 h4 => St h4 (ad h.size 0) 1 [(.string y28)] fun h5 => LdT h5 (ad h.size 0) fun x31 => R x31 h5 := fun e => by
  have S3 : DeA (fun c => A c ∧ c ≠ h.size) D h3 q t := S.to (To.old E03 fun b hb hl => ⟨hb, by omega⟩) (E03.2 D hD)
  exact errno6 (Z.fin (A' := fun c => A c ∧ c ≠ h.size) (fun c => c.2 rfl) (fun b hb => hb.1) (Xc.fw E03) B3 S3 e)
 have ha := ar_le w
 refine forms_lk (w := w) hm3 (fun hne => ?_) (fun he => ⟨fun _ => early (by rw [ea, if_neg (by omega)]), fun c => by simp at c⟩)
 have e1 : w64 (ar w + 1) = ar w + 1 := w64_of (by omega) (by omega)
 by_cases hw : (ws.length : Int) = ar w
 case neg => exact ⟨fun _ => early (by rw [ea, if_neg hw]), fun c => by
  rw [e1, l6] at c
  simp at c
  omega⟩
 refine ⟨fun c => by
  rw [e1, l6] at c
  simp at c
  omega, fun _ => ?_⟩
 rw [if_pos hw] at ea
 -- the numbers
 refine New.cells (cs := [iV 0, iV 0]) fun h6 E6 z6 B6 => ⟨by decide, by omega, by omega, by omega, fun s36 es => ?_⟩
 have S36 : Rs h2.size 1 h2 s36 (ws.map sV) := by
  subst es
  cases hws : ws with
  | nil =>
   rw [hws] at l6
   simp only [List.length_nil] at l6
   exact ⟨by simp; omega, by simp; omega, .inl rfl⟩
  | cons x xs =>
   have hlen : xs.length + 1 = ws.length := by rw [hws]; rfl
   have := Rs.sub (lo := 1) (hi := ws.length + 1) (mx := y6.cap) O2.rs (by omega) (by simp) (by omega)
   have e2 : (List.map sV (w :: ws)).drop 1 = ws.map sV := by simp
   rw [e2, List.take_of_length_le (by simp)] at this
   rw [← hws]
   have e3 : ((1 : Int)).toNat = 1 := rfl
   have e4 : ((y6.len : Int)).toNat = ws.length + 1 := by omega
   have e5 : ((y6.cap : Int)).toNat = y6.cap := by omega
   rw [e3, e4, e5]
   exact this
 have l36 : s36.len = ws.length := by have := S36.len; simpa using this
 intro X43 HX
 have key : ∀ (d i : Nat) (ns : List Int) (h7 : Heap), i + d = ws.length → nums? (ws.take i) = some ns → Fw h3 h7 → Blk h7 h3.size (nC ns) → X43 (i : Int) h7 := by
  intro d
  induction d with
  | zero =>
   intro i ns h7 hi hn E7 B7
   rw [List.take_of_length_le (by omega)] at hn
   have Y : Rd' D h.size h3.size h h7 ns := ⟨E03.trans E7, E03.1, by have := B3.lt; omega, ⟨_, E7.blk B3⟩, B7⟩
   have nl := nums_len hn
   have nr := nums_rng hn
   rw [hn] at ea
   have ea : ansA line q t = actA w ns q t := ea
   rw [ea] at Z
   refine HX _ _ ⟨fun c => absurd (of_decide_eq_true c) (by omega), fun _ => ?_⟩
   refine own_str (i := 0) (O2.ext (E3.trans E7)) (by simp) fun p hp => ⟨_, hp h7 (Ext.refl _ _), ?_⟩
   clear HX
   have two : ∀ {w0}, w = w0 → ar w0 = 2 → ∃ x y, ns = [x, y] := fun e1 e2 => by
    subst e1
    match ns, nl with
    | [x, y], _ => exact ⟨x, y, rfl⟩
    | [], n => simp at n; omega
    | [x], n => simp at n; omega
    | _ :: _ :: _ :: _, n => simp at n; omega
   have one : ∀ {w0}, w = w0 → ar w0 = 1 → ∃ x, ns = [x] := fun e1 e2 => by
    subst e1
    match ns, nl with
    | [x], _ => exact ⟨x, rfl⟩
    | [], n => simp at n; omega
    | _ :: _ :: _, n => simp at n; omega
   have non : ∀ {w0}, w = w0 → ar w0 = 0 → ns = [] := fun e1 e2 => by
    subst e1
    match ns, nl with
    | [], _ => rfl
    | _ :: _, n => simp at n; omega
   refine ⟨fun c => ?_, fun c1 => ⟨fun c => ?_, fun c2 => ⟨fun c => ?_, fun c3 => ⟨fun c => ?_, fun c4 => ⟨fun c => ?_, fun c5 => ⟨fun c => ?_, fun c6 => ⟨fun c => ?_, fun c7 => ⟨fun c => ?_, fun c8 => ?_⟩⟩⟩⟩⟩⟩⟩⟩
   ·obtain rfl : w = wIns := ba_eq (of_decide_eq_true c)
    obtain ⟨x, y, rfl⟩ := two rfl rfl
    exact Z.ins Y (nr y (by simp))
   ·obtain rfl : w = wDel := ba_eq (of_decide_eq_true c)
    obtain ⟨x, rfl⟩ := one rfl rfl
    exact Z.del Y
   ·obtain rfl : w = wCut := ba_eq (of_decide_eq_true c)
    obtain ⟨x, y, rfl⟩ := two rfl rfl
    exact Z.cut Y
   ·obtain rfl : w = wSum := ba_eq (of_decide_eq_true c)
    obtain ⟨x, y, rfl⟩ := two rfl rfl
    exact fun J HJ => Z.sum Y J HJ
   ·obtain rfl : w = wPut := ba_eq (of_decide_eq_true c)
    obtain ⟨x, rfl⟩ := one rfl rfl
    exact Z.put Y
   ·obtain rfl : w = wDrop := ba_eq (of_decide_eq_true c)
    obtain ⟨x, rfl⟩ := one rfl rfl
    exact Z.drop Y
   ·obtain rfl : w = wRank := ba_eq (of_decide_eq_true c)
    obtain ⟨x, rfl⟩ := one rfl rfl
    exact Z.rank Y
   ·obtain rfl : w = wList := ba_eq (of_decide_eq_true c)
    obtain rfl := non rfl rfl
    exact Z.list Y
   ·have n1 : w ≠ wIns := ba_ne (of_decide_eq_false c1)
    have n2 : w ≠ wDel := ba_ne (of_decide_eq_false c2)
    have n3 : w ≠ wCut := ba_ne (of_decide_eq_false c3)
    have n4 : w ≠ wSum := ba_ne (of_decide_eq_false c4)
    have n5 : w ≠ wPut := ba_ne (of_decide_eq_false c5)
    have n6 : w ≠ wDrop := ba_ne (of_decide_eq_false c6)
    have n7 : w ≠ wRank := ba_ne (of_decide_eq_false c7)
    have n8 : w ≠ wList := ba_ne (of_decide_eq_false c8)
    have : w = wSet := by
     apply Decidable.byContradiction
     intro n9
     have : ar w = -1 := by simp [ar, p1, p2, p3, n1, n2, n3, n4, n5, n6, n7, n8, n9]
     exact hne this
    subst this
    obtain rfl := non rfl rfl
    exact Z.set Y
  | succ d ih =>
   intro i ns h7 hi hn E7 B7
   have hil : i < ws.length := by omega
   have nl := nums_len hn
   rw [List.length_take] at nl
   have hi2 : i < 2 := by omega
   have E07 := E03.trans E7
   refine HX _ _ ⟨fun _ => ?_, fun c => absurd (of_decide_eq_false c) (by omega)⟩
   refine rs_str (Rs.ext S36 (E3.trans E7) (Nat.le_refl _)) hil fun p hp => ⟨_, hp, dnum_ok (Z.lb E07) (by have := E07.1; omega) (wl _ (List.mem_cons_of_mem _ (List.getElem_mem hil))) (fun m h8 em E8 => ?_) fun hnn h8 E8 => ?_⟩
   ·refine ⟨⟨by omega, by omega⟩, fun q55 e55 => ?_⟩
    subst e55
    rw [ad_add, show 0 + (i : Int).toNat * 1 = i by omega]
    have B8 := E8.blk B7
    refine St.one B8 (by unfold nC; simp; omega) ?_
    rw [w64_of (by omega) (by omega)]
    refine ih (i + 1) (ns ++ [m]) _ (by omega) ?_ ((E7.trans E8).over (c := h3.size) (Nat.le_refl _) (fun d hd => hset_other (fun e => hd e.symm)) (hset_size _ _ _)) ?_
    ·have : ws.take (i + 1) = ws.take i ++ [ws[i]] := by rw [List.take_add_one, List.getElem?_eq_getElem hil]; rfl
     rw [this, nums_snoc, hn, em]
    ·rw [← nC_set (i := i) (by omega) hi2]; exact B8.set
   ·have Y : Rd' D h.size h3.size h h7 ns := ⟨E07, E03.1, by have := B3.lt; omega, ⟨_, E7.blk B3⟩, B7⟩
    rw [nums_all hil rfl hnn] at ea
    exact Z.pan (.inl ⟨rfl, rfl⟩) (A' := A3 A h.size h3.size) (fun c => c.2.1 rfl) (fun b hb => hb.1) (Xc.fw (E07.trans E8)) ((E7.trans E8).blk B3) ((Z.st Y).fw E8) ea
 exact key ws.length 0 [] h6 (by omega) rfl E6 B6
end
end Go.Proofs.YthkimbiknhebeaaGreatDoor.St
namespace Go.Proofs.YthkimbiknhebeaaGreatDoor.St
open Go Go.RowKit Go.Tw
open Go.Proofs.YthkimbiknhebeaaGreatDoor.Wb (Ri lo hi)
set_option linter.unusedVariables false
/-- without a last line that is empty -/
def trimL (l : List (List UInt8)) : List (List UInt8) := if l.getLast? = some [] then l.dropLast else l
/-- the answers to lines -/
def runL : List (List UInt8) → List Int → List Int → List (List UInt8)
 | [], _, _ => []
 | s :: l, q, t => (ansA s q t).2.2 :: runL l (ansA s q t).1 (ansA s q t).2.1
/-- the sequence and the set behind lines -/
def stL : List (List UInt8) → List Int → List Int → List Int × List Int
 | [], q, t => (q, t)
 | s :: l, q, t => stL l (ansA s q t).1 (ansA s q t).2.1
def linesA (ls : List (List UInt8)) : List (List UInt8) := if 100 < ls.length then [eFull] else runL ls [] []
/-- the answers to a script -/
def runA (s : List UInt8) : List (List UInt8) := linesA (trimL (pcs 10 s))
theorem runL_len : ∀ (l : List (List UInt8)) (q t : List Int), (runL l q t).length = l.length
 | [], _, _ => rfl
 | s :: l, q, t => by simp only [runL, List.length_cons, runL_len l]
theorem runL_append : ∀ (l k : List (List UInt8)) (q t : List Int), runL (l ++ k) q t = runL l q t ++ runL k (stL l q t).1 (stL l q t).2
 | [], k, q, t => rfl
 | s :: l, k, q, t => by simp only [List.cons_append, runL, stL, runL_append l k]
theorem stL_append : ∀ (l k : List (List UInt8)) (q t : List Int), stL (l ++ k) q t = stL k (stL l q t).1 (stL l q t).2
 | [], k, q, t => rfl
 | s :: l, k, q, t => by simp only [List.cons_append, stL, stL_append l k]
/-- bounds that hold along the way -/
structure DkN (n : Nat) (q t : List Int) : Prop where
 ri : Ri t
 ql : q.length ≤ n
 tl : t.length ≤ n
 qi : ∀ x ∈ q, -1073741824 ≤ x ∧ x ≤ 1073741824
 ti : ∀ x ∈ t, -1073741824 ≤ x ∧ x ≤ 1073741824
theorem DkN.up {n m : Nat} {q t : List Int} (K : DkN n q t) (h : n ≤ m) : DkN m q t := ⟨K.ri, by have := K.ql; omega, by have := K.tl; omega, K.qi, K.ti⟩
theorem DkN.dk {n : Nat} {q t : List Int} (K : DkN n q t) (h : n ≤ 1048576) : Dk q t := ⟨K.ri, by have := K.ql; omega, by have := K.tl; omega, K.qi, K.ti⟩
theorem DkN.nil : DkN 0 [] [] := ⟨List.Pairwise.nil, Nat.le_refl _, Nat.le_refl _, fun _ h => (by cases h), fun _ h => (by cases h)⟩
theorem dk_act {w : List UInt8} {ns q t : List Int} {n : Nat} (K : DkN n q t) (hns : ∀ x ∈ ns, -1073741824 ≤ x ∧ x ≤ 1073741824) : DkN (n + 1) (actA w ns q t).1 (actA w ns q t).2.1 := by
 have K1 := K.up (Nat.le_succ n)
 have hd : ∀ l : List Int, (∀ x ∈ l, -1073741824 ≤ x ∧ x ≤ 1073741824) → -1073741824 ≤ l.headD 0 ∧ l.headD 0 ≤ 1073741824 := fun l hl => by
  cases l with
  | nil => simp
  | cons x l => exact hl x (by simp)
 have n0 := hd ns hns
 have n1 := hd (ns.drop 1) fun x hx => hns x (List.mem_of_mem_drop hx)
 have pl := put_len (ns.headD 0) t K.ri
 have dl := drop_len (ns.headD 0) t K.ri
 unfold actA
 generalize ns.headD 0 = x at n0 pl dl
 generalize (ns.drop 1).headD 0 = y at n1
 have sub : ∀ (q' : List Int), q'.length ≤ n + 1 → (∀ z ∈ q', z ∈ q ∨ z = y) → DkN (n + 1) q' t := fun q' hl hm => ⟨K.ri, hl, K1.tl, fun z hz => by
  rcases hm z hz with h | h
  ·exact K.qi z h
  ·subst h; exact n1, K.ti⟩
 have ql := K.ql
 have tl := K.tl
 split
 ·unfold oneA
  split
  ·exact K1
  ·split
   ·refine ⟨ri_put K.ri, K1.ql, by show (putS x t).length ≤ _; omega, K.qi, fun z hz => ?_⟩
    have hz : z ∈ putS x t := hz
    unfold putS at hz
    rcases List.mem_append.1 hz with h | h
    ·exact K.ti z (mem_lo.1 h).1
    ·rcases List.mem_cons.1 h with h | h
     ·subst h; exact n0
     ·exact K.ti z (mem_hi.1 h).1
   ·split
    ·refine ⟨ri_drop K.ri, K1.ql, by show (dropS x t).length ≤ _; omega, K.qi, fun z hz => ?_⟩
     have hz : z ∈ dropS x t := hz
     unfold dropS at hz
     rcases List.mem_append.1 hz with h | h
     ·exact K.ti z (mem_lo.1 h).1
     ·exact K.ti z (mem_hi.1 h).1
    ·split
     ·refine sub _ (by simp; omega) fun z hz => .inl ?_
      rcases List.mem_append.1 hz with h | h
      ·exact List.mem_of_mem_take h
      ·exact List.mem_of_mem_drop h
     ·exact K1
 ·split
  ·exact K1
  ·split
   ·exact K1
   ·unfold twoA
    split
    ·split
     ·refine sub _ (by simp; omega) fun z hz => ?_
      rcases List.mem_append.1 hz with h | h
      ·exact .inl (List.mem_of_mem_take h)
      ·rcases List.mem_cons.1 h with h | h
       ·exact .inr h
       ·exact .inl (List.mem_of_mem_drop h)
     ·exact K1
    ·split
     ·split
      ·exact K1
      ·exact sub _ (by simp; omega) fun z hz => .inl (List.mem_of_mem_drop (List.mem_of_mem_take hz))
     ·exact K1
theorem dk_ans {n : Nat} {q t : List Int} (line : List UInt8) (K : DkN n q t) : DkN (n + 1) (ansA line q t).1 (ansA line q t).2.1 := by
 have K1 := K.up (Nat.le_succ n)
 unfold ansA
 split
 ·exact K1
 ·split
  ·split
   ·exact K1
   ·rename_i ns hn
    exact dk_act K (nums_rng hn)
  ·exact K1
theorem dk_st : ∀ (l : List (List UInt8)) {n : Nat} {q t : List Int}, DkN n q t → DkN (n + l.length) (stL l q t).1 (stL l q t).2
 | [], n, q, t, K => K
 | s :: l, n, q, t, K => by
  have := dk_st l (dk_ans s K)
  rw [show n + (s :: l).length = n + 1 + l.length by simp; omega]
  exact this
theorem itoa_ne {m : Int} (h0 : -1073741824 ≤ m) (h1 : m ≤ 1073741824) : Lib.itoa m ≠ eSyn ∧ Lib.itoa m ≠ eRng := by
 have := atoi_itoa h0 h1
 constructor
 ·intro e; rw [e] at this; cases this
 ·intro e; rw [e] at this; cases this
/-- what a line answers: a number, or it changes nothing -/
theorem act_cases {w : List UInt8} {ns q t : List Int} {n : Nat} (hz : n ≤ 1048576) (K : DkN n q t) : ((actA w ns q t).1 = q ∧ (actA w ns q t).2.1 = t) ∨ ∃ m : Int, (actA w ns q t).2.2 = Lib.itoa m ∧ -1073741824 ≤ m ∧ m ≤ 1073741824 := by
 have ql := K.ql
 have tl := K.tl
 have pl := put_len (ns.headD 0) t K.ri
 have dl := drop_len (ns.headD 0) t K.ri
 unfold actA
 generalize ns.headD 0 = x at pl dl
 generalize (ns.drop 1).headD 0 = y
 have nm : ∀ {P : Prop} {X Y l : List Int}, l = l → (0 : Int) ≤ (l.length : Int) → (l.length : Int) ≤ 1073741824 → P ∨ ∃ m : Int, (X, Y, Lib.itoa (l.length : Int)).2.2 = Lib.itoa m ∧ -1073741824 ≤ m ∧ m ≤ 1073741824 := fun _ h0 h1 => .inr ⟨_, rfl, by omega, h1⟩
 split
 ·unfold oneA
  split
  ·exact .inl ⟨rfl, rfl⟩
  ·split
   ·exact nm rfl (by omega) (by omega)
   ·split
    ·exact nm rfl (by omega) (by omega)
    ·split
     ·exact nm rfl (by omega) (by simp; omega)
     ·exact .inl ⟨rfl, rfl⟩
 ·split
  ·exact .inl ⟨rfl, rfl⟩
  ·split
   ·exact .inl ⟨rfl, rfl⟩
   ·unfold twoA
    split
    ·split
     ·exact nm rfl (by omega) (by simp; omega)
     ·exact .inl ⟨rfl, rfl⟩
    ·split
     ·split
      ·exact .inl ⟨rfl, rfl⟩
      ·exact nm rfl (by omega) (by simp; omega)
     ·exact .inl ⟨rfl, rfl⟩
/-- an error changes nothing -/
theorem act_err {w : List UInt8} {ns q t : List Int} {n : Nat} (hz : n ≤ 1048576) (K : DkN n q t) (he : (actA w ns q t).2.2 = eSyn ∨ (actA w ns q t).2.2 = eRng) : (actA w ns q t).1 = q ∧ (actA w ns q t).2.1 = t := by
 rcases act_cases (w := w) (ns := ns) hz K with h | ⟨m, e, h0, h1⟩
 ·exact h
 ·rw [e] at he
  rcases he with h | h
  ·exact absurd h (itoa_ne h0 h1).1
  ·exact absurd h (itoa_ne h0 h1).2
theorem ans_err {line : List UInt8} {q t : List Int} {n : Nat} (hz : n ≤ 1048576) (K : DkN n q t) (he : (ansA line q t).2.2 = eSyn ∨ (ansA line q t).2.2 = eRng) : (ansA line q t).1 = q ∧ (ansA line q t).2.1 = t := by
 have key : ((ansA line q t).1 = q ∧ (ansA line q t).2.1 = t) ∨ ∃ w ns, ansA line q t = actA w ns q t := by
  unfold ansA
  split
  ·exact .inl ⟨rfl, rfl⟩
  ·split
   ·split
    ·exact .inl ⟨rfl, rfl⟩
    ·exact .inr ⟨_, _, rfl⟩
   ·exact .inl ⟨rfl, rfl⟩
 rcases key with h | ⟨w, ns, h⟩
 ·exact h
 ·rw [h] at he ⊢
  exact act_err hz K he
end Go.Proofs.YthkimbiknhebeaaGreatDoor.St
namespace Go.Proofs.YthkimbiknhebeaaGreatDoor.St
open Go Go.RowKit Go.Tw
open Go.Proofs.YthkimbiknhebeaaGreatDoor.Wb (Ri lo hi)
set_option linter.unusedVariables false
section
variable {r : World} {g : Nat} {h : Heap}
/-- a desk's trees, beside what answers have been kept -/
abbrev Aw (D : Nat) (so : Sl) : Nat → Prop := fun c => c ≠ D ∧ ∀ p, so.a = some p → c ≠ p.block
set_option maxHeartbeats 1600000 in
theorem run_ok {s : List UInt8} {R : Sl → Heap → Prop} (L : Lb r g h) (hg : g ≤ h.size) (hs : s.length ≤ 1073741824) (H : ∀ s' h', Fw h h' → Own h.size 1 h' s' ((runA s).map sV) → R s' h') : desk_Run r ⟨s.toArray⟩ h R := by
 apply desk_Run_of
 unfold desk_Run_F
 have hd : (⟨s.toArray⟩ : ByteArray).data.toList = s := by simp
 obtain ⟨m0, hm0⟩ := L.here.1
 refine split_ok (b := 10) (show s.length < _ by omega) hm0 fun y2 h1 E1 O1 => ?_
 rw [hd] at O1
 have pl := pcs_len 10 s
 have pn := pcs_ne 10 s
 have pm := pcs_mem 10 s
 rw [show runA s = linesA (trimL (pcs 10 s)) from rfl] at H
 generalize pcs 10 s = ls at O1 pl pn pm H
 have l2 : y2.len = ls.length := by have := O1.rs.len; simp at this; omega
 have c2 := O1.rs.cap
 have n1 : 1 ≤ ls.length := by
  cases ls with
  | nil => exact absurd rfl pn
  | cons x l => simp
 have ew : w64 ((y2.len : Int) - 1) = ((ls.length - 1 : Nat) : Int) := by rw [w64_of (by omega) (by omega)]; omega
 rw [ew]
 have hE : h.size ≤ h1.size := E1.1
 refine own_str (i := ls.length - 1) O1 (by omega) fun p hp => ⟨_, hp h1 (Ext.refl _ _), ?_⟩
 intro J12 HJ
 have key : ∀ (lines : Sl) (ls' : List (List UInt8)), Rs h1.size 1 h1 lines (ls'.map sV) → ls'.length ≤ ls.length → (∀ x ∈ ls', x ∈ ls) → trimL ls = ls' → J12 lines := by
  intro lines ls' S' hl' hm' e'
  rw [e'] at H
  have l' : lines.len = ls'.length := by have := S'.len; simp at this; omega
  refine HJ _ ⟨fun c => ?_, fun c => ?_⟩
  ·have c := of_decide_eq_true c
   have e : linesA ls' = [eFull] := if_pos (by omega)
   rw [e] at H
   refine errno4 (New.cells (cs := [.string ⟨eFull.toArray⟩]) fun h3 E3 z3 B3 => H _ _ (E1.trans E3) ?_)
   exact ⟨rfl, Nat.le_refl _, .inr ⟨h1.size, [], rfl, hE, by simpa using B3, rfl⟩⟩
  ·have c := of_decide_eq_false c
   have e : linesA ls' = runL ls' [] [] := if_neg (by omega)
   rw [e] at H
   refine New.cells (cs := [.pointer none, .pointer none]) fun h4 E4 z4 B4 => ?_
   intro X23 HX
   have loop : ∀ (d i : Nat) (so : Sl) (h5 : Heap) (q t : List Int), i + d = ls'.length → Fw h1 h5 → h4.size ≤ h5.size → Own h4.size 1 h5 so ((runL (ls'.take i) [] []).map sV) → stL (ls'.take i) [] [] = (q, t) → DkN i q t → DeA (Aw h1.size so) h1.size h5 q t → X23 so (i : Int) h5 := by
    intro d
    induction d with
    | zero =>
     intro i so h5 q t hi E5 z5 O5 e5 K5 S5
     rw [List.take_of_length_le (by omega)] at O5
     exact HX _ _ _ ⟨fun c => absurd (of_decide_eq_true c) (by omega), fun _ => H so h5 (E1.trans E5) (O5.mono (by omega))⟩
    | succ d ih =>
     intro i so h5 q t hi E5 z5 O5 e5 K5 S5
     have hil : i < ls'.length := by omega
     have et : ls'.take (i + 1) = ls'.take i ++ [ls'[i]] := by rw [List.take_add_one, List.getElem?_eq_getElem hil]; rfl
     have len5 := O5.len
     rw [List.length_map, runL_len, List.length_take] at len5
     refine HX _ _ _ ⟨fun _ => ?_, fun c => absurd (of_decide_eq_false c) (by omega)⟩
     refine rs_str (Rs.ext S' E5 (Nat.le_refl _)) hil fun p hp => ⟨_, hp, ?_⟩
     refine line_ok (A := Aw h1.size so) (D := h1.size) (g := g) S5 (fun c => c.1 rfl) (fun b hb => ⟨by omega, fun p hp => by have := (O5.lt hp).1; omega⟩) (by omega) (L.ext ((E1.trans E5).mono hg)) (K5.dk (by omega)) (by have := pm _ (hm' _ (List.getElem_mem hil)); omega) fun h6 X6 S6 => ?_
     have O6 : Own h4.size 1 h6 so ((runL (ls'.take i) [] []).map sV) := O5.keep fun p hp => X6.2 p.block (O5.lt hp).1 (by have := (O5.lt hp).2; omega)
     have z6 := X6.1
     refine App.push (cs := [sV (ansA ls'[i] q t).2.2]) O6 rfl rfl (one_all rfl) (by omega) (by omega) fun s8 h8 G => ?_
     rw [w64_of (by omega) (by omega)]
     have z8 := G.ext.1
     refine ih (i + 1) s8 h8 _ _ (by omega) ⟨by omega, fun b hb => ?_⟩ (by omega) ?_ ?_ (dk_ans ls'[i] K5) (S6.to ⟨z8, fun b hb hi => ⟨G.others b hi.lt fun p hp e => hb.2 p hp e.symm, hb.1, fun p hp e => ?_⟩⟩ (G.ext.2 _ (by omega)))
     ·rw [G.ext.2 b (by omega), X6.2 b (by omega) (by omega), E5.2 b hb]
     ·rw [et, runL_append, List.map_append, e5]; exact G.own
     ·rw [et, stL_append, e5]; rfl
     ·rcases G.blk with q | ⟨b', hb', q⟩
      ·rw [q] at hp; exact hb.2 p hp e
      ·rw [q] at hp; cases hp
       have := hi.lt
       have e : b = b' := e
       omega
   exact loop ls'.length 0 Sl.nil h4 [] [] (by omega) E4 (Nat.le_refl _) (Own.nil h4.size 1 h4) rfl DkN.nil ⟨none, none, B4, Mo.Tr.nil _ _, Wb.Tr.nil _ _⟩
 refine ⟨fun c => ?_, fun c => ?_⟩
 ·have c : ls[ls.length - 1] = [] := ba_eq (b := []) (of_decide_eq_true c)
  refine ⟨by decide, by omega, by omega, by omega, fun s39 es => key s39 ls.dropLast ?_ (by simp) (fun x hx => List.dropLast_subset _ hx) ?_⟩
  ·subst es
   by_cases h1 : ls.length = 1
   ·have : ls.dropLast = [] := List.eq_nil_of_length_eq_zero (by simp; omega)
    rw [this]
    exact ⟨by simp; omega, by simp; omega, .inl rfl⟩
   ·have := Rs.sub (lo := 0) (hi := ls.length - 1) (mx := y2.cap) O1.rs (by omega) (by simp) (by omega)
    rw [List.drop_zero, ← List.map_take, Nat.sub_zero, ← List.dropLast_eq_take] at this
    have e3 : ((0 : Int)).toNat = 0 := rfl
    have e4 : (((ls.length - 1 : Nat) : Int)).toNat = ls.length - 1 := by omega
    have e5 : ((y2.cap : Int)).toNat = y2.cap := by omega
    rw [e3, e4, e5]
    exact this
  ·unfold trimL
   rw [if_pos]
   rw [List.getLast?_eq_getElem?, List.getElem?_eq_getElem (by omega), c]
 ·have c : ls[ls.length - 1] ≠ [] := ba_ne (b := []) (of_decide_eq_false c)
  refine key y2 ls O1.rs (Nat.le_refl _) (fun x hx => hx) ?_
  unfold trimL
  rw [if_neg]
  rw [List.getLast?_eq_getElem?, List.getElem?_eq_getElem (by omega)]
  exact fun e => c (Option.some.inj e)
end
end Go.Proofs.YthkimbiknhebeaaGreatDoor.St
