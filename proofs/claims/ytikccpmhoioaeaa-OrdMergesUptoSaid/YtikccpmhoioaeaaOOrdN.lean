/- Numbers in order, also twice: the law 'OrdMerges'. -/
import Derived.Test.YtikccpmhoioaeaaOOrdM
namespace Go.Proofs.Ytikccpmhoioaeaa.Or
open Go Go.RowKit Go.Tw Go.Many Go.Ord
set_option linter.unusedVariables false
section
variable {r : World} {h : Heap}
theorem merges_law {l1 l2 l3 : Sl} {a b c : List Int} {x : Int} (h1 : RI h.size h l1 a) (h2 : RI h.size h l2 b) (h3 : RI h.size h l3 c) (za : a.length ≤ 1048576) (zb : b.length ≤ 1048576) (zc : c.length ≤ 1048576) : law3_OrdMerges r l1 l2 l3 x h fun y h' => y = true ∧ Ext h.size h h' := by
  apply law3_OrdMerges_of
  refine ordered_ok fun g1 E1 => ⟨fun c => (by cases c), fun _ => ?_⟩
  refine oof_ok (A := Any) (h1.ext E1 (Nat.le_refl _)) E1.1 (by omega) any fun ua qa g2 E2 hua hpa Ta => ?_
  have F2 := E1.trans E2
  refine ovar_ok fun g4 E4 B7 => ?_
  have F4 := F2.trans E4
  refine oof_ok (A := Any) (h2.ext F4 (Nat.le_refl _)) F4.1 (by omega) any fun ub qb g5 E5 hub hpb Tb => ?_
  have F5 := F4.trans E5
  refine ovar_ok fun g7 E7 B13 => ?_
  have F7 := F5.trans E7
  refine oof_ok (A := Any) (h3.ext F7 (Nat.le_refl _)) F7.1 (by omega) any fun uc qc g8 E8 huc hpc Tc => ?_
  have F8 := F7.trans E8
  refine ovar_ok fun g10 E10 B19 => ?_
  have F10 := F8.trans E10
  have C7 := (((E5.trans E7).trans E8).trans E10).blk B7
  have C13 := (E8.trans E10).blk B13
  have Ta := Ta.fw ((((E4.trans E5).trans E7).trans E8).trans E10)
  have Tb := Tb.fw ((E7.trans E8).trans E10)
  have Tc := Tc.fw E10
  have la := hpa.length_eq
  have lb := hpb.length_eq
  have lc := hpc.length_eq
  refine ⟨_, C7.ld 0 rfl, _, C13.ld 0 rfl, _, C13.ld 0 rfl, _, C7.ld 0 rfl, ?_⟩
  refine omerge_ok Ta Tb hua hub (by omega) any fun u1 q1 g11 G11 hu1 hp1 T1 => ⟨(G11.blk C7).ld 0 rfl, (G11.blk C13).ld 0 rfl, ?_⟩
  have l1' := hp1.length_eq
  rw [List.length_append] at l1'
  refine oints_ok T1 (by omega) fun s35 g12 G12 O12 => ⟨((G11.trans G12).blk C7).ld 0 rfl, ((G11.trans G12).blk C13).ld 0 rfl, ?_⟩
  have H12 := G11.trans G12
  refine omerge_ok (Tb.fw H12) (Ta.fw H12) hub hua (by omega) any fun u2 q2 g13 G13 hu2 hp2 T2 => ?_
  have e2 : u2 = u1 := up_eq (hp2.trans (List.perm_append_comm.trans hp1.symm)) hu2 hu1
  subst e2
  refine oints_ok T2 (by omega) fun s39 g14 G14 O14 => ?_
  have R12 : RI g14.size g14 s35 u2 := (Rs.ext O12.rs (G13.trans G14) (Nat.le_refl _)).mono (G13.trans G14).1
  refine same_Ints_ok R12 O14.rs (by omega) ?_
  rw [decide_eq_true rfl]
  have H14 := (H12.trans G13).trans G14
  refine ⟨_, (H14.blk C7).ld 0 rfl, _, (H14.blk C13).ld 0 rfl, _, (H14.blk B19).ld 0 rfl, _, (H14.blk C7).ld 0 rfl, _, (H14.blk C13).ld 0 rfl, _, (H14.blk B19).ld 0 rfl, ?_⟩
  refine omerge_ok (Ta.fw H14) (Tb.fw H14) hua hub (by omega) any fun u3 q3 g16 G16 hu3 hp3 T3 => ?_
  have H16 := H14.trans G16
  refine ⟨(H16.blk B19).ld 0 rfl, (H16.blk C13).ld 0 rfl, (H16.blk C7).ld 0 rfl, (H16.blk B19).ld 0 rfl, ?_⟩
  have e3 : u3 = u2 := up_eq (hp3.trans hp1.symm) hu3 hu2
  subst e3
  refine omerge_ok T3 (Tc.fw H16) hu3 huc (by omega) any fun u4 q4 g17 G17 hu4 hp4 T4 => ?_
  have H17 := H16.trans G17
  have l4 := hp4.length_eq
  rw [List.length_append] at l4
  refine ⟨(H17.blk B19).ld 0 rfl, (H17.blk C13).ld 0 rfl, (H17.blk C7).ld 0 rfl, oints_ok T4 (by omega) fun s62 g18 G18 O18 => ?_⟩
  have H18 := H17.trans G18
  refine ⟨(H18.blk B19).ld 0 rfl, (H18.blk C13).ld 0 rfl, (H18.blk C7).ld 0 rfl, ?_⟩
  refine omerge_ok (Tb.fw H18) (Tc.fw H18) hub huc (by omega) any fun u5 q5 g19 G19 hu5 hp5 T5 => ?_
  have H19 := H18.trans G19
  have l5 := hp5.length_eq
  rw [List.length_append] at l5
  refine ⟨(H19.blk C7).ld 0 rfl, omerge_ok (Ta.fw H19) T5 hua hu5 (by omega) any fun u6 q6 g20 G20 hu6 hp6 T6 => ?_⟩
  have H20 := H19.trans G20
  have e6 : u6 = u4 := up_eq ((hp6.trans (hp5.append_left ua)).trans ((List.append_assoc ua ub uc ▸ (hp4.trans (hp3.append_right uc)).symm : (ua ++ (ub ++ uc)).Perm u4))) hu6 hu4
  subst e6
  refine oints_ok T6 (by omega) fun s69 g21 G21 O21 => ?_
  have H21 := H20.trans G21
  have E1821 := (G19.trans G20).trans G21
  have R18 : RI g21.size g21 s62 u6 := (Rs.ext O18.rs E1821 (Nat.le_refl _)).mono E1821.1
  refine same_Ints_ok R18 O21.rs (by omega) ?_
  rw [decide_eq_true rfl]
  refine ⟨_, (H21.blk C7).ld 0 rfl, _, (H21.blk C13).ld 0 rfl, ?_⟩
  refine omerge_ok (Ta.fw H21) (Tb.fw H21) hua hub (by omega) any fun u7 q7 g23 G23 hu7 hp7 T7 => ?_
  have e7 : u7 = u3 := up_eq (hp7.trans hp1.symm) hu7 hu3
  subst e7
  have H23 := H21.trans G23
  refine oints_ok T7 (by omega) fun s76 g24 G24 O24 => ?_
  have H24 := H23.trans G24
  have F24 := F10.trans H24
  refine cat_ok ((h1.ext F24 (Nat.le_refl _)).mono F24.1) ((h2.ext F24 (Nat.le_refl _)).mono F24.1) (Nat.le_refl _) (by omega) fun s77 g25 G25 O25 => ?_
  refine sorted_ok (n := g25.size) O25.rs (Nat.le_refl _) (by simp; omega) fun v s78 g26 G26 hv hvp S26 => ?_
  have ev : v = u7 := up_eq (hvp.trans ((hpa.symm.append hpb.symm).trans hp7.symm)) hv hu7
  subst ev
  have E2426 := G25.trans G26
  have R24 : RI g26.size g26 s76 v := (Rs.ext O24.rs E2426 (Nat.le_refl _)).mono E2426.1
  refine same_Ints_ok R24 S26 (by omega) ?_
  rw [decide_eq_true rfl]
  have H26 := H24.trans E2426
  intro J HJ
  refine ⟨fun _ => ⟨fun _ => ⟨fun _ => ⟨_, (H26.blk C7).ld 0 rfl, _, (H26.blk C13).ld 0 rfl, _, (H26.blk C7).ld 0 rfl, _, (H26.blk C13).ld 0 rfl, ?_⟩, fun c => by cases c⟩, fun c => by cases c⟩, fun c => by cases c⟩
  refine omerge_ok (Ta.fw H26) (Tb.fw H26) hua hub (by omega) any fun u8 q8 g29 G29 hu8 hp8 T8 => ?_
  have H29 := H26.trans G29
  have l8 := hp8.length_eq
  rw [List.length_append] at l8
  refine ⟨(H29.blk C13).ld 0 rfl, (H29.blk C7).ld 0 rfl, ocount_ok T8 hu8 (by omega) fun g30 G30 => ?_⟩
  have H30 := H29.trans G30
  refine ⟨(H30.blk C13).ld 0 rfl, (H30.blk C7).ld 0 rfl, ocount_ok (Ta.fw H30) hua (by omega) fun g31 G31 => ?_⟩
  have H31 := H30.trans G31
  refine ⟨(H31.blk C13).ld 0 rfl, ocount_ok (Tb.fw H31) hub (by omega) fun g32 G32 => HJ _ _ ⟨?_, (F10.trans H31).trans G32⟩⟩
  have cc := hp8.count_eq x
  rw [List.count_append] at cc
  have c1 : ua.count x ≤ ua.length := List.count_le_length
  have c2 : ub.count x ≤ ub.length := List.count_le_length
  rw [decide_eq_true]
  rw [w64_of (by omega) (by omega)]; omega
end
end Go.Proofs.Ytikccpmhoioaeaa.Or
