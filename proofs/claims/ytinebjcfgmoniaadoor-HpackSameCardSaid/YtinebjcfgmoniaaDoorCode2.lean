/- What the functions of this program compute, told as plain functions, and that the calls come to just that. Printed by this session's program; part 2. -/
import Derived.Test.YtinebjcfgmoniaaDoorCode1
set_option linter.unusedVariables false
set_option linter.unusedSimpArgs false
set_option linter.unnecessarySimpa false
namespace Go.Proofs.YtinebjcfgmoniaaDoor.Sl
open Go Go.RowKit Go.Proofs.Sl
/-! ### (*louver/dyntable.Table).within -/
def dyntable_Table_within.l0 : Nat → S79 → Int → Int → Option (S79)
  | 0, _, _, _ => none
  | k + 1, x1053q, x1056q, p1 => if x1056q < (x1053q.f0.length : Int) then (if x1053q.f1 > (IntKind.i64.wrap (x1053q.f2 - p1)) then (if 0 ≤ x1056q then (bnd1 (dyntable_Size.f (⟨(gt z52 x1053q.f0 x1056q).f0, (gt z52 x1053q.f0 x1056q).f1, (gt z52 x1053q.f0 x1056q).f2⟩ : S52)) fun r1375q => (dyntable_Table_within.l0 k (⟨x1053q.f0, IntKind.i64.wrap (x1053q.f1 - r1375q), x1053q.f2⟩ : S79) (IntKind.i64.wrap (x1056q + 1)) p1)) else (none)) else (bnd1 (api_Field.f x1053q.f0 0 x1056q) fun r1410q => (some (⟨r1410q, x1053q.f1, x1053q.f2⟩ : S79)))) else (bnd1 (api_Field.f x1053q.f0 0 x1056q) fun r1469q => (some (⟨r1469q, x1053q.f1, x1053q.f2⟩ : S79)))
def dyntable_Table_within.f (k : Nat) (p0 : S79) (p1 : Int) : Option (S79) := dyntable_Table_within.l0 k p0 0 p1
set_option maxHeartbeats 2000000 in
set_option maxRecDepth 100000 in
theorem dyntable_Table_within.calls (k : Nat) {b : Nat} {w0 W : World} {R : Frag} {Fs : List Frag} {p0 : S79} {p1 : Int}  {v0 : Value} {M0 : Frag} {r0q : S79} (hp0 : Ptr k79 79 b w0 R v0 p0 M0) (H : dyntable_Table_within.f k p0 p1 = some r0q) (hS : St b w0 W R (M0 :: Fs)) :
    Calls Tryd.prog 35 ([v0, .int .i64 p1] : List Value).toArray W (fun e W' => ∃ (O0q : Frag), e = .returned (.tuple #[]) ∧ Ptr k79 79 b w0 R v0 r0q O0q ∧ St b w0 W' R (O0q :: Fs)) := by
  unfold dyntable_Table_within.f at H
  refine calls_enter Tryd.func35 rfl 51 rfl (by kernel_rfl) (fun a h => ?_)
  refine wp_seq ?_
  refine WL.start ?_
  refine WL.block (c := 1) (m' := 1) h rfl [(4, .int .i64 0)] (by kernel_rfl) (fun a1046q h1047q => ?_)
  refine WL.done (by kernel_rfl) ?_
  refine wp_seq ?_
  refine wp_block ?_
  refine wp_loop_ghost (fun kq_ a_ W_ => ∃ (x1053q : S79), ∃ (M1054q : Frag), ∃ (x1056q : Int), Hd a_ 51 [(0, v0), (1, .int .i64 p1), (4, .int .i64 x1056q)] ∧ Asd (dyntable_Table_within.l0 kq_ x1053q x1056q p1 = some r0q) ∧ Asd (kq_ ≤ k) ∧ Asd (St b w0 W_ R (M1054q :: Fs)) ∧ Asd (Ptr k79 79 b w0 R v0 x1053q M1054q)) k ⟨p0, M0, 0, h1047q.keep ⟨rfl, rfl, rfl, trivial⟩, ⟨H⟩, ⟨Nat.le_refl _⟩, ⟨hS⟩, ⟨hp0⟩⟩ ?_
  clear H hS
  rintro k1052q a1049q W1050q ⟨x1053q, M1054q, x1056q, h1048q, ⟨H⟩, ⟨hkk1052q⟩, ⟨hS1051q⟩, ⟨hr1055q⟩⟩
  obtain _ | k1057q := k1052q
  · exact absurd H (by simp [dyntable_Table_within.l0])
  simp only [dyntable_Table_within.l0] at H
  refine wp_seq ?_
  refine wp_seq ?_
  obtain ⟨g1058q, cs1059q, M1060q, hv_, hM_, hr1061q⟩ := hr1055q
  obtain ⟨v1062q, M1063q, rfl, hM2q, hr1064q⟩ := k79qrep hr1061q
  subst hM2q
  subst hM_
  subst hv_
  replace hr1064q : Row k52 52 b w0 R v1062q x1053q.f0 M1060q := hr1064q
  obtain ⟨A1065q, c1066q, rfl⟩ := hr1064q.form
  have hS1067q : St b w0 W1050q R ([(g1058q, .cells ([.slice A1065q x1053q.f0.length c1066q, .int .i64 x1053q.f1, .int .i64 x1053q.f2] : List Value).toArray 79 (0, 0))] :: M1060q :: Fs) := hS1051q.assoc (by simp only [List.flatten_cons, List.append_assoc, List.cons_append, List.nil_append, List.append_nil])
  refine WT.start 20 (fun w_ => (w_.cell? ⟨g1058q, 0, none⟩ = some (.slice A1065q x1053q.f0.length c1066q)) ∧ (w_.cell? ⟨g1058q, 1, none⟩ = some (.int .i64 x1053q.f1)) ∧ (w_.cell? ⟨g1058q, 2, none⟩ = some (.int .i64 x1053q.f2)) ∧ True) (by kernel_rfl) #[false, false, false, false, false, false, false, false, false, false, false, false, false, false, false, false, false, false, false, false] 20 rfl rfl ?_
  have hS1198q := hS1067q.drew
  refine WT.take 0 (listed' := #[true, false, false, false, false, false, false, false, false, false, false, false, false, false, false, false, false, false, false, false]) h1048q rfl rfl (by kernel_rfl) rfl rfl (.int .i64 x1056q) (fun _ _ => by kernel_rfl) ⟨(hS1198q.cell (i := 0) rfl), (hS1198q.cell (i := 1) rfl), (hS1198q.cell (i := 2) rfl), trivial⟩ (fun _ _ _ h_ => h_) (fun a1199q h1200q => ?_)
  clear h1048q a1049q
  refine WT.take 1 (listed' := #[true, true, false, false, false, false, false, false, false, false, false, false, false, false, false, false, false, false, false, false]) h1200q rfl rfl (by kernel_rfl) rfl rfl (.pointer (some ⟨g1058q, 0, none⟩)) (fun _ _ => by kernel_rfl) ⟨(hS1198q.cell (i := 0) rfl), (hS1198q.cell (i := 1) rfl), (hS1198q.cell (i := 2) rfl), trivial⟩ (fun _ _ _ h_ => h_) (fun a1201q h1202q => ?_)
  clear h1200q a1199q
  refine WT.take 2 (listed' := #[true, true, true, false, false, false, false, false, false, false, false, false, false, false, false, false, false, false, false, false]) h1202q rfl rfl (by kernel_rfl) rfl rfl (.pointer (some ⟨g1058q, 0, none⟩)) (fun _ _ => by kernel_rfl) ⟨(hS1198q.cell (i := 0) rfl), (hS1198q.cell (i := 1) rfl), (hS1198q.cell (i := 2) rfl), trivial⟩ (fun _ _ _ h_ => h_) (fun a1203q h1204q => ?_)
  clear h1202q a1201q
  refine WT.take 3 (listed' := #[true, true, true, true, false, false, false, false, false, false, false, false, false, false, false, false, false, false, false, false]) h1204q rfl rfl (by kernel_rfl) rfl rfl (.pointer (some ⟨g1058q, 0, none⟩)) (fun _ _ => by kernel_rfl) ⟨(hS1198q.cell (i := 0) rfl), (hS1198q.cell (i := 1) rfl), (hS1198q.cell (i := 2) rfl), trivial⟩ (fun _ _ _ h_ => h_) (fun a1205q h1206q => ?_)
  clear h1204q a1203q
  refine WT.take 4 (listed' := #[true, true, true, true, true, false, false, false, false, false, false, false, false, false, false, false, false, false, false, false]) h1206q rfl rfl (by kernel_rfl) rfl rfl (.slice A1065q x1053q.f0.length c1066q) (fun w_ hs_ => (run_load1 rfl rfl Tryd.underlying23 rfl hs_.1)) ⟨(hS1198q.cell (i := 0) rfl), (hS1198q.cell (i := 1) rfl), (hS1198q.cell (i := 2) rfl), trivial⟩ (fun _ _ _ h_ => h_) (fun a1207q h1208q => ?_)
  clear h1206q a1205q
  refine WT.take 5 (listed' := #[true, true, true, true, true, true, false, false, false, false, false, false, false, false, false, false, false, false, false, false]) h1208q rfl rfl (by kernel_rfl) rfl rfl (.int .i64 (x1053q.f0.length : Int)) (fun _ _ => by kernel_rfl) ⟨(hS1198q.cell (i := 0) rfl), (hS1198q.cell (i := 1) rfl), (hS1198q.cell (i := 2) rfl), trivial⟩ (fun _ _ _ h_ => h_) (fun a1209q h1210q => ?_)
  clear h1208q a1207q
  refine WT.take 6 (listed' := #[true, true, true, true, true, true, true, false, false, false, false, false, false, false, false, false, false, false, false, false]) h1210q rfl rfl (by kernel_rfl) rfl rfl (.bool (decide (x1056q < (x1053q.f0.length : Int)))) (fun _ _ => by kernel_rfl) ⟨(hS1198q.cell (i := 0) rfl), (hS1198q.cell (i := 1) rfl), (hS1198q.cell (i := 2) rfl), trivial⟩ (fun _ _ _ h_ => h_) (fun a1211q h1212q => ?_)
  clear h1210q a1209q
  refine WT.take 7 (listed' := #[true, true, true, true, true, true, true, true, false, false, false, false, false, false, false, false, false, false, false, false]) h1212q rfl rfl (by kernel_rfl) rfl rfl (.bool (decide (x1056q < (x1053q.f0.length : Int)))) (fun _ _ => by kernel_rfl) ⟨(hS1198q.cell (i := 0) rfl), (hS1198q.cell (i := 1) rfl), (hS1198q.cell (i := 2) rfl), trivial⟩ (fun _ _ _ h_ => h_) (fun a1213q h1214q => ?_)
  clear h1212q a1211q
  by_cases c1215q : x1056q < (x1053q.f0.length : Int)
  · rw [if_pos c1215q] at H
    have hb_ : (decide (x1056q < (x1053q.f0.length : Int))) = true := decide_eq_true c1215q
    try rw [hb_] at h1214q
    clear hb_
    refine WT.take 8 (listed' := #[true, true, true, true, true, true, true, true, true, false, false, false, false, false, false, false, false, false, false, false]) h1214q rfl rfl (by kernel_rfl) rfl rfl (.pointer (some ⟨g1058q, 0, none⟩)) (fun _ _ => by kernel_rfl) ⟨(hS1198q.cell (i := 0) rfl), (hS1198q.cell (i := 1) rfl), (hS1198q.cell (i := 2) rfl), trivial⟩ (fun _ _ _ h_ => h_) (fun a1216q h1217q => ?_)
    clear h1214q a1213q
    refine WT.take 9 (listed' := #[true, true, true, true, true, true, true, true, true, true, false, false, false, false, false, false, false, false, false, false]) h1217q rfl rfl (by kernel_rfl) rfl rfl (.pointer (some ⟨g1058q, 0, none⟩)) (fun _ _ => by kernel_rfl) ⟨(hS1198q.cell (i := 0) rfl), (hS1198q.cell (i := 1) rfl), (hS1198q.cell (i := 2) rfl), trivial⟩ (fun _ _ _ h_ => h_) (fun a1218q h1219q => ?_)
    clear h1217q a1216q
    refine WT.take 10 (listed' := #[true, true, true, true, true, true, true, true, true, true, true, false, false, false, false, false, false, false, false, false]) h1219q rfl rfl (by kernel_rfl) rfl rfl (.pointer (some ⟨g1058q, 1, none⟩)) (fun _ _ => by kernel_rfl) ⟨(hS1198q.cell (i := 0) rfl), (hS1198q.cell (i := 1) rfl), (hS1198q.cell (i := 2) rfl), trivial⟩ (fun _ _ _ h_ => h_) (fun a1220q h1221q => ?_)
    clear h1219q a1218q
    refine WT.take 12 (listed' := #[true, true, true, true, true, true, true, true, true, true, true, false, true, false, false, false, false, false, false, false]) h1221q rfl rfl (by kernel_rfl) rfl rfl (.pointer (some ⟨g1058q, 0, none⟩)) (fun _ _ => by kernel_rfl) ⟨(hS1198q.cell (i := 0) rfl), (hS1198q.cell (i := 1) rfl), (hS1198q.cell (i := 2) rfl), trivial⟩ (fun _ _ _ h_ => h_) (fun a1222q h1223q => ?_)
    clear h1221q a1220q
    refine WT.take 13 (listed' := #[true, true, true, true, true, true, true, true, true, true, true, false, true, true, false, false, false, false, false, false]) h1223q rfl rfl (by kernel_rfl) rfl rfl (.pointer (some ⟨g1058q, 0, none⟩)) (fun _ _ => by kernel_rfl) ⟨(hS1198q.cell (i := 0) rfl), (hS1198q.cell (i := 1) rfl), (hS1198q.cell (i := 2) rfl), trivial⟩ (fun _ _ _ h_ => h_) (fun a1224q h1225q => ?_)
    clear h1223q a1222q
    refine WT.take 14 (listed' := #[true, true, true, true, true, true, true, true, true, true, true, false, true, true, true, false, false, false, false, false]) h1225q rfl rfl (by kernel_rfl) rfl rfl (.pointer (some ⟨g1058q, 2, none⟩)) (fun _ _ => by kernel_rfl) ⟨(hS1198q.cell (i := 0) rfl), (hS1198q.cell (i := 1) rfl), (hS1198q.cell (i := 2) rfl), trivial⟩ (fun _ _ _ h_ => h_) (fun a1226q h1227q => ?_)
    clear h1225q a1224q
    refine WT.take 16 (listed' := #[true, true, true, true, true, true, true, true, true, true, true, false, true, true, true, false, true, false, false, false]) h1227q rfl rfl (by kernel_rfl) rfl rfl (.int .i64 p1) (fun _ _ => by kernel_rfl) ⟨(hS1198q.cell (i := 0) rfl), (hS1198q.cell (i := 1) rfl), (hS1198q.cell (i := 2) rfl), trivial⟩ (fun _ _ _ h_ => h_) (fun a1228q h1229q => ?_)
    clear h1227q a1226q
    refine WT.take 11 (listed' := #[true, true, true, true, true, true, true, true, true, true, true, true, true, true, true, false, true, false, false, false]) h1229q rfl rfl (by kernel_rfl) rfl rfl (.int .i64 x1053q.f1) (fun w_ hs_ => (run_load1 rfl rfl Tryd.underlying3 rfl hs_.2.1)) ⟨(hS1198q.cell (i := 0) rfl), (hS1198q.cell (i := 1) rfl), (hS1198q.cell (i := 2) rfl), trivial⟩ (fun _ _ _ h_ => h_) (fun a1230q h1231q => ?_)
    clear h1229q a1228q
    refine WT.take 15 (listed' := #[true, true, true, true, true, true, true, true, true, true, true, true, true, true, true, true, true, false, false, false]) h1231q rfl rfl (by kernel_rfl) rfl rfl (.int .i64 x1053q.f2) (fun w_ hs_ => (run_load1 rfl rfl Tryd.underlying3 rfl hs_.2.2.1)) ⟨(hS1198q.cell (i := 0) rfl), (hS1198q.cell (i := 1) rfl), (hS1198q.cell (i := 2) rfl), trivial⟩ (fun _ _ _ h_ => h_) (fun a1232q h1233q => ?_)
    clear h1231q a1230q
    refine WT.take 17 (listed' := #[true, true, true, true, true, true, true, true, true, true, true, true, true, true, true, true, true, true, false, false]) h1233q rfl rfl (by kernel_rfl) rfl rfl (.int .i64 (IntKind.i64.wrap (x1053q.f2 - p1))) (fun _ _ => by kernel_rfl) ⟨(hS1198q.cell (i := 0) rfl), (hS1198q.cell (i := 1) rfl), (hS1198q.cell (i := 2) rfl), trivial⟩ (fun _ _ _ h_ => h_) (fun a1234q h1235q => ?_)
    clear h1233q a1232q
    refine WT.take 18 (listed' := #[true, true, true, true, true, true, true, true, true, true, true, true, true, true, true, true, true, true, true, false]) h1235q rfl rfl (by kernel_rfl) rfl rfl (.bool (decide (x1053q.f1 > (IntKind.i64.wrap (x1053q.f2 - p1))))) (fun _ _ => by kernel_rfl) ⟨(hS1198q.cell (i := 0) rfl), (hS1198q.cell (i := 1) rfl), (hS1198q.cell (i := 2) rfl), trivial⟩ (fun _ _ _ h_ => h_) (fun a1236q h1237q => ?_)
    clear h1235q a1234q
    refine WT.take 19 (listed' := #[true, true, true, true, true, true, true, true, true, true, true, true, true, true, true, true, true, true, true, true]) h1237q rfl rfl (by kernel_rfl) rfl rfl (.bool (decide (x1053q.f1 > (IntKind.i64.wrap (x1053q.f2 - p1))))) (fun _ _ => by kernel_rfl) ⟨(hS1198q.cell (i := 0) rfl), (hS1198q.cell (i := 1) rfl), (hS1198q.cell (i := 2) rfl), trivial⟩ (fun _ _ _ h_ => h_) (fun a1238q h1239q => ?_)
    clear h1237q a1236q
    refine WT.done (by kernel_rfl) ?_
    by_cases c1240q : x1053q.f1 > (IntKind.i64.wrap (x1053q.f2 - p1))
    · rw [if_pos c1240q] at H
      have hb_ : (decide (x1053q.f1 > (IntKind.i64.wrap (x1053q.f2 - p1)))) = true := decide_eq_true c1240q
      try rw [hb_] at h1239q
      clear hb_
      refine wp_then h1239q rfl ?_
      refine wp_skip ?_
      refine wp_block ?_
      refine wp_seq ?_
      refine WT.start 15 (fun w_ => (w_.cell? ⟨g1058q, 1, none⟩ = some (.int .i64 x1053q.f1)) ∧ (w_.cell? ⟨g1058q, 0, none⟩ = some (.slice A1065q x1053q.f0.length c1066q)) ∧ (∀ a_ u_, Kn b w0 (M1060q ++ R) a_ u_ → w_.cell? a_ = some u_) ∧ True) (by kernel_rfl) #[false, false, false, false, false, false, false, false, false, false, false, false, false, false, false, false] 16 rfl rfl ?_
      have hS1341q := hS1198q.drew
      refine WT.take 0 (listed' := #[true, false, false, false, false, false, false, false, false, false, false, false, false, false, false, false]) h1239q rfl rfl (by kernel_rfl) rfl rfl (.pointer (some ⟨g1058q, 0, none⟩)) (fun _ _ => by kernel_rfl) ⟨(hS1341q.cell (i := 1) rfl), (hS1341q.cell (i := 0) rfl), (fun _ _ hk_ => (hS1341q.bring 1 rfl rfl).pool.kn hk_), trivial⟩ (fun _ _ _ h_ => h_) (fun a1342q h1343q => ?_)
      clear h1239q a1238q
      refine WT.take 1 (listed' := #[true, true, false, false, false, false, false, false, false, false, false, false, false, false, false, false]) h1343q rfl rfl (by kernel_rfl) rfl rfl (.pointer (some ⟨g1058q, 0, none⟩)) (fun _ _ => by kernel_rfl) ⟨(hS1341q.cell (i := 1) rfl), (hS1341q.cell (i := 0) rfl), (fun _ _ hk_ => (hS1341q.bring 1 rfl rfl).pool.kn hk_), trivial⟩ (fun _ _ _ h_ => h_) (fun a1344q h1345q => ?_)
      clear h1343q a1342q
      refine WT.take 2 (listed' := #[true, true, true, false, false, false, false, false, false, false, false, false, false, false, false, false]) h1345q rfl rfl (by kernel_rfl) rfl rfl (.pointer (some ⟨g1058q, 1, none⟩)) (fun _ _ => by kernel_rfl) ⟨(hS1341q.cell (i := 1) rfl), (hS1341q.cell (i := 0) rfl), (fun _ _ hk_ => (hS1341q.bring 1 rfl rfl).pool.kn hk_), trivial⟩ (fun _ _ _ h_ => h_) (fun a1346q h1347q => ?_)
      clear h1345q a1344q
      refine WT.take 4 (listed' := #[true, true, true, false, true, false, false, false, false, false, false, false, false, false, false, false]) h1347q rfl rfl (by kernel_rfl) rfl rfl (.pointer (some ⟨g1058q, 0, none⟩)) (fun _ _ => by kernel_rfl) ⟨(hS1341q.cell (i := 1) rfl), (hS1341q.cell (i := 0) rfl), (fun _ _ hk_ => (hS1341q.bring 1 rfl rfl).pool.kn hk_), trivial⟩ (fun _ _ _ h_ => h_) (fun a1348q h1349q => ?_)
      clear h1347q a1346q
      refine WT.take 5 (listed' := #[true, true, true, false, true, true, false, false, false, false, false, false, false, false, false, false]) h1349q rfl rfl (by kernel_rfl) rfl rfl (.pointer (some ⟨g1058q, 0, none⟩)) (fun _ _ => by kernel_rfl) ⟨(hS1341q.cell (i := 1) rfl), (hS1341q.cell (i := 0) rfl), (fun _ _ hk_ => (hS1341q.bring 1 rfl rfl).pool.kn hk_), trivial⟩ (fun _ _ _ h_ => h_) (fun a1350q h1351q => ?_)
      clear h1349q a1348q
      refine WT.take 6 (listed' := #[true, true, true, false, true, true, true, false, false, false, false, false, false, false, false, false]) h1351q rfl rfl (by kernel_rfl) rfl rfl (.pointer (some ⟨g1058q, 0, none⟩)) (fun _ _ => by kernel_rfl) ⟨(hS1341q.cell (i := 1) rfl), (hS1341q.cell (i := 0) rfl), (fun _ _ hk_ => (hS1341q.bring 1 rfl rfl).pool.kn hk_), trivial⟩ (fun _ _ _ h_ => h_) (fun a1352q h1353q => ?_)
      clear h1351q a1350q
      refine WT.take 8 (listed' := #[true, true, true, false, true, true, true, false, true, false, false, false, false, false, false, false]) h1353q rfl rfl (by kernel_rfl) rfl rfl (.int .i64 x1056q) (fun _ _ => by kernel_rfl) ⟨(hS1341q.cell (i := 1) rfl), (hS1341q.cell (i := 0) rfl), (fun _ _ hk_ => (hS1341q.bring 1 rfl rfl).pool.kn hk_), trivial⟩ (fun _ _ _ h_ => h_) (fun a1354q h1355q => ?_)
      clear h1353q a1352q
      refine WT.take 3 (listed' := #[true, true, true, true, true, true, true, false, true, false, false, false, false, false, false, false]) h1355q rfl rfl (by kernel_rfl) rfl rfl (.int .i64 x1053q.f1) (fun w_ hs_ => (run_load1 rfl rfl Tryd.underlying3 rfl hs_.1)) ⟨(hS1341q.cell (i := 1) rfl), (hS1341q.cell (i := 0) rfl), (fun _ _ hk_ => (hS1341q.bring 1 rfl rfl).pool.kn hk_), trivial⟩ (fun _ _ _ h_ => h_) (fun a1356q h1357q => ?_)
      clear h1355q a1354q
      refine WT.take 7 (listed' := #[true, true, true, true, true, true, true, true, true, false, false, false, false, false, false, false]) h1357q rfl rfl (by kernel_rfl) rfl rfl (.slice A1065q x1053q.f0.length c1066q) (fun w_ hs_ => (run_load1 rfl rfl Tryd.underlying23 rfl hs_.2.1)) ⟨(hS1341q.cell (i := 1) rfl), (hS1341q.cell (i := 0) rfl), (fun _ _ hk_ => (hS1341q.bring 1 rfl rfl).pool.kn hk_), trivial⟩ (fun _ _ _ h_ => h_) (fun a1358q h1359q => ?_)
      clear h1357q a1356q
      by_cases c1360q : 0 ≤ x1056q
      · rw [if_pos c1360q] at H
        have hi1363q : 0 ≤ x1056q := by first | assumption | omega
        have hi1364q : x1056q < (x1053q.f0.length : Int) := by first | assumption | omega
        obtain ⟨ad1361q, _, ha1362q, -, -⟩ := Rds.elemAny hr1064q.rds hi1363q (gt_get (z := z52) hi1363q hi1364q)
        refine WT.take 9 (listed' := #[true, true, true, true, true, true, true, true, true, true, false, false, false, false, false, false]) h1359q rfl rfl (by kernel_rfl) rfl rfl (.pointer (some (ad1361q.add (x1056q.toNat * 3)))) (fun w_ hs_ => (run_idx (ad := ad1361q) (sz := 3) rfl (by rw [← ha1362q]; rfl) rfl Tryd.underlying23 (by kernel_rfl) hi1363q hi1364q)) ⟨(hS1341q.cell (i := 1) rfl), (hS1341q.cell (i := 0) rfl), (fun _ _ hk_ => (hS1341q.bring 1 rfl rfl).pool.kn hk_), trivial⟩ (fun _ _ _ h_ => h_) (fun a1365q h1366q => ?_)
        clear h1359q a1358q
        obtain ⟨ad1367q, cs1368q, ha1369q, hr1371q, hc1370q⟩ := Rds.elemAny hr1064q.rds hi1363q (gt_get (z := z52) hi1363q hi1364q)
        rw [ha1362q] at ha1369q; obtain rfl := Option.some.inj ha1369q
        obtain rfl := k52qrd hr1371q
        refine WT.take 10 (listed' := #[true, true, true, true, true, true, true, true, true, true, true, false, false, false, false, false]) h1366q rfl rfl (by kernel_rfl) rfl rfl (.agg #[.string (mkS ((gt z52 x1053q.f0 x1056q).f0)), .string (mkS ((gt z52 x1053q.f0 x1056q).f1)), .bool ((gt z52 x1053q.f0 x1056q).f2)]) (fun w_ hs_ => (run_loadN rfl rfl Tryd.underlying52 rfl (cs := ([.string (mkS ((gt z52 x1053q.f0 x1056q).f0)), .string (mkS ((gt z52 x1053q.f0 x1056q).f1)), .bool ((gt z52 x1053q.f0 x1056q).f2)] : List Value)) (by kernel_rfl) (hc1370q _ hs_.2.2.1))) ⟨(hS1341q.cell (i := 1) rfl), (hS1341q.cell (i := 0) rfl), (fun _ _ hk_ => (hS1341q.bring 1 rfl rfl).pool.kn hk_), trivial⟩ (fun _ _ _ h_ => h_) (fun a1372q h1373q => ?_)
        clear h1366q a1365q
        obtain ⟨r1375q, A1374q, H⟩ := bind1 H
        refine WT.op 11 (listed' := #[true, true, true, true, true, true, true, true, true, true, true, true, false, false, false, false]) h1373q rfl (by kernel_rfl) rfl rfl ?_
        refine owp_call [.agg #[.string (mkS ((gt z52 x1053q.f0 x1056q).f0)), .string (mkS ((gt z52 x1053q.f0 x1056q).f1)), .bool ((gt z52 x1053q.f0 x1056q).f2)]] h1373q rfl (by kernel_rfl) rfl Tryd.func26 (by kernel_rfl) rfl (by kernel_rfl) (dyntable_Size.calls (p0 := (⟨(gt z52 x1053q.f0 x1056q).f0, (gt z52 x1053q.f0 x1056q).f1, (gt z52 x1053q.f0 x1056q).f2⟩ : S52))  A1374q hS1341q) (fun e1377q W1376q hp1378q => ?_)
        obtain ⟨rfl, hS1381q⟩ := hp1378q
        refine ⟨_, rfl, fun a1379q h1380q => ?_⟩
        clear h1373q a1372q
        refine ⟨.inr ⟨(hS1381q.cell (i := 1) rfl), (hS1381q.cell (i := 0) rfl), (fun _ _ hk_ => (hS1381q.bring 1 rfl rfl).pool.kn hk_), trivial⟩, ?_⟩
        refine WT.take 12 (listed' := #[true, true, true, true, true, true, true, true, true, true, true, true, true, false, false, false]) h1380q rfl rfl (by kernel_rfl) rfl rfl (.int .i64 (IntKind.i64.wrap (x1053q.f1 - r1375q))) (fun _ _ => by kernel_rfl) ⟨(hS1381q.cell (i := 1) rfl), (hS1381q.cell (i := 0) rfl), (fun _ _ hk_ => (hS1381q.bring 1 rfl rfl).pool.kn hk_), trivial⟩ (fun _ _ _ h_ => h_) (fun a1382q h1383q => ?_)
        clear h1380q a1379q
        refine WT.op 13 (listed' := #[true, true, true, true, true, true, true, true, true, true, true, true, true, true, false, false]) h1383q rfl (by kernel_rfl) rfl rfl ?_
        refine owp_run (v := .pointer (some ⟨g1058q, 0, none⟩)) h1383q rfl (by kernel_rfl) (by kernel_rfl) (fun a1384q h1385q => ?_)
        clear h1383q a1382q
        refine ⟨.inr ⟨(hS1381q.cell (i := 1) rfl), (hS1381q.cell (i := 0) rfl), (fun _ _ hk_ => (hS1381q.bring 1 rfl rfl).pool.kn hk_), trivial⟩, ?_⟩
        refine WT.take 14 (listed' := #[true, true, true, true, true, true, true, true, true, true, true, true, true, true, true, false]) h1385q rfl rfl (by kernel_rfl) rfl rfl (.pointer (some ⟨g1058q, 1, none⟩)) (fun _ _ => by kernel_rfl) ⟨(hS1381q.cell (i := 1) rfl), (hS1381q.cell (i := 0) rfl), (fun _ _ hk_ => (hS1381q.bring 1 rfl rfl).pool.kn hk_), trivial⟩ (fun _ _ _ h_ => h_) (fun a1386q h1387q => ?_)
        clear h1385q a1384q
        refine WT.op 15 (listed' := #[true, true, true, true, true, true, true, true, true, true, true, true, true, true, true, true]) h1387q rfl (by kernel_rfl) rfl rfl ?_
        refine owp_store (i := 1) (vs := ([.int .i64 (IntKind.i64.wrap (x1053q.f1 - r1375q))] : List Value)) h1387q rfl (by kernel_rfl) rfl rfl rfl rfl (by simp [Value.oneCell']) (by kernel_rfl) hS1381q (by simp) (cs' := ([.slice A1065q x1053q.f0.length c1066q, .int .i64 (IntKind.i64.wrap (x1053q.f1 - r1375q)), .int .i64 x1053q.f2] : List Value)) rfl (fun a1388q W1390q h1389q hS1391q => ?_)
        clear h1387q a1386q
        refine ⟨.inl (by decide), ?_⟩
        refine WT.done (by kernel_rfl) ?_
        refine WL.start ?_
        refine WL.block (c := 3) (m' := 3) h1389q rfl [(4, .int .i64 (IntKind.i64.wrap (x1056q + 1))), (41, .int .i64 (IntKind.i64.wrap (x1056q + 1))), (40, .int .i64 x1056q)] (by kernel_rfl) (fun a1392q h1393q => ?_)
        clear h1389q a1388q
        refine WL.done (by kernel_rfl) ?_
        have hS1394q : St b w0 W1390q R (M1060q :: [(g1058q, .cells ([.slice A1065q x1053q.f0.length c1066q, .int .i64 (IntKind.i64.wrap (x1053q.f1 - r1375q)), .int .i64 x1053q.f2] : List Value).toArray 79 (0, 0))] :: Fs) := hS1391q.bring 1 rfl rfl
        have hS1395q : St b w0 W1390q R ([(g1058q, .cells ([.slice A1065q x1053q.f0.length c1066q, .int .i64 (IntKind.i64.wrap (x1053q.f1 - r1375q)), .int .i64 x1053q.f2] : List Value).toArray 79 (0, 0))] :: M1060q :: Fs) := hS1394q.bring 1 rfl rfl
        obtain ⟨M1397q, hr1396q, hM_⟩ := k79qmk (b := b) (w0 := w0) (R := R) (x := (⟨x1053q.f0, IntKind.i64.wrap (x1053q.f1 - r1375q), x1053q.f2⟩ : S79)) (gvf0 := hr1064q)
        have hp1398q : Ptr k79 79 b w0 R (.pointer (some ⟨g1058q, 0, none⟩)) (⟨x1053q.f0, IntKind.i64.wrap (x1053q.f1 - r1375q), x1053q.f2⟩ : S79) ((g1058q, .cells ([.slice A1065q x1053q.f0.length c1066q, .int .i64 (IntKind.i64.wrap (x1053q.f1 - r1375q)), .int .i64 x1053q.f2] : List Value).toArray 79 (0, 0)) :: M1397q) := ⟨_, _, _, rfl, rfl, hr1396q⟩
        rw [hM_] at hp1398q
        have hS1400q : St b w0 W1390q R (((g1058q, .cells ([.slice A1065q x1053q.f0.length c1066q, .int .i64 (IntKind.i64.wrap (x1053q.f1 - r1375q)), .int .i64 x1053q.f2] : List Value).toArray 79 (0, 0)) :: (M1060q)) :: Fs) := hS1395q.assoc (by simp only [List.flatten_cons, List.append_assoc, List.cons_append, List.nil_append, List.append_nil])
        obtain ⟨M1401q, hM_⟩ : ∃ y : Frag, y = ((g1058q, .cells ([.slice A1065q x1053q.f0.length c1066q, .int .i64 (IntKind.i64.wrap (x1053q.f1 - r1375q)), .int .i64 x1053q.f2] : List Value).toArray 79 (0, 0)) :: (M1060q)) := ⟨_, rfl⟩
        rw [← hM_] at hp1398q hS1400q
        clear hM_
        exact ⟨k1057q, by omega, (⟨x1053q.f0, IntKind.i64.wrap (x1053q.f1 - r1375q), x1053q.f2⟩ : S79), M1401q, IntKind.i64.wrap (x1056q + 1), h1393q.keep ⟨rfl, rfl, rfl, trivial⟩, ⟨H⟩, ⟨by omega⟩, ⟨hS1400q⟩, ⟨hp1398q⟩⟩
      · rw [if_neg c1360q] at H
        cases H
    · rw [if_neg c1240q] at H
      have hb_ : (decide (x1053q.f1 > (IntKind.i64.wrap (x1053q.f2 - p1)))) = false := decide_eq_false c1240q
      try rw [hb_] at h1239q
      clear hb_
      refine wp_else h1239q rfl ?_
      refine wp_exit ?_
      refine WL.start ?_
      refine WL.block (c := 4) (m' := 4) h1239q rfl [(45, .pointer (some ⟨g1058q, 0, none⟩)), (44, .pointer (some ⟨g1058q, 0, none⟩)), (43, .pointer (some ⟨g1058q, 0, none⟩)), (42, .pointer (some ⟨g1058q, 0, none⟩))] (by kernel_rfl) (fun a1402q h1403q => ?_)
      clear h1239q a1238q
      refine WL.op' (m := 4) h1403q rfl rfl ?_
      refine owp_run (v := .slice A1065q x1053q.f0.length c1066q) h1403q rfl (by kernel_rfl) (run_load1 rfl rfl Tryd.underlying23 rfl (hS1198q.cell (i := 0) rfl)) (fun a1404q h1405q => ?_)
      clear h1403q a1402q
      refine WL.block (c := 1) (m' := 6) h1405q rfl [(47, .int .i64 x1056q)] (by kernel_rfl) (fun a1406q h1407q => ?_)
      clear h1405q a1404q
      have hS1408q : St b w0 W1050q.drew R (M1060q :: [(g1058q, .cells ([.slice A1065q x1053q.f0.length c1066q, .int .i64 x1053q.f1, .int .i64 x1053q.f2] : List Value).toArray 79 (0, 0))] :: Fs) := hS1198q.bring 1 rfl rfl
      obtain ⟨r1410q, A1409q, H⟩ := bind1 H
      refine WL.op' (m := 6) h1407q rfl rfl ?_
      refine owp_call [.slice A1065q x1053q.f0.length c1066q, .int .i64 0, .int .i64 x1056q] h1407q rfl (by kernel_rfl) rfl Tryd.func49 (by kernel_rfl) rfl (by kernel_rfl) (api_Field.calls hr1064q A1409q hS1408q) (fun e1412q W1411q hp1413q => ?_)
      obtain ⟨v1416q, M1417q, rfl, hr1418q, hS1419q⟩ := hp1413q
      refine ⟨_, rfl, fun a1414q h1415q => ?_⟩
      clear h1407q a1406q
      obtain ⟨A1420q, c1421q, rfl⟩ := hr1418q.form
      refine WL.block (c := 2) (m' := 9) h1415q rfl [(50, .pointer (some ⟨g1058q, 0, none⟩)), (49, .pointer (some ⟨g1058q, 0, none⟩))] (by kernel_rfl) (fun a1422q h1423q => ?_)
      clear h1415q a1414q
      have hS1424q : St b w0 W1411q R ([(g1058q, .cells ([.slice A1065q x1053q.f0.length c1066q, .int .i64 x1053q.f1, .int .i64 x1053q.f2] : List Value).toArray 79 (0, 0))] :: M1417q :: Fs) := hS1419q.bring 1 rfl rfl
      refine WL.op' (m := 9) h1423q rfl rfl ?_
      refine owp_store (i := 0) (vs := ([.slice A1420q r1410q.length c1421q] : List Value)) h1423q rfl (by kernel_rfl) rfl rfl rfl rfl (by simp [Value.oneCell']) (by kernel_rfl) hS1424q (by simp) (cs' := ([.slice A1420q r1410q.length c1421q, .int .i64 x1053q.f1, .int .i64 x1053q.f2] : List Value)) rfl (fun a1425q W1427q h1426q hS1428q => ?_)
      clear h1423q a1422q
      refine WL.done (by kernel_rfl) ?_
      have hS1429q : St b w0 W1427q R (M1417q :: [(g1058q, .cells ([.slice A1420q r1410q.length c1421q, .int .i64 x1053q.f1, .int .i64 x1053q.f2] : List Value).toArray 79 (0, 0))] :: Fs) := hS1428q.bring 1 rfl rfl
      have hS1430q : St b w0 W1427q R ([(g1058q, .cells ([.slice A1420q r1410q.length c1421q, .int .i64 x1053q.f1, .int .i64 x1053q.f2] : List Value).toArray 79 (0, 0))] :: M1417q :: Fs) := hS1429q.bring 1 rfl rfl
      obtain ⟨M1432q, hr1431q, hM_⟩ := k79qmk (b := b) (w0 := w0) (R := R) (x := (⟨r1410q, x1053q.f1, x1053q.f2⟩ : S79)) (gvf0 := hr1418q)
      have hp1433q : Ptr k79 79 b w0 R (.pointer (some ⟨g1058q, 0, none⟩)) (⟨r1410q, x1053q.f1, x1053q.f2⟩ : S79) ((g1058q, .cells ([.slice A1420q r1410q.length c1421q, .int .i64 x1053q.f1, .int .i64 x1053q.f2] : List Value).toArray 79 (0, 0)) :: M1432q) := ⟨_, _, _, rfl, rfl, hr1431q⟩
      rw [hM_] at hp1433q
      have hS1435q : St b w0 W1427q R (((g1058q, .cells ([.slice A1420q r1410q.length c1421q, .int .i64 x1053q.f1, .int .i64 x1053q.f2] : List Value).toArray 79 (0, 0)) :: (M1417q)) :: Fs) := hS1430q.assoc (by simp only [List.flatten_cons, List.append_assoc, List.cons_append, List.nil_append, List.append_nil])
      obtain ⟨M1436q, hM_⟩ : ∃ y : Frag, y = ((g1058q, .cells ([.slice A1420q r1410q.length c1421q, .int .i64 x1053q.f1, .int .i64 x1053q.f2] : List Value).toArray 79 (0, 0)) :: (M1417q)) := ⟨_, rfl⟩
      rw [← hM_] at hp1433q hS1435q
      clear hM_
      obtain rfl := Option.some.inj H
      repeat (first | refine then_go ?_ | refine inBlock_go ?_)
      refine body_end (v := .tuple #[]) h1426q (by kernel_rfl) (by kernel_rfl) ?_
      exact ⟨M1436q, rfl, hp1433q, hS1435q⟩
  · rw [if_neg c1215q] at H
    have hb_ : (decide (x1056q < (x1053q.f0.length : Int))) = false := decide_eq_false c1215q
    try rw [hb_] at h1214q
    clear hb_
    refine WT.skip 8 (listed' := #[true, true, true, true, true, true, true, true, true, false, false, false, false, false, false, false, false, false, false, false]) h1214q rfl rfl (by kernel_rfl) rfl rfl ⟨(hS1198q.cell (i := 0) rfl), (hS1198q.cell (i := 1) rfl), (hS1198q.cell (i := 2) rfl), trivial⟩ (fun _ _ _ h_ => h_) (fun a1437q h1438q => ?_)
    clear h1214q a1213q
    refine WT.skip 9 (listed' := #[true, true, true, true, true, true, true, true, true, true, false, false, false, false, false, false, false, false, false, false]) h1438q rfl rfl (by kernel_rfl) rfl rfl ⟨(hS1198q.cell (i := 0) rfl), (hS1198q.cell (i := 1) rfl), (hS1198q.cell (i := 2) rfl), trivial⟩ (fun _ _ _ h_ => h_) (fun a1439q h1440q => ?_)
    clear h1438q a1437q
    refine WT.skip 10 (listed' := #[true, true, true, true, true, true, true, true, true, true, true, false, false, false, false, false, false, false, false, false]) h1440q rfl rfl (by kernel_rfl) rfl rfl ⟨(hS1198q.cell (i := 0) rfl), (hS1198q.cell (i := 1) rfl), (hS1198q.cell (i := 2) rfl), trivial⟩ (fun _ _ _ h_ => h_) (fun a1441q h1442q => ?_)
    clear h1440q a1439q
    refine WT.skip 11 (listed' := #[true, true, true, true, true, true, true, true, true, true, true, true, false, false, false, false, false, false, false, false]) h1442q rfl rfl (by kernel_rfl) rfl rfl ⟨(hS1198q.cell (i := 0) rfl), (hS1198q.cell (i := 1) rfl), (hS1198q.cell (i := 2) rfl), trivial⟩ (fun _ _ _ h_ => h_) (fun a1443q h1444q => ?_)
    clear h1442q a1441q
    refine WT.skip 12 (listed' := #[true, true, true, true, true, true, true, true, true, true, true, true, true, false, false, false, false, false, false, false]) h1444q rfl rfl (by kernel_rfl) rfl rfl ⟨(hS1198q.cell (i := 0) rfl), (hS1198q.cell (i := 1) rfl), (hS1198q.cell (i := 2) rfl), trivial⟩ (fun _ _ _ h_ => h_) (fun a1445q h1446q => ?_)
    clear h1444q a1443q
    refine WT.skip 13 (listed' := #[true, true, true, true, true, true, true, true, true, true, true, true, true, true, false, false, false, false, false, false]) h1446q rfl rfl (by kernel_rfl) rfl rfl ⟨(hS1198q.cell (i := 0) rfl), (hS1198q.cell (i := 1) rfl), (hS1198q.cell (i := 2) rfl), trivial⟩ (fun _ _ _ h_ => h_) (fun a1447q h1448q => ?_)
    clear h1446q a1445q
    refine WT.skip 14 (listed' := #[true, true, true, true, true, true, true, true, true, true, true, true, true, true, true, false, false, false, false, false]) h1448q rfl rfl (by kernel_rfl) rfl rfl ⟨(hS1198q.cell (i := 0) rfl), (hS1198q.cell (i := 1) rfl), (hS1198q.cell (i := 2) rfl), trivial⟩ (fun _ _ _ h_ => h_) (fun a1449q h1450q => ?_)
    clear h1448q a1447q
    refine WT.skip 15 (listed' := #[true, true, true, true, true, true, true, true, true, true, true, true, true, true, true, true, false, false, false, false]) h1450q rfl rfl (by kernel_rfl) rfl rfl ⟨(hS1198q.cell (i := 0) rfl), (hS1198q.cell (i := 1) rfl), (hS1198q.cell (i := 2) rfl), trivial⟩ (fun _ _ _ h_ => h_) (fun a1451q h1452q => ?_)
    clear h1450q a1449q
    refine WT.skip 16 (listed' := #[true, true, true, true, true, true, true, true, true, true, true, true, true, true, true, true, true, false, false, false]) h1452q rfl rfl (by kernel_rfl) rfl rfl ⟨(hS1198q.cell (i := 0) rfl), (hS1198q.cell (i := 1) rfl), (hS1198q.cell (i := 2) rfl), trivial⟩ (fun _ _ _ h_ => h_) (fun a1453q h1454q => ?_)
    clear h1452q a1451q
    refine WT.skip 17 (listed' := #[true, true, true, true, true, true, true, true, true, true, true, true, true, true, true, true, true, true, false, false]) h1454q rfl rfl (by kernel_rfl) rfl rfl ⟨(hS1198q.cell (i := 0) rfl), (hS1198q.cell (i := 1) rfl), (hS1198q.cell (i := 2) rfl), trivial⟩ (fun _ _ _ h_ => h_) (fun a1455q h1456q => ?_)
    clear h1454q a1453q
    refine WT.skip 18 (listed' := #[true, true, true, true, true, true, true, true, true, true, true, true, true, true, true, true, true, true, true, false]) h1456q rfl rfl (by kernel_rfl) rfl rfl ⟨(hS1198q.cell (i := 0) rfl), (hS1198q.cell (i := 1) rfl), (hS1198q.cell (i := 2) rfl), trivial⟩ (fun _ _ _ h_ => h_) (fun a1457q h1458q => ?_)
    clear h1456q a1455q
    refine WT.take 19 (listed' := #[true, true, true, true, true, true, true, true, true, true, true, true, true, true, true, true, true, true, true, true]) h1458q rfl rfl (by kernel_rfl) rfl rfl (.bool false) (fun _ _ => by kernel_rfl) ⟨(hS1198q.cell (i := 0) rfl), (hS1198q.cell (i := 1) rfl), (hS1198q.cell (i := 2) rfl), trivial⟩ (fun _ _ _ h_ => h_) (fun a1459q h1460q => ?_)
    clear h1458q a1457q
    refine WT.done (by kernel_rfl) ?_
    refine wp_else h1460q rfl ?_
    refine wp_exit ?_
    refine WL.start ?_
    refine WL.block (c := 4) (m' := 4) h1460q rfl [(45, .pointer (some ⟨g1058q, 0, none⟩)), (44, .pointer (some ⟨g1058q, 0, none⟩)), (43, .pointer (some ⟨g1058q, 0, none⟩)), (42, .pointer (some ⟨g1058q, 0, none⟩))] (by kernel_rfl) (fun a1461q h1462q => ?_)
    clear h1460q a1459q
    refine WL.op' (m := 4) h1462q rfl rfl ?_
    refine owp_run (v := .slice A1065q x1053q.f0.length c1066q) h1462q rfl (by kernel_rfl) (run_load1 rfl rfl Tryd.underlying23 rfl (hS1198q.cell (i := 0) rfl)) (fun a1463q h1464q => ?_)
    clear h1462q a1461q
    refine WL.block (c := 1) (m' := 6) h1464q rfl [(47, .int .i64 x1056q)] (by kernel_rfl) (fun a1465q h1466q => ?_)
    clear h1464q a1463q
    have hS1467q : St b w0 W1050q.drew R (M1060q :: [(g1058q, .cells ([.slice A1065q x1053q.f0.length c1066q, .int .i64 x1053q.f1, .int .i64 x1053q.f2] : List Value).toArray 79 (0, 0))] :: Fs) := hS1198q.bring 1 rfl rfl
    obtain ⟨r1469q, A1468q, H⟩ := bind1 H
    refine WL.op' (m := 6) h1466q rfl rfl ?_
    refine owp_call [.slice A1065q x1053q.f0.length c1066q, .int .i64 0, .int .i64 x1056q] h1466q rfl (by kernel_rfl) rfl Tryd.func49 (by kernel_rfl) rfl (by kernel_rfl) (api_Field.calls hr1064q A1468q hS1467q) (fun e1471q W1470q hp1472q => ?_)
    obtain ⟨v1475q, M1476q, rfl, hr1477q, hS1478q⟩ := hp1472q
    refine ⟨_, rfl, fun a1473q h1474q => ?_⟩
    clear h1466q a1465q
    obtain ⟨A1479q, c1480q, rfl⟩ := hr1477q.form
    refine WL.block (c := 2) (m' := 9) h1474q rfl [(50, .pointer (some ⟨g1058q, 0, none⟩)), (49, .pointer (some ⟨g1058q, 0, none⟩))] (by kernel_rfl) (fun a1481q h1482q => ?_)
    clear h1474q a1473q
    have hS1483q : St b w0 W1470q R ([(g1058q, .cells ([.slice A1065q x1053q.f0.length c1066q, .int .i64 x1053q.f1, .int .i64 x1053q.f2] : List Value).toArray 79 (0, 0))] :: M1476q :: Fs) := hS1478q.bring 1 rfl rfl
    refine WL.op' (m := 9) h1482q rfl rfl ?_
    refine owp_store (i := 0) (vs := ([.slice A1479q r1469q.length c1480q] : List Value)) h1482q rfl (by kernel_rfl) rfl rfl rfl rfl (by simp [Value.oneCell']) (by kernel_rfl) hS1483q (by simp) (cs' := ([.slice A1479q r1469q.length c1480q, .int .i64 x1053q.f1, .int .i64 x1053q.f2] : List Value)) rfl (fun a1484q W1486q h1485q hS1487q => ?_)
    clear h1482q a1481q
    refine WL.done (by kernel_rfl) ?_
    have hS1488q : St b w0 W1486q R (M1476q :: [(g1058q, .cells ([.slice A1479q r1469q.length c1480q, .int .i64 x1053q.f1, .int .i64 x1053q.f2] : List Value).toArray 79 (0, 0))] :: Fs) := hS1487q.bring 1 rfl rfl
    have hS1489q : St b w0 W1486q R ([(g1058q, .cells ([.slice A1479q r1469q.length c1480q, .int .i64 x1053q.f1, .int .i64 x1053q.f2] : List Value).toArray 79 (0, 0))] :: M1476q :: Fs) := hS1488q.bring 1 rfl rfl
    obtain ⟨M1491q, hr1490q, hM_⟩ := k79qmk (b := b) (w0 := w0) (R := R) (x := (⟨r1469q, x1053q.f1, x1053q.f2⟩ : S79)) (gvf0 := hr1477q)
    have hp1492q : Ptr k79 79 b w0 R (.pointer (some ⟨g1058q, 0, none⟩)) (⟨r1469q, x1053q.f1, x1053q.f2⟩ : S79) ((g1058q, .cells ([.slice A1479q r1469q.length c1480q, .int .i64 x1053q.f1, .int .i64 x1053q.f2] : List Value).toArray 79 (0, 0)) :: M1491q) := ⟨_, _, _, rfl, rfl, hr1490q⟩
    rw [hM_] at hp1492q
    have hS1494q : St b w0 W1486q R (((g1058q, .cells ([.slice A1479q r1469q.length c1480q, .int .i64 x1053q.f1, .int .i64 x1053q.f2] : List Value).toArray 79 (0, 0)) :: (M1476q)) :: Fs) := hS1489q.assoc (by simp only [List.flatten_cons, List.append_assoc, List.cons_append, List.nil_append, List.append_nil])
    obtain ⟨M1495q, hM_⟩ : ∃ y : Frag, y = ((g1058q, .cells ([.slice A1479q r1469q.length c1480q, .int .i64 x1053q.f1, .int .i64 x1053q.f2] : List Value).toArray 79 (0, 0)) :: (M1476q)) := ⟨_, rfl⟩
    rw [← hM_] at hp1492q hS1494q
    clear hM_
    obtain rfl := Option.some.inj H
    repeat (first | refine then_go ?_ | refine inBlock_go ?_)
    refine body_end (v := .tuple #[]) h1485q (by kernel_rfl) (by kernel_rfl) ?_
    exact ⟨M1495q, rfl, hp1492q, hS1494q⟩

/-! ### (*louver/dyntable.Table).Add -/
def dyntable_Table_Add.f (k : Nat) (p0 : S79) (p1 : S52) : Option (S79) := bnd1 (dyntable_Size.f (⟨p1.f0, p1.f1, p1.f2⟩ : S52)) fun r330q => (bnd1 (dyntable_Table_within.f k p0 r330q) fun r350q => (if r330q > r350q.f2 then (some r350q) else (if r350q.f0.length + 1 ≤ 3518437208883 then (lt1 (r350q.f0 ++ ([(⟨p1.f0, p1.f1, false⟩ : S52)] : List S52) : List S52) fun y525q => (some (⟨y525q, IntKind.i64.wrap (r350q.f1 + r330q), r350q.f2⟩ : S79))) else (none))))
set_option maxHeartbeats 2000000 in
set_option maxRecDepth 100000 in
theorem dyntable_Table_Add.calls (k : Nat) {b : Nat} {w0 W : World} {R : Frag} {Fs : List Frag} {p0 : S79} {p1 : S52}  {v0 : Value} {M0 : Frag} {r0q : S79} (hp0 : Ptr k79 79 b w0 R v0 p0 M0) (H : dyntable_Table_Add.f k p0 p1 = some r0q) (hS : St b w0 W R (M0 :: Fs)) :
    Calls Tryd.prog 39 ([v0, .agg #[.string (mkS p1.f0), .string (mkS p1.f1), .bool p1.f2]] : List Value).toArray W (fun e W' => ∃ (O0q : Frag), e = .returned (.tuple #[]) ∧ Ptr k79 79 b w0 R v0 r0q O0q ∧ St b w0 W' R (O0q :: Fs)) := by
  unfold dyntable_Table_Add.f at H
  refine calls_enter Tryd.func39 rfl 40 rfl (by kernel_rfl) (fun a h => ?_)
  refine wp_seq ?_
  refine WL.start ?_
  refine WL.op' (m := 0) h rfl rfl ?_
  refine owp_new (fun g_ => .pointer (some ⟨g_, 0, none⟩)) (.cells ([.string (mkS p1.f0), .string (mkS p1.f1), .bool p1.f2] : List Value).toArray 52 (0, 0)) h rfl (by kernel_rfl) (by kernel_rfl) hS (fun a306q W308q g309q h307q hS310q => ?_)
  refine WL.done (by kernel_rfl) ?_
  refine wp_seq ?_
  refine wp_seq ?_
  refine WL.start ?_
  refine WL.block (c := 1) (m' := 1) h307q rfl [(5, v0)] (by kernel_rfl) (fun a311q h312q => ?_)
  clear h307q a306q
  have hS313q : St b w0 W308q R (M0 :: [(g309q, .cells ([.string (mkS p1.f0), .string (mkS p1.f1), .bool p1.f2] : List Value).toArray 52 (0, 0))] :: Fs) := hS310q.bring 1 rfl rfl
  obtain ⟨g314q, cs315q, M316q, hv_, hM_, hr317q⟩ := hp0
  obtain ⟨v318q, M319q, rfl, hM2q, hr320q⟩ := k79qrep hr317q
  subst hM2q
  subst hM_
  subst hv_
  replace hr320q : Row k52 52 b w0 R v318q p0.f0 M316q := hr320q
  obtain ⟨A321q, c322q, rfl⟩ := hr320q.form
  have hS323q : St b w0 W308q R ([(g314q, .cells ([.slice A321q p0.f0.length c322q, .int .i64 p0.f1, .int .i64 p0.f2] : List Value).toArray 79 (0, 0))] :: M316q :: [(g309q, .cells ([.string (mkS p1.f0), .string (mkS p1.f1), .bool p1.f2] : List Value).toArray 52 (0, 0))] :: Fs) := hS313q.assoc (by simp only [List.flatten_cons, List.append_assoc, List.cons_append, List.nil_append, List.append_nil])
  refine WL.block (c := 1) (m' := 2) h312q rfl [(6, .bool false)] (by kernel_rfl) (fun a324q h325q => ?_)
  clear h312q a311q
  refine WL.done (by kernel_rfl) ?_
  refine wp_else h325q rfl ?_
  refine wp_skip ?_
  refine wp_seq ?_
  refine WL.start ?_
  have hS326q : St b w0 W308q R ([(g309q, .cells ([.string (mkS p1.f0), .string (mkS p1.f1), .bool p1.f2] : List Value).toArray 52 (0, 0))] :: [(g314q, .cells ([.slice A321q p0.f0.length c322q, .int .i64 p0.f1, .int .i64 p0.f2] : List Value).toArray 79 (0, 0))] :: M316q :: Fs) := hS323q.bring 2 rfl rfl
  refine WL.op' (m := 0) h325q rfl rfl ?_
  refine owp_run (v := .agg #[.string (mkS p1.f0), .string (mkS p1.f1), .bool p1.f2]) h325q rfl (by kernel_rfl) (run_loadN rfl rfl Tryd.underlying52 rfl (cs := ([.string (mkS p1.f0), .string (mkS p1.f1), .bool p1.f2] : List Value)) (by kernel_rfl) (hS326q.cells (vs := ([.string (mkS p1.f0), .string (mkS p1.f1), .bool p1.f2] : List Value)) rfl)) (fun a327q h328q => ?_)
  clear h325q a324q
  obtain ⟨r330q, A329q, H⟩ := bind1 H
  refine WL.op' (m := 1) h328q rfl rfl ?_
  refine owp_call [.agg #[.string (mkS p1.f0), .string (mkS p1.f1), .bool p1.f2]] h328q rfl (by kernel_rfl) rfl Tryd.func26 (by kernel_rfl) rfl (by kernel_rfl) (dyntable_Size.calls (p0 := (⟨p1.f0, p1.f1, p1.f2⟩ : S52))  A329q hS326q) (fun e332q W331q hp333q => ?_)
  obtain ⟨rfl, hS336q⟩ := hp333q
  refine ⟨_, rfl, fun a334q h335q => ?_⟩
  clear h328q a327q
  refine WL.block (c := 1) (m' := 3) h335q rfl [(4, .int .i64 r330q)] (by kernel_rfl) (fun a337q h338q => ?_)
  clear h335q a334q
  refine WL.done (by kernel_rfl) ?_
  refine wp_seq ?_
  refine WL.start ?_
  refine WL.block (c := 2) (m' := 2) h338q rfl [(10, .int .i64 r330q), (9, .pointer (some ⟨g314q, 0, none⟩))] (by kernel_rfl) (fun a339q h340q => ?_)
  clear h338q a337q
  have hS341q : St b w0 W331q R (M316q :: [(g309q, .cells ([.string (mkS p1.f0), .string (mkS p1.f1), .bool p1.f2] : List Value).toArray 52 (0, 0))] :: [(g314q, .cells ([.slice A321q p0.f0.length c322q, .int .i64 p0.f1, .int .i64 p0.f2] : List Value).toArray 79 (0, 0))] :: Fs) := hS336q.bring 2 rfl rfl
  have hS342q : St b w0 W331q R ([(g314q, .cells ([.slice A321q p0.f0.length c322q, .int .i64 p0.f1, .int .i64 p0.f2] : List Value).toArray 79 (0, 0))] :: M316q :: [(g309q, .cells ([.string (mkS p1.f0), .string (mkS p1.f1), .bool p1.f2] : List Value).toArray 52 (0, 0))] :: Fs) := hS341q.bring 2 rfl rfl
  obtain ⟨M344q, hr343q, hM_⟩ := k79qmk (b := b) (w0 := w0) (R := R) (x := p0) (gvf0 := hr320q)
  have hp345q : Ptr k79 79 b w0 R (.pointer (some ⟨g314q, 0, none⟩)) p0 ((g314q, .cells ([.slice A321q p0.f0.length c322q, .int .i64 p0.f1, .int .i64 p0.f2] : List Value).toArray 79 (0, 0)) :: M344q) := ⟨_, _, _, rfl, rfl, hr343q⟩
  rw [hM_] at hp345q
  have hS347q : St b w0 W331q R (((g314q, .cells ([.slice A321q p0.f0.length c322q, .int .i64 p0.f1, .int .i64 p0.f2] : List Value).toArray 79 (0, 0)) :: (M316q)) :: [(g309q, .cells ([.string (mkS p1.f0), .string (mkS p1.f1), .bool p1.f2] : List Value).toArray 52 (0, 0))] :: Fs) := hS342q.assoc (by simp only [List.flatten_cons, List.append_assoc, List.cons_append, List.nil_append, List.append_nil])
  obtain ⟨M348q, hM_⟩ : ∃ y : Frag, y = ((g314q, .cells ([.slice A321q p0.f0.length c322q, .int .i64 p0.f1, .int .i64 p0.f2] : List Value).toArray 79 (0, 0)) :: (M316q)) := ⟨_, rfl⟩
  rw [← hM_] at hp345q hS347q
  clear hM_
  obtain ⟨r350q, A349q, H⟩ := bind1 H
  refine WL.op' (m := 2) h340q rfl rfl ?_
  refine owp_call [.pointer (some ⟨g314q, 0, none⟩), .int .i64 r330q] h340q rfl (by kernel_rfl) rfl Tryd.func35 (by kernel_rfl) rfl (by kernel_rfl) (dyntable_Table_within.calls k hp345q A349q hS347q) (fun e352q W351q hp353q => ?_)
  obtain ⟨M356q, rfl, hr357q, hS358q⟩ := hp353q
  refine ⟨_, rfl, fun a354q h355q => ?_⟩
  clear h340q a339q
  refine WL.done (by kernel_rfl) ?_
  refine wp_seq ?_
  refine wp_seq ?_
  refine WL.start ?_
  refine WL.block (c := 2) (m' := 2) h355q rfl [(13, .pointer (some ⟨g314q, 0, none⟩)), (12, .int .i64 r330q)] (by kernel_rfl) (fun a359q h360q => ?_)
  clear h355q a354q
  obtain ⟨g361q, cs362q, M363q, hv_, hM_, hr364q⟩ := hr357q
  obtain ⟨v365q, M366q, rfl, hM2q, hr367q⟩ := k79qrep hr364q
  subst hM2q
  subst hM_
  have hg_ : g314q = g361q := by simpa using hv_
  subst hg_
  clear hv_
  replace hr367q : Row k52 52 b w0 R v365q r350q.f0 M363q := hr367q
  obtain ⟨A368q, c369q, rfl⟩ := hr367q.form
  have hS370q : St b w0 W351q R ([(g314q, .cells ([.slice A368q r350q.f0.length c369q, .int .i64 r350q.f1, .int .i64 r350q.f2] : List Value).toArray 79 (0, 0))] :: M363q :: [(g309q, .cells ([.string (mkS p1.f0), .string (mkS p1.f1), .bool p1.f2] : List Value).toArray 52 (0, 0))] :: Fs) := hS358q.assoc (by simp only [List.flatten_cons, List.append_assoc, List.cons_append, List.nil_append, List.append_nil])
  refine WL.block (c := 2) (m' := 4) h360q rfl [(15, .pointer (some ⟨g314q, 2, none⟩)), (14, .pointer (some ⟨g314q, 0, none⟩))] (by kernel_rfl) (fun a371q h372q => ?_)
  clear h360q a359q
  refine WL.op' (m := 4) h372q rfl rfl ?_
  refine owp_run (v := .int .i64 r350q.f2) h372q rfl (by kernel_rfl) (run_load1 rfl rfl Tryd.underlying3 rfl (hS370q.cell (i := 2) rfl)) (fun a373q h374q => ?_)
  clear h372q a371q
  refine WL.block (c := 1) (m' := 6) h374q rfl [(17, .bool (decide (r330q > r350q.f2)))] (by kernel_rfl) (fun a375q h376q => ?_)
  clear h374q a373q
  refine WL.done (by kernel_rfl) ?_
  by_cases c377q : r330q > r350q.f2
  · rw [if_pos c377q] at H
    have hb_ : (decide (r330q > r350q.f2)) = true := decide_eq_true c377q
    try rw [hb_] at h376q
    clear hb_
    refine wp_then h376q rfl ?_
    refine wp_ret ?_
    have hS378q : St b w0 W351q R (M363q :: [(g314q, .cells ([.slice A368q r350q.f0.length c369q, .int .i64 r350q.f1, .int .i64 r350q.f2] : List Value).toArray 79 (0, 0))] :: [(g309q, .cells ([.string (mkS p1.f0), .string (mkS p1.f1), .bool p1.f2] : List Value).toArray 52 (0, 0))] :: Fs) := hS370q.bring 1 rfl rfl
    have hS379q : St b w0 W351q R ([(g314q, .cells ([.slice A368q r350q.f0.length c369q, .int .i64 r350q.f1, .int .i64 r350q.f2] : List Value).toArray 79 (0, 0))] :: M363q :: [(g309q, .cells ([.string (mkS p1.f0), .string (mkS p1.f1), .bool p1.f2] : List Value).toArray 52 (0, 0))] :: Fs) := hS378q.bring 1 rfl rfl
    obtain ⟨M381q, hr380q, hM_⟩ := k79qmk (b := b) (w0 := w0) (R := R) (x := r350q) (gvf0 := hr367q)
    have hp382q : Ptr k79 79 b w0 R (.pointer (some ⟨g314q, 0, none⟩)) r350q ((g314q, .cells ([.slice A368q r350q.f0.length c369q, .int .i64 r350q.f1, .int .i64 r350q.f2] : List Value).toArray 79 (0, 0)) :: M381q) := ⟨_, _, _, rfl, rfl, hr380q⟩
    rw [hM_] at hp382q
    have hS384q : St b w0 W351q R (((g314q, .cells ([.slice A368q r350q.f0.length c369q, .int .i64 r350q.f1, .int .i64 r350q.f2] : List Value).toArray 79 (0, 0)) :: (M363q)) :: [(g309q, .cells ([.string (mkS p1.f0), .string (mkS p1.f1), .bool p1.f2] : List Value).toArray 52 (0, 0))] :: Fs) := hS379q.assoc (by simp only [List.flatten_cons, List.append_assoc, List.cons_append, List.nil_append, List.append_nil])
    obtain ⟨M385q, hM_⟩ : ∃ y : Frag, y = ((g314q, .cells ([.slice A368q r350q.f0.length c369q, .int .i64 r350q.f1, .int .i64 r350q.f2] : List Value).toArray 79 (0, 0)) :: (M363q)) := ⟨_, rfl⟩
    rw [← hM_] at hp382q hS384q
    clear hM_
    have hS386q : St b w0 W351q R ([(g309q, .cells ([.string (mkS p1.f0), .string (mkS p1.f1), .bool p1.f2] : List Value).toArray 52 (0, 0))] :: M385q :: Fs) := hS384q.bring 1 rfl rfl
    have hS387q : St b w0 W351q R (M385q :: Fs) := hS386q.drop_
    obtain rfl := Option.some.inj H
    repeat (first | refine then_ret ?_ | refine inBlock_ret ?_ | refine inBlock_go ?_)
    refine body_ret (v := .tuple #[]) h376q (by kernel_rfl) (by kernel_rfl) ?_
    exact ⟨M385q, rfl, hp382q, hS387q⟩
  · rw [if_neg c377q] at H
    have hb_ : (decide (r330q > r350q.f2)) = false := decide_eq_false c377q
    try rw [hb_] at h376q
    clear hb_
    refine wp_else h376q rfl ?_
    refine wp_skip ?_
    refine wp_seq ?_
    refine WT.start 14 (fun w_ => (w_.cell? ⟨g314q, 0, none⟩ = some (.slice A368q r350q.f0.length c369q)) ∧ (w_.cell? ⟨g309q, 0, none⟩ = some (.string (mkS p1.f0))) ∧ (w_.cell? ⟨g309q, 1, none⟩ = some (.string (mkS p1.f1))) ∧ True) (by kernel_rfl) #[false, false, false, false, false, false, false, false, false, false, false, false, false, false, false] 15 rfl rfl ?_
    have hS488q := hS370q.drew
    refine WT.take 0 (listed' := #[true, false, false, false, false, false, false, false, false, false, false, false, false, false, false]) h376q rfl rfl (by kernel_rfl) rfl rfl (.pointer (some ⟨g314q, 0, none⟩)) (fun _ _ => by kernel_rfl) ⟨(hS488q.cell (i := 0) rfl), ((hS488q.bring 2 rfl rfl).cell (i := 0) rfl), ((hS488q.bring 2 rfl rfl).cell (i := 1) rfl), trivial⟩ (fun _ _ _ h_ => h_) (fun a489q h490q => ?_)
    clear h376q a375q
    refine WT.take 1 (listed' := #[true, true, false, false, false, false, false, false, false, false, false, false, false, false, false]) h490q rfl rfl (by kernel_rfl) rfl rfl (.pointer (some ⟨g314q, 0, none⟩)) (fun _ _ => by kernel_rfl) ⟨(hS488q.cell (i := 0) rfl), ((hS488q.bring 2 rfl rfl).cell (i := 0) rfl), ((hS488q.bring 2 rfl rfl).cell (i := 1) rfl), trivial⟩ (fun _ _ _ h_ => h_) (fun a491q h492q => ?_)
    clear h490q a489q
    refine WT.take 2 (listed' := #[true, true, true, false, false, false, false, false, false, false, false, false, false, false, false]) h492q rfl rfl (by kernel_rfl) rfl rfl (.pointer (some ⟨g314q, 0, none⟩)) (fun _ _ => by kernel_rfl) ⟨(hS488q.cell (i := 0) rfl), ((hS488q.bring 2 rfl rfl).cell (i := 0) rfl), ((hS488q.bring 2 rfl rfl).cell (i := 1) rfl), trivial⟩ (fun _ _ _ h_ => h_) (fun a493q h494q => ?_)
    clear h492q a491q
    refine WT.take 3 (listed' := #[true, true, true, true, false, false, false, false, false, false, false, false, false, false, false]) h494q rfl rfl (by kernel_rfl) rfl rfl (.pointer (some ⟨g314q, 0, none⟩)) (fun _ _ => by kernel_rfl) ⟨(hS488q.cell (i := 0) rfl), ((hS488q.bring 2 rfl rfl).cell (i := 0) rfl), ((hS488q.bring 2 rfl rfl).cell (i := 1) rfl), trivial⟩ (fun _ _ _ h_ => h_) (fun a495q h496q => ?_)
    clear h494q a493q
    refine WT.take 5 (listed' := #[true, true, true, true, false, true, false, false, false, false, false, false, false, false, false]) h496q rfl rfl (by kernel_rfl) rfl rfl (.pointer (some ⟨g309q, 0, none⟩)) (fun _ _ => by kernel_rfl) ⟨(hS488q.cell (i := 0) rfl), ((hS488q.bring 2 rfl rfl).cell (i := 0) rfl), ((hS488q.bring 2 rfl rfl).cell (i := 1) rfl), trivial⟩ (fun _ _ _ h_ => h_) (fun a497q h498q => ?_)
    clear h496q a495q
    refine WT.take 7 (listed' := #[true, true, true, true, false, true, false, true, false, false, false, false, false, false, false]) h498q rfl rfl (by kernel_rfl) rfl rfl (.pointer (some ⟨g309q, 1, none⟩)) (fun _ _ => by kernel_rfl) ⟨(hS488q.cell (i := 0) rfl), ((hS488q.bring 2 rfl rfl).cell (i := 0) rfl), ((hS488q.bring 2 rfl rfl).cell (i := 1) rfl), trivial⟩ (fun _ _ _ h_ => h_) (fun a499q h500q => ?_)
    clear h498q a497q
    refine WT.take 4 (listed' := #[true, true, true, true, true, true, false, true, false, false, false, false, false, false, false]) h500q rfl rfl (by kernel_rfl) rfl rfl (.slice A368q r350q.f0.length c369q) (fun w_ hs_ => (run_load1 rfl rfl Tryd.underlying23 rfl hs_.1)) ⟨(hS488q.cell (i := 0) rfl), ((hS488q.bring 2 rfl rfl).cell (i := 0) rfl), ((hS488q.bring 2 rfl rfl).cell (i := 1) rfl), trivial⟩ (fun _ _ _ h_ => h_) (fun a501q h502q => ?_)
    clear h500q a499q
    refine WT.take 6 (listed' := #[true, true, true, true, true, true, true, true, false, false, false, false, false, false, false]) h502q rfl rfl (by kernel_rfl) rfl rfl (.string (mkS p1.f0)) (fun w_ hs_ => (run_load1 rfl rfl Tryd.underlying9 rfl hs_.2.1)) ⟨(hS488q.cell (i := 0) rfl), ((hS488q.bring 2 rfl rfl).cell (i := 0) rfl), ((hS488q.bring 2 rfl rfl).cell (i := 1) rfl), trivial⟩ (fun _ _ _ h_ => h_) (fun a503q h504q => ?_)
    clear h502q a501q
    refine WT.take 8 (listed' := #[true, true, true, true, true, true, true, true, true, false, false, false, false, false, false]) h504q rfl rfl (by kernel_rfl) rfl rfl (.string (mkS p1.f1)) (fun w_ hs_ => (run_load1 rfl rfl Tryd.underlying9 rfl hs_.2.2.1)) ⟨(hS488q.cell (i := 0) rfl), ((hS488q.bring 2 rfl rfl).cell (i := 0) rfl), ((hS488q.bring 2 rfl rfl).cell (i := 1) rfl), trivial⟩ (fun _ _ _ h_ => h_) (fun a505q h506q => ?_)
    clear h504q a503q
    refine WT.take 9 (listed' := #[true, true, true, true, true, true, true, true, true, true, false, false, false, false, false]) h506q rfl rfl (by kernel_rfl) rfl rfl (.agg #[.string (mkS p1.f0), .string (mkS p1.f1), .bool false]) (fun _ _ => by kernel_rfl) ⟨(hS488q.cell (i := 0) rfl), ((hS488q.bring 2 rfl rfl).cell (i := 0) rfl), ((hS488q.bring 2 rfl rfl).cell (i := 1) rfl), trivial⟩ (fun _ _ _ h_ => h_) (fun a507q h508q => ?_)
    clear h506q a505q
    obtain ⟨_, hrep_, hMe_⟩ := k52qmk (b := b) (w0 := w0) (R := R) (x := (⟨p1.f0, p1.f1, false⟩ : S52)) 
    subst hMe_
    have hq509q := hrep_; clear hrep_
    refine WT.op 10 (listed' := #[true, true, true, true, true, true, true, true, true, true, true, false, false, false, false]) h508q rfl (by kernel_rfl) rfl rfl ?_
    refine owp_new (fun g_ => .slice (some ⟨g_, 0, none⟩) 1 1) (.cells ([.string (mkS p1.f0), .string (mkS p1.f1), .bool false] : List Value).toArray 52 (0, 0)) h508q rfl (by kernel_rfl) (by kernel_rfl) hS488q (fun a510q W512q g513q h511q hS514q => ?_)
    clear h508q a507q
    have hr515q : Row k52 52 b w0 R (.slice (some ⟨g513q, 0, none⟩) 1 1) ([(⟨p1.f0, p1.f1, false⟩ : S52)] : List S52) [(g513q, .cells ([.string (mkS p1.f0), .string (mkS p1.f1), .bool false] : List Value).toArray 52 (0, 0))] := Row.lit (xs := ([(⟨p1.f0, p1.f1, false⟩ : S52)] : List S52)) (Mi := []) ⟨_, _, [], _, rfl, rfl, hq509q, ⟨rfl, rfl⟩⟩ (by simp [maxLen])
    refine ⟨.inr ⟨((hS514q.bring 1 rfl rfl).cell (i := 0) rfl), ((hS514q.bring 3 rfl rfl).cell (i := 0) rfl), ((hS514q.bring 3 rfl rfl).cell (i := 1) rfl), trivial⟩, ?_⟩
    by_cases c516q : r350q.f0.length + 1 ≤ 3518437208883
    · rw [if_pos c516q] at H
      have hS517q : St b w0 W512q R (M363q :: [(g513q, .cells ([.string (mkS p1.f0), .string (mkS p1.f1), .bool false] : List Value).toArray 52 (0, 0))] :: [(g314q, .cells ([.slice A368q r350q.f0.length c369q, .int .i64 r350q.f1, .int .i64 r350q.f2] : List Value).toArray 79 (0, 0))] :: [(g309q, .cells ([.string (mkS p1.f0), .string (mkS p1.f1), .bool p1.f2] : List Value).toArray 52 (0, 0))] :: Fs) := hS514q.bring 2 rfl rfl
      refine WT.op 11 (listed' := #[true, true, true, true, true, true, true, true, true, true, true, true, false, false, false]) h511q rfl (by kernel_rfl) rfl rfl ?_
      refine owp_app_take (z := .agg #[.string (mkS []), .string (mkS []), .bool false]) (bytes := 40) (dk := k52) h511q rfl (by kernel_rfl) rfl rfl rfl hr367q hr515q hS517q Tryd.underlying23 (by kernel_rfl) rfl (by decide) (by decide) (by first | omega | (simp only [List.length_cons, List.length_nil] at *; omega)) (fun a518q W520q v521q M522q h519q hr523q hS524q => ?_)
      clear h511q a510q
      obtain ⟨y525q, hy526q, H⟩ := lete H
      have hr527q : Row k52 52 b w0 R v521q y525q M522q := by rw [hy526q]; exact hr523q
      clear hr523q
      obtain ⟨A528q, c529q, rfl⟩ := hr527q.form
      refine ⟨.inr ⟨((hS524q.bring 1 rfl rfl).cell (i := 0) rfl), ((hS524q.bring 2 rfl rfl).cell (i := 0) rfl), ((hS524q.bring 2 rfl rfl).cell (i := 1) rfl), trivial⟩, ?_⟩
      refine WT.op 12 (listed' := #[true, true, true, true, true, true, true, true, true, true, true, true, true, false, false]) h519q rfl (by kernel_rfl) rfl rfl ?_
      refine owp_run (v := .pointer (some ⟨g314q, 0, none⟩)) h519q rfl (by kernel_rfl) (by kernel_rfl) (fun a530q h531q => ?_)
      clear h519q a518q
      refine ⟨.inr ⟨((hS524q.bring 1 rfl rfl).cell (i := 0) rfl), ((hS524q.bring 2 rfl rfl).cell (i := 0) rfl), ((hS524q.bring 2 rfl rfl).cell (i := 1) rfl), trivial⟩, ?_⟩
      refine WT.take 13 (listed' := #[true, true, true, true, true, true, true, true, true, true, true, true, true, true, false]) h531q rfl rfl (by kernel_rfl) rfl rfl (.pointer (some ⟨g314q, 0, none⟩)) (fun _ _ => by kernel_rfl) ⟨((hS524q.bring 1 rfl rfl).cell (i := 0) rfl), ((hS524q.bring 2 rfl rfl).cell (i := 0) rfl), ((hS524q.bring 2 rfl rfl).cell (i := 1) rfl), trivial⟩ (fun _ _ _ h_ => h_) (fun a532q h533q => ?_)
      clear h531q a530q
      have hS534q : St b w0 W520q R ([(g314q, .cells ([.slice A368q r350q.f0.length c369q, .int .i64 r350q.f1, .int .i64 r350q.f2] : List Value).toArray 79 (0, 0))] :: M522q :: [(g309q, .cells ([.string (mkS p1.f0), .string (mkS p1.f1), .bool p1.f2] : List Value).toArray 52 (0, 0))] :: Fs) := hS524q.bring 1 rfl rfl
      refine WT.op 14 (listed' := #[true, true, true, true, true, true, true, true, true, true, true, true, true, true, true]) h533q rfl (by kernel_rfl) rfl rfl ?_
      refine owp_store (i := 0) (vs := ([.slice A528q y525q.length c529q] : List Value)) h533q rfl (by kernel_rfl) rfl rfl rfl rfl (by simp [Value.oneCell']) (by kernel_rfl) hS534q (by simp) (cs' := ([.slice A528q y525q.length c529q, .int .i64 r350q.f1, .int .i64 r350q.f2] : List Value)) rfl (fun a535q W537q h536q hS538q => ?_)
      clear h533q a532q
      refine ⟨.inl (by decide), ?_⟩
      refine WT.done (by kernel_rfl) ?_
      refine WL.start ?_
      refine WL.block (c := 3) (m' := 3) h536q rfl [(34, .pointer (some ⟨g314q, 1, none⟩)), (33, .pointer (some ⟨g314q, 0, none⟩)), (32, .pointer (some ⟨g314q, 0, none⟩))] (by kernel_rfl) (fun a539q h540q => ?_)
      clear h536q a535q
      refine WL.op' (m := 3) h540q rfl rfl ?_
      refine owp_run (v := .int .i64 r350q.f1) h540q rfl (by kernel_rfl) (run_load1 rfl rfl Tryd.underlying3 rfl (hS538q.cell (i := 1) rfl)) (fun a541q h542q => ?_)
      clear h540q a539q
      refine WL.block (c := 4) (m' := 8) h542q rfl [(39, .pointer (some ⟨g314q, 1, none⟩)), (38, .pointer (some ⟨g314q, 0, none⟩)), (37, .int .i64 (IntKind.i64.wrap (r350q.f1 + r330q))), (36, .int .i64 r330q)] (by kernel_rfl) (fun a543q h544q => ?_)
      clear h542q a541q
      refine WL.op' (m := 8) h544q rfl rfl ?_
      refine owp_store (i := 1) (vs := ([.int .i64 (IntKind.i64.wrap (r350q.f1 + r330q))] : List Value)) h544q rfl (by kernel_rfl) rfl rfl rfl rfl (by simp [Value.oneCell']) (by kernel_rfl) hS538q (by simp) (cs' := ([.slice A528q y525q.length c529q, .int .i64 (IntKind.i64.wrap (r350q.f1 + r330q)), .int .i64 r350q.f2] : List Value)) rfl (fun a545q W547q h546q hS548q => ?_)
      clear h544q a543q
      refine WL.done (by kernel_rfl) ?_
      have hS549q : St b w0 W547q R (M522q :: [(g314q, .cells ([.slice A528q y525q.length c529q, .int .i64 (IntKind.i64.wrap (r350q.f1 + r330q)), .int .i64 r350q.f2] : List Value).toArray 79 (0, 0))] :: [(g309q, .cells ([.string (mkS p1.f0), .string (mkS p1.f1), .bool p1.f2] : List Value).toArray 52 (0, 0))] :: Fs) := hS548q.bring 1 rfl rfl
      have hS550q : St b w0 W547q R ([(g314q, .cells ([.slice A528q y525q.length c529q, .int .i64 (IntKind.i64.wrap (r350q.f1 + r330q)), .int .i64 r350q.f2] : List Value).toArray 79 (0, 0))] :: M522q :: [(g309q, .cells ([.string (mkS p1.f0), .string (mkS p1.f1), .bool p1.f2] : List Value).toArray 52 (0, 0))] :: Fs) := hS549q.bring 1 rfl rfl
      obtain ⟨M552q, hr551q, hM_⟩ := k79qmk (b := b) (w0 := w0) (R := R) (x := (⟨y525q, IntKind.i64.wrap (r350q.f1 + r330q), r350q.f2⟩ : S79)) (gvf0 := hr527q)
      have hp553q : Ptr k79 79 b w0 R (.pointer (some ⟨g314q, 0, none⟩)) (⟨y525q, IntKind.i64.wrap (r350q.f1 + r330q), r350q.f2⟩ : S79) ((g314q, .cells ([.slice A528q y525q.length c529q, .int .i64 (IntKind.i64.wrap (r350q.f1 + r330q)), .int .i64 r350q.f2] : List Value).toArray 79 (0, 0)) :: M552q) := ⟨_, _, _, rfl, rfl, hr551q⟩
      rw [hM_] at hp553q
      have hS555q : St b w0 W547q R (((g314q, .cells ([.slice A528q y525q.length c529q, .int .i64 (IntKind.i64.wrap (r350q.f1 + r330q)), .int .i64 r350q.f2] : List Value).toArray 79 (0, 0)) :: (M522q)) :: [(g309q, .cells ([.string (mkS p1.f0), .string (mkS p1.f1), .bool p1.f2] : List Value).toArray 52 (0, 0))] :: Fs) := hS550q.assoc (by simp only [List.flatten_cons, List.append_assoc, List.cons_append, List.nil_append, List.append_nil])
      obtain ⟨M556q, hM_⟩ : ∃ y : Frag, y = ((g314q, .cells ([.slice A528q y525q.length c529q, .int .i64 (IntKind.i64.wrap (r350q.f1 + r330q)), .int .i64 r350q.f2] : List Value).toArray 79 (0, 0)) :: (M522q)) := ⟨_, rfl⟩
      rw [← hM_] at hp553q hS555q
      clear hM_
      have hS557q : St b w0 W547q R ([(g309q, .cells ([.string (mkS p1.f0), .string (mkS p1.f1), .bool p1.f2] : List Value).toArray 52 (0, 0))] :: M556q :: Fs) := hS555q.bring 1 rfl rfl
      have hS558q : St b w0 W547q R (M556q :: Fs) := hS557q.drop_
      obtain rfl := Option.some.inj H
      repeat (first | refine then_go ?_ | refine inBlock_go ?_)
      refine body_end (v := .tuple #[]) h546q (by kernel_rfl) (by kernel_rfl) ?_
      exact ⟨M556q, rfl, hp553q, hS558q⟩
    · rw [if_neg c516q] at H
      cases H

/-! ### (*louver/hpack.Encoder).field -/
def hpack_Encoder_field.f (k : Nat) (p0 : S61) (p1 : (List Int)) (p2 : S52) : Option ((List Int) × S61) := bnd2 (dyntable_Table_Find.f k p0.f0 p2.f0 p2.f1) fun r627q r628q => (if p2.f2 = true then (bnd1 (hpack_literal.f k p1 4 16 r627q (⟨p2.f0, p2.f1, p2.f2⟩ : S52)) fun r660q => (some (r660q, p0))) else (if r628q = true then (bnd1 (prefix_Put.f k p1 7 128 (IntKind.u32.wrap r627q)) fun r691q => (some (r691q, p0))) else (bnd1 (dyntable_Table_Add.f k p0.f0 (⟨p2.f0, p2.f1, p2.f2⟩ : S52)) fun r771q => (bnd1 (hpack_literal.f k p1 6 64 r627q (⟨p2.f0, p2.f1, p2.f2⟩ : S52)) fun r786q => (some (r786q, (⟨r771q, p0.f1, p0.f2, p0.f3⟩ : S61)))))))
set_option maxHeartbeats 2000000 in
set_option maxRecDepth 100000 in
theorem hpack_Encoder_field.calls (k : Nat) {b : Nat} {w0 W : World} {R : Frag} {Fs : List Frag} {p0 : S61} {p1 : (List Int)} {p2 : S52} {v1 : Value} {v0 : Value} {M0 : Frag} {r0q : (List Int)} {r1q : S61} (hp0 : Ptr k61 61 b w0 R v0 p0 M0) (hp1 : Rds (kInt .u8) b w0 R v1 p1) (hg0 : Rds k52 b w0 [] (.slice (some ⟨0, 0, none⟩) 61 61) G0) (hg1 : Rds (kInt .u8) b w0 [] (.slice (some ⟨1, 0, none⟩) 257 257) G1) (H : hpack_Encoder_field.f k p0 p1 p2 = some (r0q, r1q)) (hS : St b w0 W R (M0 :: Fs)) :
    Calls Tryd.prog 28 ([v0, v1, .agg #[.string (mkS p2.f0), .string (mkS p2.f1), .bool p2.f2]] : List Value).toArray W (fun e W' => ∃ (u0q : Value) (N0q : Frag) (O0q : Frag), e = .returned (u0q) ∧ Row (kInt .u8) 5 b w0 R u0q r0q N0q ∧ Ptr k61 61 b w0 R v0 r1q O0q ∧ St b w0 W' R (N0q :: O0q :: Fs)) := by
  obtain ⟨A1, c1, rfl⟩ := hp1.form
  unfold hpack_Encoder_field.f at H
  refine calls_enter Tryd.func28 rfl 44 rfl (by kernel_rfl) (fun a h => ?_)
  refine wp_seq ?_
  refine WL.start ?_
  refine WL.op' (m := 0) h rfl rfl ?_
  refine owp_new (fun g_ => .pointer (some ⟨g_, 0, none⟩)) (.cells ([.string (mkS p2.f0), .string (mkS p2.f1), .bool p2.f2] : List Value).toArray 52 (0, 0)) h rfl (by kernel_rfl) (by kernel_rfl) hS (fun a516q W518q g519q h517q hS520q => ?_)
  refine WL.block (c := 1) (m' := 2) h517q rfl [(6, .slice none 0 0)] (by kernel_rfl) (fun a521q h522q => ?_)
  clear h517q a516q
  refine WL.done (by kernel_rfl) ?_
  refine wp_seq ?_
  have hS523q : St b w0 W518q R (M0 :: [(g519q, .cells ([.string (mkS p2.f0), .string (mkS p2.f1), .bool p2.f2] : List Value).toArray 52 (0, 0))] :: Fs) := hS520q.bring 1 rfl rfl
  obtain ⟨g524q, cs525q, M526q, hv_, hM_, hr527q⟩ := hp0
  obtain ⟨v528q, M529q, rfl, hM2q, hr530q⟩ := k61qrep hr527q
  subst hM2q
  subst hM_
  subst hv_
  have hS531q : St b w0 W518q R ([(g524q, .cells ([v528q, .bool p0.f1, .int .u32 p0.f2, .int .u32 p0.f3] : List Value).toArray 61 (0, 0))] :: M526q :: [(g519q, .cells ([.string (mkS p2.f0), .string (mkS p2.f1), .bool p2.f2] : List Value).toArray 52 (0, 0))] :: Fs) := hS523q.assoc (by simp only [List.flatten_cons, List.append_assoc, List.cons_append, List.nil_append, List.append_nil])
  refine WT.start 14 (fun w_ => (w_.cell? ⟨g524q, 0, none⟩ = some (v528q)) ∧ (w_.cell? ⟨g519q, 0, none⟩ = some (.string (mkS p2.f0))) ∧ (w_.cell? ⟨g519q, 1, none⟩ = some (.string (mkS p2.f1))) ∧ True) (by kernel_rfl) #[false, false, false, false, false, false, false, false, false, false, false, false, false, false] 14 rfl rfl ?_
  have hS608q := hS531q.drew
  refine WT.take 0 (listed' := #[true, false, false, false, false, false, false, false, false, false, false, false, false, false]) h522q rfl rfl (by kernel_rfl) rfl rfl (.pointer (some ⟨g524q, 0, none⟩)) (fun _ _ => by kernel_rfl) ⟨(hS608q.cell (i := 0) rfl), ((hS608q.bring 2 rfl rfl).cell (i := 0) rfl), ((hS608q.bring 2 rfl rfl).cell (i := 1) rfl), trivial⟩ (fun _ _ _ h_ => h_) (fun a609q h610q => ?_)
  clear h522q a521q
  refine WT.take 1 (listed' := #[true, true, false, false, false, false, false, false, false, false, false, false, false, false]) h610q rfl rfl (by kernel_rfl) rfl rfl (.pointer (some ⟨g524q, 0, none⟩)) (fun _ _ => by kernel_rfl) ⟨(hS608q.cell (i := 0) rfl), ((hS608q.bring 2 rfl rfl).cell (i := 0) rfl), ((hS608q.bring 2 rfl rfl).cell (i := 1) rfl), trivial⟩ (fun _ _ _ h_ => h_) (fun a611q h612q => ?_)
  clear h610q a609q
  refine WT.take 2 (listed' := #[true, true, true, false, false, false, false, false, false, false, false, false, false, false]) h612q rfl rfl (by kernel_rfl) rfl rfl (.pointer (some ⟨g524q, 0, none⟩)) (fun _ _ => by kernel_rfl) ⟨(hS608q.cell (i := 0) rfl), ((hS608q.bring 2 rfl rfl).cell (i := 0) rfl), ((hS608q.bring 2 rfl rfl).cell (i := 1) rfl), trivial⟩ (fun _ _ _ h_ => h_) (fun a613q h614q => ?_)
  clear h612q a611q
  refine WT.take 4 (listed' := #[true, true, true, false, true, false, false, false, false, false, false, false, false, false]) h614q rfl rfl (by kernel_rfl) rfl rfl (.pointer (some ⟨g519q, 0, none⟩)) (fun _ _ => by kernel_rfl) ⟨(hS608q.cell (i := 0) rfl), ((hS608q.bring 2 rfl rfl).cell (i := 0) rfl), ((hS608q.bring 2 rfl rfl).cell (i := 1) rfl), trivial⟩ (fun _ _ _ h_ => h_) (fun a615q h616q => ?_)
  clear h614q a613q
  refine WT.take 6 (listed' := #[true, true, true, false, true, false, true, false, false, false, false, false, false, false]) h616q rfl rfl (by kernel_rfl) rfl rfl (.pointer (some ⟨g519q, 1, none⟩)) (fun _ _ => by kernel_rfl) ⟨(hS608q.cell (i := 0) rfl), ((hS608q.bring 2 rfl rfl).cell (i := 0) rfl), ((hS608q.bring 2 rfl rfl).cell (i := 1) rfl), trivial⟩ (fun _ _ _ h_ => h_) (fun a617q h618q => ?_)
  clear h616q a615q
  refine WT.take 3 (listed' := #[true, true, true, true, true, false, true, false, false, false, false, false, false, false]) h618q rfl rfl (by kernel_rfl) rfl rfl (v528q) (fun w_ hs_ => (run_load1 rfl rfl Tryd.underlying59 rfl hs_.1)) ⟨(hS608q.cell (i := 0) rfl), ((hS608q.bring 2 rfl rfl).cell (i := 0) rfl), ((hS608q.bring 2 rfl rfl).cell (i := 1) rfl), trivial⟩ (fun _ _ _ h_ => h_) (fun a619q h620q => ?_)
  clear h618q a617q
  refine WT.take 5 (listed' := #[true, true, true, true, true, true, true, false, false, false, false, false, false, false]) h620q rfl rfl (by kernel_rfl) rfl rfl (.string (mkS p2.f0)) (fun w_ hs_ => (run_load1 rfl rfl Tryd.underlying9 rfl hs_.2.1)) ⟨(hS608q.cell (i := 0) rfl), ((hS608q.bring 2 rfl rfl).cell (i := 0) rfl), ((hS608q.bring 2 rfl rfl).cell (i := 1) rfl), trivial⟩ (fun _ _ _ h_ => h_) (fun a621q h622q => ?_)
  clear h620q a619q
  refine WT.take 7 (listed' := #[true, true, true, true, true, true, true, true, false, false, false, false, false, false]) h622q rfl rfl (by kernel_rfl) rfl rfl (.string (mkS p2.f1)) (fun w_ hs_ => (run_load1 rfl rfl Tryd.underlying9 rfl hs_.2.2.1)) ⟨(hS608q.cell (i := 0) rfl), ((hS608q.bring 2 rfl rfl).cell (i := 0) rfl), ((hS608q.bring 2 rfl rfl).cell (i := 1) rfl), trivial⟩ (fun _ _ _ h_ => h_) (fun a623q h624q => ?_)
  clear h622q a621q
  have hS625q : St b w0 W518q.drew R (M526q :: [(g524q, .cells ([v528q, .bool p0.f1, .int .u32 p0.f2, .int .u32 p0.f3] : List Value).toArray 61 (0, 0))] :: [(g519q, .cells ([.string (mkS p2.f0), .string (mkS p2.f1), .bool p2.f2] : List Value).toArray 52 (0, 0))] :: Fs) := hS608q.bring 1 rfl rfl
  obtain ⟨r627q, r628q, A626q, H⟩ := bind2 H
  refine WT.op 8 (listed' := #[true, true, true, true, true, true, true, true, true, false, false, false, false, false]) h624q rfl (by kernel_rfl) rfl rfl ?_
  refine owp_call [v528q, .string (mkS p2.f0), .string (mkS p2.f1)] h624q rfl (by kernel_rfl) rfl Tryd.func42 (by kernel_rfl) rfl (by kernel_rfl) (dyntable_Table_Find.calls k hr530q hg0 A626q hS625q) (fun e630q W629q hp631q => ?_)
  obtain ⟨M634q, rfl, hr635q, hS636q⟩ := hp631q
  refine ⟨_, rfl, fun a632q h633q => ?_⟩
  clear h624q a623q
  refine ⟨.inr ⟨((hS636q.bring 1 rfl rfl).cell (i := 0) rfl), ((hS636q.bring 2 rfl rfl).cell (i := 0) rfl), ((hS636q.bring 2 rfl rfl).cell (i := 1) rfl), trivial⟩, ?_⟩
  refine WT.take 9 (listed' := #[true, true, true, true, true, true, true, true, true, true, false, false, false, false]) h633q rfl rfl (by kernel_rfl) rfl rfl (.tuple #[.int .i64 r627q, .bool r628q]) (fun _ _ => by kernel_rfl) ⟨((hS636q.bring 1 rfl rfl).cell (i := 0) rfl), ((hS636q.bring 2 rfl rfl).cell (i := 0) rfl), ((hS636q.bring 2 rfl rfl).cell (i := 1) rfl), trivial⟩ (fun _ _ _ h_ => h_) (fun a637q h638q => ?_)
  clear h633q a632q
  refine WT.take 10 (listed' := #[true, true, true, true, true, true, true, true, true, true, true, false, false, false]) h638q rfl rfl (by kernel_rfl) rfl rfl (.int .i64 r627q) (fun _ _ => by kernel_rfl) ⟨((hS636q.bring 1 rfl rfl).cell (i := 0) rfl), ((hS636q.bring 2 rfl rfl).cell (i := 0) rfl), ((hS636q.bring 2 rfl rfl).cell (i := 1) rfl), trivial⟩ (fun _ _ _ h_ => h_) (fun a639q h640q => ?_)
  clear h638q a637q
  refine WT.take 11 (listed' := #[true, true, true, true, true, true, true, true, true, true, true, true, false, false]) h640q rfl rfl (by kernel_rfl) rfl rfl (.bool r628q) (fun _ _ => by kernel_rfl) ⟨((hS636q.bring 1 rfl rfl).cell (i := 0) rfl), ((hS636q.bring 2 rfl rfl).cell (i := 0) rfl), ((hS636q.bring 2 rfl rfl).cell (i := 1) rfl), trivial⟩ (fun _ _ _ h_ => h_) (fun a641q h642q => ?_)
  clear h640q a639q
  refine WT.take 12 (listed' := #[true, true, true, true, true, true, true, true, true, true, true, true, true, false]) h642q rfl rfl (by kernel_rfl) rfl rfl (.int .i64 r627q) (fun _ _ => by kernel_rfl) ⟨((hS636q.bring 1 rfl rfl).cell (i := 0) rfl), ((hS636q.bring 2 rfl rfl).cell (i := 0) rfl), ((hS636q.bring 2 rfl rfl).cell (i := 1) rfl), trivial⟩ (fun _ _ _ h_ => h_) (fun a643q h644q => ?_)
  clear h642q a641q
  refine WT.take 13 (listed' := #[true, true, true, true, true, true, true, true, true, true, true, true, true, true]) h644q rfl rfl (by kernel_rfl) rfl rfl (.bool r628q) (fun _ _ => by kernel_rfl) ⟨((hS636q.bring 1 rfl rfl).cell (i := 0) rfl), ((hS636q.bring 2 rfl rfl).cell (i := 0) rfl), ((hS636q.bring 2 rfl rfl).cell (i := 1) rfl), trivial⟩ (fun _ _ _ h_ => h_) (fun a645q h646q => ?_)
  clear h644q a643q
  refine WT.done (by kernel_rfl) ?_
  refine wp_seq ?_
  refine wp_block ?_
  refine wp_seq ?_
  refine WL.start ?_
  refine WL.block (c := 1) (m' := 1) h646q rfl [(22, .pointer (some ⟨g519q, 2, none⟩))] (by kernel_rfl) (fun a647q h648q => ?_)
  clear h646q a645q
  have hS649q : St b w0 W629q R ([(g519q, .cells ([.string (mkS p2.f0), .string (mkS p2.f1), .bool p2.f2] : List Value).toArray 52 (0, 0))] :: M634q :: [(g524q, .cells ([v528q, .bool p0.f1, .int .u32 p0.f2, .int .u32 p0.f3] : List Value).toArray 61 (0, 0))] :: Fs) := hS636q.bring 2 rfl rfl
  refine WL.op' (m := 1) h648q rfl rfl ?_
  refine owp_run (v := .bool p2.f2) h648q rfl (by kernel_rfl) (run_load1 rfl rfl Tryd.underlying4 rfl (hS649q.cell (i := 2) rfl)) (fun a650q h651q => ?_)
  clear h648q a647q
  refine WL.block (c := 1) (m' := 3) h651q rfl [(21, .bool p2.f2)] (by kernel_rfl) (fun a652q h653q => ?_)
  clear h651q a650q
  refine WL.done (by kernel_rfl) ?_
  by_cases c654q : p2.f2 = true
  · rw [if_pos c654q] at H
    have hb_ : p2.f2 = true := c654q
    try rw [hb_] at h653q
    clear hb_
    refine wp_then h653q rfl ?_
    refine wp_seq ?_
    refine WL.start ?_
    refine WL.block (c := 2) (m' := 2) h653q rfl [(25, .int .i64 r627q), (24, .slice A1 p1.length c1)] (by kernel_rfl) (fun a655q h656q => ?_)
    clear h653q a652q
    refine WL.op' (m := 2) h656q rfl rfl ?_
    refine owp_run (v := .agg #[.string (mkS p2.f0), .string (mkS p2.f1), .bool p2.f2]) h656q rfl (by kernel_rfl) (run_loadN rfl rfl Tryd.underlying52 rfl (cs := ([.string (mkS p2.f0), .string (mkS p2.f1), .bool p2.f2] : List Value)) (by kernel_rfl) (hS649q.cells (vs := ([.string (mkS p2.f0), .string (mkS p2.f1), .bool p2.f2] : List Value)) rfl)) (fun a657q h658q => ?_)
    clear h656q a655q
    obtain ⟨r660q, A659q, H⟩ := bind1 H
    refine WL.op' (m := 3) h658q rfl rfl ?_
    refine owp_call [.slice A1 p1.length c1, .int .i64 4, .int .u8 16, .int .i64 r627q, .agg #[.string (mkS p2.f0), .string (mkS p2.f1), .bool p2.f2]] h658q rfl (by kernel_rfl) rfl Tryd.func43 (by kernel_rfl) rfl (by kernel_rfl) (hpack_literal.calls (p4 := (⟨p2.f0, p2.f1, p2.f2⟩ : S52)) k hp1 hg1 A659q hS649q) (fun e662q W661q hp663q => ?_)
    obtain ⟨v666q, M667q, rfl, hr668q, hS669q⟩ := hp663q
    refine ⟨_, rfl, fun a664q h665q => ?_⟩
    clear h658q a657q
    obtain ⟨A670q, c671q, rfl⟩ := hr668q.form
    refine WL.block (c := 1) (m' := 5) h665q rfl [(6, .slice A670q r660q.length c671q)] (by kernel_rfl) (fun a672q h673q => ?_)
    clear h665q a664q
    refine WL.done (by kernel_rfl) ?_
    refine wp_ret ?_
    have hS674q : St b w0 W661q R (M634q :: M667q :: [(g519q, .cells ([.string (mkS p2.f0), .string (mkS p2.f1), .bool p2.f2] : List Value).toArray 52 (0, 0))] :: [(g524q, .cells ([v528q, .bool p0.f1, .int .u32 p0.f2, .int .u32 p0.f3] : List Value).toArray 61 (0, 0))] :: Fs) := hS669q.bring 2 rfl rfl
    have hS675q : St b w0 W661q R ([(g524q, .cells ([v528q, .bool p0.f1, .int .u32 p0.f2, .int .u32 p0.f3] : List Value).toArray 61 (0, 0))] :: M634q :: M667q :: [(g519q, .cells ([.string (mkS p2.f0), .string (mkS p2.f1), .bool p2.f2] : List Value).toArray 52 (0, 0))] :: Fs) := hS674q.bring 3 rfl rfl
    obtain ⟨M677q, hr676q, hM_⟩ := k61qmk (b := b) (w0 := w0) (R := R) (x := p0) (gvf0 := hr635q)
    have hp678q : Ptr k61 61 b w0 R (.pointer (some ⟨g524q, 0, none⟩)) p0 ((g524q, .cells ([v528q, .bool p0.f1, .int .u32 p0.f2, .int .u32 p0.f3] : List Value).toArray 61 (0, 0)) :: M677q) := ⟨_, _, _, rfl, rfl, hr676q⟩
    rw [hM_] at hp678q
    have hS680q : St b w0 W661q R (((g524q, .cells ([v528q, .bool p0.f1, .int .u32 p0.f2, .int .u32 p0.f3] : List Value).toArray 61 (0, 0)) :: (M634q)) :: M667q :: [(g519q, .cells ([.string (mkS p2.f0), .string (mkS p2.f1), .bool p2.f2] : List Value).toArray 52 (0, 0))] :: Fs) := hS675q.assoc (by simp only [List.flatten_cons, List.append_assoc, List.cons_append, List.nil_append, List.append_nil])
    obtain ⟨M681q, hM_⟩ : ∃ y : Frag, y = ((g524q, .cells ([v528q, .bool p0.f1, .int .u32 p0.f2, .int .u32 p0.f3] : List Value).toArray 61 (0, 0)) :: (M634q)) := ⟨_, rfl⟩
    rw [← hM_] at hp678q hS680q
    clear hM_
    have hS682q : St b w0 W661q R ([(g519q, .cells ([.string (mkS p2.f0), .string (mkS p2.f1), .bool p2.f2] : List Value).toArray 52 (0, 0))] :: M681q :: M667q :: Fs) := hS680q.bring 2 rfl rfl
    have hS683q : St b w0 W661q R (M681q :: M667q :: Fs) := hS682q.drop_
    have hS684q : St b w0 W661q R (M667q :: M681q :: Fs) := hS683q.bring 1 rfl rfl
    obtain ⟨rfl, rfl⟩ := ret2 H
    repeat (first | refine then_ret ?_ | refine inBlock_ret ?_ | refine inBlock_go ?_)
    refine body_ret (v := .slice A670q r660q.length c671q) h673q (by kernel_rfl) (by kernel_rfl) ?_
    exact ⟨.slice A670q r660q.length c671q, M667q, M681q, rfl, hr668q, hp678q, hS684q⟩
  · rw [if_neg c654q] at H
    have hb_ : p2.f2 = false := (Bool.eq_false_iff.2 c654q)
    try rw [hb_] at h653q
    clear hb_
    refine wp_else h653q rfl ?_
    refine wp_seq ?_
    refine WL.start ?_
    refine WL.block (c := 2) (m' := 2) h653q rfl [(28, .bool r628q), (29, .bool r628q)] (by kernel_rfl) (fun a685q h686q => ?_)
    clear h653q a652q
    refine WL.done (by kernel_rfl) ?_
    by_cases c687q : r628q = true
    · rw [if_pos c687q] at H
      have hb_ : r628q = true := c687q
      try rw [hb_] at h686q
      clear hb_
      refine wp_then h686q rfl ?_
      refine wp_seq ?_
      refine WL.start ?_
      refine WL.block (c := 3) (m' := 3) h686q rfl [(32, .int .u32 (IntKind.u32.wrap r627q)), (31, .int .i64 r627q), (30, .slice A1 p1.length c1)] (by kernel_rfl) (fun a688q h689q => ?_)
      clear h686q a685q
      obtain ⟨r691q, A690q, H⟩ := bind1 H
      refine WL.op' (m := 3) h689q rfl rfl ?_
      refine owp_call [.slice A1 p1.length c1, .int .i64 7, .int .u8 128, .int .u32 (IntKind.u32.wrap r627q)] h689q rfl (by kernel_rfl) rfl Tryd.func27 (by kernel_rfl) rfl (by kernel_rfl) (prefix_Put.calls k hp1 A690q hS649q) (fun e693q W692q hp694q => ?_)
      obtain ⟨v697q, M698q, rfl, hr699q, hS700q⟩ := hp694q
      refine ⟨_, rfl, fun a695q h696q => ?_⟩
      clear h689q a688q
      obtain ⟨A701q, c702q, rfl⟩ := hr699q.form
      refine WL.block (c := 1) (m' := 5) h696q rfl [(6, .slice A701q r691q.length c702q)] (by kernel_rfl) (fun a703q h704q => ?_)
      clear h696q a695q
      refine WL.done (by kernel_rfl) ?_
      refine wp_ret ?_
      have hS705q : St b w0 W692q R (M634q :: M698q :: [(g519q, .cells ([.string (mkS p2.f0), .string (mkS p2.f1), .bool p2.f2] : List Value).toArray 52 (0, 0))] :: [(g524q, .cells ([v528q, .bool p0.f1, .int .u32 p0.f2, .int .u32 p0.f3] : List Value).toArray 61 (0, 0))] :: Fs) := hS700q.bring 2 rfl rfl
      have hS706q : St b w0 W692q R ([(g524q, .cells ([v528q, .bool p0.f1, .int .u32 p0.f2, .int .u32 p0.f3] : List Value).toArray 61 (0, 0))] :: M634q :: M698q :: [(g519q, .cells ([.string (mkS p2.f0), .string (mkS p2.f1), .bool p2.f2] : List Value).toArray 52 (0, 0))] :: Fs) := hS705q.bring 3 rfl rfl
      obtain ⟨M708q, hr707q, hM_⟩ := k61qmk (b := b) (w0 := w0) (R := R) (x := p0) (gvf0 := hr635q)
      have hp709q : Ptr k61 61 b w0 R (.pointer (some ⟨g524q, 0, none⟩)) p0 ((g524q, .cells ([v528q, .bool p0.f1, .int .u32 p0.f2, .int .u32 p0.f3] : List Value).toArray 61 (0, 0)) :: M708q) := ⟨_, _, _, rfl, rfl, hr707q⟩
      rw [hM_] at hp709q
      have hS711q : St b w0 W692q R (((g524q, .cells ([v528q, .bool p0.f1, .int .u32 p0.f2, .int .u32 p0.f3] : List Value).toArray 61 (0, 0)) :: (M634q)) :: M698q :: [(g519q, .cells ([.string (mkS p2.f0), .string (mkS p2.f1), .bool p2.f2] : List Value).toArray 52 (0, 0))] :: Fs) := hS706q.assoc (by simp only [List.flatten_cons, List.append_assoc, List.cons_append, List.nil_append, List.append_nil])
      obtain ⟨M712q, hM_⟩ : ∃ y : Frag, y = ((g524q, .cells ([v528q, .bool p0.f1, .int .u32 p0.f2, .int .u32 p0.f3] : List Value).toArray 61 (0, 0)) :: (M634q)) := ⟨_, rfl⟩
      rw [← hM_] at hp709q hS711q
      clear hM_
      have hS713q : St b w0 W692q R ([(g519q, .cells ([.string (mkS p2.f0), .string (mkS p2.f1), .bool p2.f2] : List Value).toArray 52 (0, 0))] :: M712q :: M698q :: Fs) := hS711q.bring 2 rfl rfl
      have hS714q : St b w0 W692q R (M712q :: M698q :: Fs) := hS713q.drop_
      have hS715q : St b w0 W692q R (M698q :: M712q :: Fs) := hS714q.bring 1 rfl rfl
      obtain ⟨rfl, rfl⟩ := ret2 H
      repeat (first | refine then_ret ?_ | refine inBlock_ret ?_ | refine inBlock_go ?_)
      refine body_ret (v := .slice A701q r691q.length c702q) h704q (by kernel_rfl) (by kernel_rfl) ?_
      exact ⟨.slice A701q r691q.length c702q, M698q, M712q, rfl, hr699q, hp709q, hS715q⟩
    · rw [if_neg c687q] at H
      have hb_ : r628q = false := (Bool.eq_false_iff.2 c687q)
      try rw [hb_] at h686q
      clear hb_
      refine wp_else h686q rfl ?_
      refine wp_skip ?_
      refine wp_seq ?_
      refine WT.start 6 (fun w_ => (w_.cell? ⟨g524q, 0, none⟩ = some (v528q)) ∧ (∀ j_ u_, ([.string (mkS p2.f0), .string (mkS p2.f1), .bool p2.f2] : List Value)[j_]? = some u_ → w_.cell? ((⟨g519q, 0, none⟩ : Addr).add j_) = some u_) ∧ True) (by kernel_rfl) #[false, false, false, false, false, false] 6 rfl rfl ?_
      have hS758q := hS649q.drew
      refine WT.take 0 (listed' := #[true, false, false, false, false, false]) h686q rfl rfl (by kernel_rfl) rfl rfl (.pointer (some ⟨g524q, 0, none⟩)) (fun _ _ => by kernel_rfl) ⟨((hS758q.bring 2 rfl rfl).cell (i := 0) rfl), (hS758q.cells (vs := ([.string (mkS p2.f0), .string (mkS p2.f1), .bool p2.f2] : List Value)) rfl), trivial⟩ (fun _ _ _ h_ => h_) (fun a759q h760q => ?_)
      clear h686q a685q
      refine WT.take 1 (listed' := #[true, true, false, false, false, false]) h760q rfl rfl (by kernel_rfl) rfl rfl (.pointer (some ⟨g524q, 0, none⟩)) (fun _ _ => by kernel_rfl) ⟨((hS758q.bring 2 rfl rfl).cell (i := 0) rfl), (hS758q.cells (vs := ([.string (mkS p2.f0), .string (mkS p2.f1), .bool p2.f2] : List Value)) rfl), trivial⟩ (fun _ _ _ h_ => h_) (fun a761q h762q => ?_)
      clear h760q a759q
      refine WT.take 2 (listed' := #[true, true, true, false, false, false]) h762q rfl rfl (by kernel_rfl) rfl rfl (.pointer (some ⟨g524q, 0, none⟩)) (fun _ _ => by kernel_rfl) ⟨((hS758q.bring 2 rfl rfl).cell (i := 0) rfl), (hS758q.cells (vs := ([.string (mkS p2.f0), .string (mkS p2.f1), .bool p2.f2] : List Value)) rfl), trivial⟩ (fun _ _ _ h_ => h_) (fun a763q h764q => ?_)
      clear h762q a761q
      refine WT.take 3 (listed' := #[true, true, true, true, false, false]) h764q rfl rfl (by kernel_rfl) rfl rfl (v528q) (fun w_ hs_ => (run_load1 rfl rfl Tryd.underlying59 rfl hs_.1)) ⟨((hS758q.bring 2 rfl rfl).cell (i := 0) rfl), (hS758q.cells (vs := ([.string (mkS p2.f0), .string (mkS p2.f1), .bool p2.f2] : List Value)) rfl), trivial⟩ (fun _ _ _ h_ => h_) (fun a765q h766q => ?_)
      clear h764q a763q
      refine WT.take 4 (listed' := #[true, true, true, true, true, false]) h766q rfl rfl (by kernel_rfl) rfl rfl (.agg #[.string (mkS p2.f0), .string (mkS p2.f1), .bool p2.f2]) (fun w_ hs_ => (run_loadN rfl rfl Tryd.underlying52 rfl (cs := ([.string (mkS p2.f0), .string (mkS p2.f1), .bool p2.f2] : List Value)) (by kernel_rfl) hs_.2.1)) ⟨((hS758q.bring 2 rfl rfl).cell (i := 0) rfl), (hS758q.cells (vs := ([.string (mkS p2.f0), .string (mkS p2.f1), .bool p2.f2] : List Value)) rfl), trivial⟩ (fun _ _ _ h_ => h_) (fun a767q h768q => ?_)
      clear h766q a765q
      have hS769q : St b w0 W629q.drew R (M634q :: [(g519q, .cells ([.string (mkS p2.f0), .string (mkS p2.f1), .bool p2.f2] : List Value).toArray 52 (0, 0))] :: [(g524q, .cells ([v528q, .bool p0.f1, .int .u32 p0.f2, .int .u32 p0.f3] : List Value).toArray 61 (0, 0))] :: Fs) := hS758q.bring 1 rfl rfl
      obtain ⟨r771q, A770q, H⟩ := bind1 H
      refine WT.op 5 (listed' := #[true, true, true, true, true, true]) h768q rfl (by kernel_rfl) rfl rfl ?_
      refine owp_call [v528q, .agg #[.string (mkS p2.f0), .string (mkS p2.f1), .bool p2.f2]] h768q rfl (by kernel_rfl) rfl Tryd.func39 (by kernel_rfl) rfl (by kernel_rfl) (dyntable_Table_Add.calls (p1 := (⟨p2.f0, p2.f1, p2.f2⟩ : S52)) k hr635q A770q hS769q) (fun e773q W772q hp774q => ?_)
      obtain ⟨M777q, rfl, hr778q, hS779q⟩ := hp774q
      refine ⟨_, rfl, fun a775q h776q => ?_⟩
      clear h768q a767q
      refine ⟨.inr ⟨((hS779q.bring 2 rfl rfl).cell (i := 0) rfl), ((hS779q.bring 1 rfl rfl).cells (vs := ([.string (mkS p2.f0), .string (mkS p2.f1), .bool p2.f2] : List Value)) rfl), trivial⟩, ?_⟩
      refine WT.done (by kernel_rfl) ?_
      refine wp_seq ?_
      refine WL.start ?_
      refine WL.block (c := 2) (m' := 2) h776q rfl [(41, .int .i64 r627q), (40, .slice A1 p1.length c1)] (by kernel_rfl) (fun a780q h781q => ?_)
      clear h776q a775q
      have hS782q : St b w0 W772q R ([(g519q, .cells ([.string (mkS p2.f0), .string (mkS p2.f1), .bool p2.f2] : List Value).toArray 52 (0, 0))] :: M777q :: [(g524q, .cells ([v528q, .bool p0.f1, .int .u32 p0.f2, .int .u32 p0.f3] : List Value).toArray 61 (0, 0))] :: Fs) := hS779q.bring 1 rfl rfl
      refine WL.op' (m := 2) h781q rfl rfl ?_
      refine owp_run (v := .agg #[.string (mkS p2.f0), .string (mkS p2.f1), .bool p2.f2]) h781q rfl (by kernel_rfl) (run_loadN rfl rfl Tryd.underlying52 rfl (cs := ([.string (mkS p2.f0), .string (mkS p2.f1), .bool p2.f2] : List Value)) (by kernel_rfl) (hS782q.cells (vs := ([.string (mkS p2.f0), .string (mkS p2.f1), .bool p2.f2] : List Value)) rfl)) (fun a783q h784q => ?_)
      clear h781q a780q
      obtain ⟨r786q, A785q, H⟩ := bind1 H
      refine WL.op' (m := 3) h784q rfl rfl ?_
      refine owp_call [.slice A1 p1.length c1, .int .i64 6, .int .u8 64, .int .i64 r627q, .agg #[.string (mkS p2.f0), .string (mkS p2.f1), .bool p2.f2]] h784q rfl (by kernel_rfl) rfl Tryd.func43 (by kernel_rfl) rfl (by kernel_rfl) (hpack_literal.calls (p4 := (⟨p2.f0, p2.f1, p2.f2⟩ : S52)) k hp1 hg1 A785q hS782q) (fun e788q W787q hp789q => ?_)
      obtain ⟨v792q, M793q, rfl, hr794q, hS795q⟩ := hp789q
      refine ⟨_, rfl, fun a790q h791q => ?_⟩
      clear h784q a783q
      obtain ⟨A796q, c797q, rfl⟩ := hr794q.form
      refine WL.block (c := 1) (m' := 5) h791q rfl [(6, .slice A796q r786q.length c797q)] (by kernel_rfl) (fun a798q h799q => ?_)
      clear h791q a790q
      refine WL.done (by kernel_rfl) ?_
      refine wp_ret ?_
      have hS800q : St b w0 W787q R (M777q :: M793q :: [(g519q, .cells ([.string (mkS p2.f0), .string (mkS p2.f1), .bool p2.f2] : List Value).toArray 52 (0, 0))] :: [(g524q, .cells ([v528q, .bool p0.f1, .int .u32 p0.f2, .int .u32 p0.f3] : List Value).toArray 61 (0, 0))] :: Fs) := hS795q.bring 2 rfl rfl
      have hS801q : St b w0 W787q R ([(g524q, .cells ([v528q, .bool p0.f1, .int .u32 p0.f2, .int .u32 p0.f3] : List Value).toArray 61 (0, 0))] :: M777q :: M793q :: [(g519q, .cells ([.string (mkS p2.f0), .string (mkS p2.f1), .bool p2.f2] : List Value).toArray 52 (0, 0))] :: Fs) := hS800q.bring 3 rfl rfl
      obtain ⟨M803q, hr802q, hM_⟩ := k61qmk (b := b) (w0 := w0) (R := R) (x := (⟨r771q, p0.f1, p0.f2, p0.f3⟩ : S61)) (gvf0 := hr778q)
      have hp804q : Ptr k61 61 b w0 R (.pointer (some ⟨g524q, 0, none⟩)) (⟨r771q, p0.f1, p0.f2, p0.f3⟩ : S61) ((g524q, .cells ([v528q, .bool p0.f1, .int .u32 p0.f2, .int .u32 p0.f3] : List Value).toArray 61 (0, 0)) :: M803q) := ⟨_, _, _, rfl, rfl, hr802q⟩
      rw [hM_] at hp804q
      have hS806q : St b w0 W787q R (((g524q, .cells ([v528q, .bool p0.f1, .int .u32 p0.f2, .int .u32 p0.f3] : List Value).toArray 61 (0, 0)) :: (M777q)) :: M793q :: [(g519q, .cells ([.string (mkS p2.f0), .string (mkS p2.f1), .bool p2.f2] : List Value).toArray 52 (0, 0))] :: Fs) := hS801q.assoc (by simp only [List.flatten_cons, List.append_assoc, List.cons_append, List.nil_append, List.append_nil])
      obtain ⟨M807q, hM_⟩ : ∃ y : Frag, y = ((g524q, .cells ([v528q, .bool p0.f1, .int .u32 p0.f2, .int .u32 p0.f3] : List Value).toArray 61 (0, 0)) :: (M777q)) := ⟨_, rfl⟩
      rw [← hM_] at hp804q hS806q
      clear hM_
      have hS808q : St b w0 W787q R ([(g519q, .cells ([.string (mkS p2.f0), .string (mkS p2.f1), .bool p2.f2] : List Value).toArray 52 (0, 0))] :: M807q :: M793q :: Fs) := hS806q.bring 2 rfl rfl
      have hS809q : St b w0 W787q R (M807q :: M793q :: Fs) := hS808q.drop_
      have hS810q : St b w0 W787q R (M793q :: M807q :: Fs) := hS809q.bring 1 rfl rfl
      obtain ⟨rfl, rfl⟩ := ret2 H
      repeat (first | refine then_ret ?_ | refine inBlock_ret ?_ | refine inBlock_go ?_)
      refine body_ret (v := .slice A796q r786q.length c797q) h799q (by kernel_rfl) (by kernel_rfl) ?_
      exact ⟨.slice A796q r786q.length c797q, M793q, M807q, rfl, hr794q, hp804q, hS810q⟩

/-! ### (*louver/hpack.Encoder).Put -/
mutual
def hpack_Encoder_Put.l2 : Nat → S61 → (List Int) → Int → (List S52) → Option ((List Int) × S61)
  | 0, _, _, _, _ => none
  | k + 1, x2883q, x2886q, x2891q, p1 => if x2891q < (p1.length : Int) then (if 0 ≤ x2891q then (bnd2 (hpack_Encoder_field.f k x2883q x2886q (⟨(gt z52 p1 x2891q).f0, (gt z52 p1 x2891q).f1, (gt z52 p1 x2891q).f2⟩ : S52)) fun r2928q r2929q => (hpack_Encoder_Put.l2 k r2929q r2928q (IntKind.i64.wrap (x2891q + 1)) p1)) else (none)) else (some (x2886q, x2883q))
def hpack_Encoder_Put.j0 : Nat → (List Int) → S61 → (List S52) → Option ((List Int) × S61)
  | 0, _, _, _ => none
  | k + 1, x3028q, p0, p1 => if p0.f1 = true then (hpack_Encoder_Put.j1 k x3028q p0 p1) else (bnd1 (prefix_Put.f k x3028q 5 32 p0.f3) fun r3167q => (hpack_Encoder_Put.j1 k r3167q p0 p1))
def hpack_Encoder_Put.j1 : Nat → (List Int) → S61 → (List S52) → Option ((List Int) × S61)
  | 0, _, _, _ => none
  | k + 1, x3145q, p0, p1 => hpack_Encoder_Put.l2 k (⟨p0.f0, true, p0.f2, p0.f3⟩ : S61) x3145q 0 p1
end
def hpack_Encoder_Put.f (k : Nat) (p0 : S61) (p1 : (List S52)) : Option ((List Int) × S61) := if p0.f1 = true then (hpack_Encoder_Put.l2 k (⟨p0.f0, true, p0.f2, p0.f3⟩ : S61) ([] : List Int) 0 p1) else (if p0.f2 < p0.f3 then (bnd1 (prefix_Put.f k ([] : List Int) 5 32 p0.f2) fun r3049q => (hpack_Encoder_Put.j0 k r3049q p0 p1)) else (hpack_Encoder_Put.j0 k ([] : List Int) p0 p1))
set_option maxHeartbeats 2000000 in
set_option maxRecDepth 100000 in
theorem hpack_Encoder_Put.calls (k : Nat) {b : Nat} {w0 W : World} {R : Frag} {Fs : List Frag} {p0 : S61} {p1 : (List S52)} {v1 : Value} {v0 : Value} {M0 : Frag} {r0q : (List Int)} {r1q : S61} (hp0 : Ptr k61 61 b w0 R v0 p0 M0) (hp1 : Rds k52 b w0 R v1 p1) (hg0 : Rds k52 b w0 [] (.slice (some ⟨0, 0, none⟩) 61 61) G0) (hg1 : Rds (kInt .u8) b w0 [] (.slice (some ⟨1, 0, none⟩) 257 257) G1) (H : hpack_Encoder_Put.f k p0 p1 = some (r0q, r1q)) (hS : St b w0 W R (M0 :: Fs)) :
    Calls Tryd.prog 13 ([v0, v1] : List Value).toArray W (fun e W' => ∃ (u0q : Value) (N0q : Frag) (O0q : Frag), e = .returned (u0q) ∧ Row (kInt .u8) 5 b w0 R u0q r0q N0q ∧ Ptr k61 61 b w0 R v0 r1q O0q ∧ St b w0 W' R (N0q :: O0q :: Fs)) := by
  obtain ⟨A1, c1, rfl⟩ := hp1.form
  unfold hpack_Encoder_Put.f at H
  refine calls_enter Tryd.func13 rfl 58 rfl (by kernel_rfl) (fun a h => ?_)
  refine wp_seq ?_
  refine WL.start ?_
  refine WL.block (c := 1) (m' := 1) h rfl [(4, .slice none 0 0)] (by kernel_rfl) (fun a2664q h2665q => ?_)
  refine WL.done (by kernel_rfl) ?_
  refine wp_seq ?_
  refine wp_seq ?_
  refine WL.start ?_
  refine WL.block (c := 1) (m' := 1) h2665q rfl [(8, v0)] (by kernel_rfl) (fun a2666q h2667q => ?_)
  clear h2665q a2664q
  obtain ⟨g2668q, cs2669q, M2670q, hv_, hM_, hr2671q⟩ := hp0
  obtain ⟨v2672q, M2673q, rfl, hM2q, hr2674q⟩ := k61qrep hr2671q
  subst hM2q
  subst hM_
  subst hv_
  have hS2675q : St b w0 W R ([(g2668q, .cells ([v2672q, .bool p0.f1, .int .u32 p0.f2, .int .u32 p0.f3] : List Value).toArray 61 (0, 0))] :: M2670q :: Fs) := hS.assoc (by simp only [List.flatten_cons, List.append_assoc, List.cons_append, List.nil_append, List.append_nil])
  refine WL.block (c := 1) (m' := 2) h2667q rfl [(9, .bool false)] (by kernel_rfl) (fun a2676q h2677q => ?_)
  clear h2667q a2666q
  refine WL.done (by kernel_rfl) ?_
  refine wp_else h2677q rfl ?_
  refine wp_skip ?_
  refine wp_seq ?_
  refine WL.start ?_
  refine WL.block (c := 1) (m' := 1) h2677q rfl [(5, .slice none 0 0)] (by kernel_rfl) (fun a2678q h2679q => ?_)
  clear h2677q a2676q
  refine WL.done (by kernel_rfl) ?_
  refine wp_seq ?_
  refine wp_seq ?_
  refine WT.start 16 (fun w_ => (w_.cell? ⟨g2668q, 1, none⟩ = some (.bool p0.f1)) ∧ (w_.cell? ⟨g2668q, 2, none⟩ = some (.int .u32 p0.f2)) ∧ (w_.cell? ⟨g2668q, 3, none⟩ = some (.int .u32 p0.f3)) ∧ True) (by kernel_rfl) #[false, false, false, false, false, false, false, false, false, false, false, false, false, false, false, false] 16 rfl rfl ?_
  have hS2786q := hS2675q.drew
  refine WT.take 0 (listed' := #[true, false, false, false, false, false, false, false, false, false, false, false, false, false, false, false]) h2679q rfl rfl (by kernel_rfl) rfl rfl (.pointer (some ⟨g2668q, 0, none⟩)) (fun _ _ => by kernel_rfl) ⟨(hS2786q.cell (i := 1) rfl), (hS2786q.cell (i := 2) rfl), (hS2786q.cell (i := 3) rfl), trivial⟩ (fun _ _ _ h_ => h_) (fun a2787q h2788q => ?_)
  clear h2679q a2678q
  refine WT.take 1 (listed' := #[true, true, false, false, false, false, false, false, false, false, false, false, false, false, false, false]) h2788q rfl rfl (by kernel_rfl) rfl rfl (.pointer (some ⟨g2668q, 0, none⟩)) (fun _ _ => by kernel_rfl) ⟨(hS2786q.cell (i := 1) rfl), (hS2786q.cell (i := 2) rfl), (hS2786q.cell (i := 3) rfl), trivial⟩ (fun _ _ _ h_ => h_) (fun a2789q h2790q => ?_)
  clear h2788q a2787q
  refine WT.take 2 (listed' := #[true, true, true, false, false, false, false, false, false, false, false, false, false, false, false, false]) h2790q rfl rfl (by kernel_rfl) rfl rfl (.pointer (some ⟨g2668q, 1, none⟩)) (fun _ _ => by kernel_rfl) ⟨(hS2786q.cell (i := 1) rfl), (hS2786q.cell (i := 2) rfl), (hS2786q.cell (i := 3) rfl), trivial⟩ (fun _ _ _ h_ => h_) (fun a2791q h2792q => ?_)
  clear h2790q a2789q
  refine WT.take 3 (listed' := #[true, true, true, true, false, false, false, false, false, false, false, false, false, false, false, false]) h2792q rfl rfl (by kernel_rfl) rfl rfl (.bool p0.f1) (fun w_ hs_ => (run_load1 rfl rfl Tryd.underlying4 rfl hs_.1)) ⟨(hS2786q.cell (i := 1) rfl), (hS2786q.cell (i := 2) rfl), (hS2786q.cell (i := 3) rfl), trivial⟩ (fun _ _ _ h_ => h_) (fun a2793q h2794q => ?_)
  clear h2792q a2791q
  refine WT.take 4 (listed' := #[true, true, true, true, true, false, false, false, false, false, false, false, false, false, false, false]) h2794q rfl rfl (by kernel_rfl) rfl rfl (.bool (!p0.f1)) (fun _ _ => by kernel_rfl) ⟨(hS2786q.cell (i := 1) rfl), (hS2786q.cell (i := 2) rfl), (hS2786q.cell (i := 3) rfl), trivial⟩ (fun _ _ _ h_ => h_) (fun a2795q h2796q => ?_)
  clear h2794q a2793q
  refine WT.take 5 (listed' := #[true, true, true, true, true, true, false, false, false, false, false, false, false, false, false, false]) h2796q rfl rfl (by kernel_rfl) rfl rfl (.bool (!p0.f1)) (fun _ _ => by kernel_rfl) ⟨(hS2786q.cell (i := 1) rfl), (hS2786q.cell (i := 2) rfl), (hS2786q.cell (i := 3) rfl), trivial⟩ (fun _ _ _ h_ => h_) (fun a2797q h2798q => ?_)
  clear h2796q a2795q
  by_cases c2799q : p0.f1 = true
  · rw [if_pos c2799q] at H
    have hb_ : p0.f1 = true := c2799q
    try rw [hb_] at h2798q
    clear hb_
    refine WT.skip 6 (listed' := #[true, true, true, true, true, true, true, false, false, false, false, false, false, false, false, false]) h2798q rfl rfl (by kernel_rfl) rfl rfl ⟨(hS2786q.cell (i := 1) rfl), (hS2786q.cell (i := 2) rfl), (hS2786q.cell (i := 3) rfl), trivial⟩ (fun _ _ _ h_ => h_) (fun a2800q h2801q => ?_)
    clear h2798q a2797q
    refine WT.skip 7 (listed' := #[true, true, true, true, true, true, true, true, false, false, false, false, false, false, false, false]) h2801q rfl rfl (by kernel_rfl) rfl rfl ⟨(hS2786q.cell (i := 1) rfl), (hS2786q.cell (i := 2) rfl), (hS2786q.cell (i := 3) rfl), trivial⟩ (fun _ _ _ h_ => h_) (fun a2802q h2803q => ?_)
    clear h2801q a2800q
    refine WT.skip 8 (listed' := #[true, true, true, true, true, true, true, true, true, false, false, false, false, false, false, false]) h2803q rfl rfl (by kernel_rfl) rfl rfl ⟨(hS2786q.cell (i := 1) rfl), (hS2786q.cell (i := 2) rfl), (hS2786q.cell (i := 3) rfl), trivial⟩ (fun _ _ _ h_ => h_) (fun a2804q h2805q => ?_)
    clear h2803q a2802q
    refine WT.skip 9 (listed' := #[true, true, true, true, true, true, true, true, true, true, false, false, false, false, false, false]) h2805q rfl rfl (by kernel_rfl) rfl rfl ⟨(hS2786q.cell (i := 1) rfl), (hS2786q.cell (i := 2) rfl), (hS2786q.cell (i := 3) rfl), trivial⟩ (fun _ _ _ h_ => h_) (fun a2806q h2807q => ?_)
    clear h2805q a2804q
    refine WT.skip 10 (listed' := #[true, true, true, true, true, true, true, true, true, true, true, false, false, false, false, false]) h2807q rfl rfl (by kernel_rfl) rfl rfl ⟨(hS2786q.cell (i := 1) rfl), (hS2786q.cell (i := 2) rfl), (hS2786q.cell (i := 3) rfl), trivial⟩ (fun _ _ _ h_ => h_) (fun a2808q h2809q => ?_)
    clear h2807q a2806q
    refine WT.skip 11 (listed' := #[true, true, true, true, true, true, true, true, true, true, true, true, false, false, false, false]) h2809q rfl rfl (by kernel_rfl) rfl rfl ⟨(hS2786q.cell (i := 1) rfl), (hS2786q.cell (i := 2) rfl), (hS2786q.cell (i := 3) rfl), trivial⟩ (fun _ _ _ h_ => h_) (fun a2810q h2811q => ?_)
    clear h2809q a2808q
    refine WT.skip 12 (listed' := #[true, true, true, true, true, true, true, true, true, true, true, true, true, false, false, false]) h2811q rfl rfl (by kernel_rfl) rfl rfl ⟨(hS2786q.cell (i := 1) rfl), (hS2786q.cell (i := 2) rfl), (hS2786q.cell (i := 3) rfl), trivial⟩ (fun _ _ _ h_ => h_) (fun a2812q h2813q => ?_)
    clear h2811q a2810q
    refine WT.skip 13 (listed' := #[true, true, true, true, true, true, true, true, true, true, true, true, true, true, false, false]) h2813q rfl rfl (by kernel_rfl) rfl rfl ⟨(hS2786q.cell (i := 1) rfl), (hS2786q.cell (i := 2) rfl), (hS2786q.cell (i := 3) rfl), trivial⟩ (fun _ _ _ h_ => h_) (fun a2814q h2815q => ?_)
    clear h2813q a2812q
    refine WT.skip 14 (listed' := #[true, true, true, true, true, true, true, true, true, true, true, true, true, true, true, false]) h2815q rfl rfl (by kernel_rfl) rfl rfl ⟨(hS2786q.cell (i := 1) rfl), (hS2786q.cell (i := 2) rfl), (hS2786q.cell (i := 3) rfl), trivial⟩ (fun _ _ _ h_ => h_) (fun a2816q h2817q => ?_)
    clear h2815q a2814q
    refine WT.take 15 (listed' := #[true, true, true, true, true, true, true, true, true, true, true, true, true, true, true, true]) h2817q rfl rfl (by kernel_rfl) rfl rfl (.bool false) (fun _ _ => by kernel_rfl) ⟨(hS2786q.cell (i := 1) rfl), (hS2786q.cell (i := 2) rfl), (hS2786q.cell (i := 3) rfl), trivial⟩ (fun _ _ _ h_ => h_) (fun a2818q h2819q => ?_)
    clear h2817q a2816q
    refine WT.done (by kernel_rfl) ?_
    have hS2820q : St b w0 W.drew R (M2670q :: [(g2668q, .cells ([v2672q, .bool p0.f1, .int .u32 p0.f2, .int .u32 p0.f3] : List Value).toArray 61 (0, 0))] :: Fs) := hS2786q.bring 1 rfl rfl
    have hS2821q : St b w0 W.drew R ([(g2668q, .cells ([v2672q, .bool p0.f1, .int .u32 p0.f2, .int .u32 p0.f3] : List Value).toArray 61 (0, 0))] :: M2670q :: Fs) := hS2820q.bring 1 rfl rfl
    obtain ⟨M2823q, hr2822q, hM_⟩ := k61qmk (b := b) (w0 := w0) (R := R) (x := p0) (gvf0 := hr2674q)
    have hp2824q : Ptr k61 61 b w0 R (.pointer (some ⟨g2668q, 0, none⟩)) p0 ((g2668q, .cells ([v2672q, .bool p0.f1, .int .u32 p0.f2, .int .u32 p0.f3] : List Value).toArray 61 (0, 0)) :: M2823q) := ⟨_, _, _, rfl, rfl, hr2822q⟩
    rw [hM_] at hp2824q
    have hS2826q : St b w0 W.drew R (((g2668q, .cells ([v2672q, .bool p0.f1, .int .u32 p0.f2, .int .u32 p0.f3] : List Value).toArray 61 (0, 0)) :: (M2670q)) :: Fs) := hS2821q.assoc (by simp only [List.flatten_cons, List.append_assoc, List.cons_append, List.nil_append, List.append_nil])
    obtain ⟨M2827q, hM_⟩ : ∃ y : Frag, y = ((g2668q, .cells ([v2672q, .bool p0.f1, .int .u32 p0.f2, .int .u32 p0.f3] : List Value).toArray 61 (0, 0)) :: (M2670q)) := ⟨_, rfl⟩
    rw [← hM_] at hp2824q hS2826q
    clear hM_
    refine wp_else h2819q rfl ?_
    refine wp_skip ?_
    refine wp_seq ?_
    refine wp_seq ?_
    refine WL.start ?_
    refine WL.block (c := 1) (m' := 1) h2819q rfl [(32, .pointer (some ⟨g2668q, 0, none⟩))] (by kernel_rfl) (fun a2828q h2829q => ?_)
    clear h2819q a2818q
    obtain ⟨g2830q, cs2831q, M2832q, hv_, hM_, hr2833q⟩ := hp2824q
    obtain ⟨v2834q, M2835q, rfl, hM2q, hr2836q⟩ := k61qrep hr2833q
    subst hM2q
    subst hM_
    have hg_ : g2668q = g2830q := by simpa using hv_
    subst hg_
    clear hv_
    have hS2837q : St b w0 W.drew R ([(g2668q, .cells ([v2834q, .bool p0.f1, .int .u32 p0.f2, .int .u32 p0.f3] : List Value).toArray 61 (0, 0))] :: M2832q :: Fs) := hS2826q.assoc (by simp only [List.flatten_cons, List.append_assoc, List.cons_append, List.nil_append, List.append_nil])
    refine WL.block (c := 2) (m' := 3) h2829q rfl [(34, .pointer (some ⟨g2668q, 1, none⟩)), (33, .pointer (some ⟨g2668q, 0, none⟩))] (by kernel_rfl) (fun a2838q h2839q => ?_)
    clear h2829q a2828q
    refine WL.op' (m := 3) h2839q rfl rfl ?_
    refine owp_run (v := .bool p0.f1) h2839q rfl (by kernel_rfl) (run_load1 rfl rfl Tryd.underlying4 rfl (hS2837q.cell (i := 1) rfl)) (fun a2840q h2841q => ?_)
    clear h2839q a2838q
    refine WL.block (c := 1) (m' := 5) h2841q rfl [(36, .bool (!p0.f1))] (by kernel_rfl) (fun a2842q h2843q => ?_)
    clear h2841q a2840q
    refine WL.done (by kernel_rfl) ?_
    have hS2844q : St b w0 W.drew R (M2832q :: [(g2668q, .cells ([v2834q, .bool p0.f1, .int .u32 p0.f2, .int .u32 p0.f3] : List Value).toArray 61 (0, 0))] :: Fs) := hS2837q.bring 1 rfl rfl
    have hS2845q : St b w0 W.drew R ([(g2668q, .cells ([v2834q, .bool p0.f1, .int .u32 p0.f2, .int .u32 p0.f3] : List Value).toArray 61 (0, 0))] :: M2832q :: Fs) := hS2844q.bring 1 rfl rfl
    obtain ⟨M2847q, hr2846q, hM_⟩ := k61qmk (b := b) (w0 := w0) (R := R) (x := p0) (gvf0 := hr2836q)
    have hp2848q : Ptr k61 61 b w0 R (.pointer (some ⟨g2668q, 0, none⟩)) p0 ((g2668q, .cells ([v2834q, .bool p0.f1, .int .u32 p0.f2, .int .u32 p0.f3] : List Value).toArray 61 (0, 0)) :: M2847q) := ⟨_, _, _, rfl, rfl, hr2846q⟩
    rw [hM_] at hp2848q
    have hS2850q : St b w0 W.drew R (((g2668q, .cells ([v2834q, .bool p0.f1, .int .u32 p0.f2, .int .u32 p0.f3] : List Value).toArray 61 (0, 0)) :: (M2832q)) :: Fs) := hS2845q.assoc (by simp only [List.flatten_cons, List.append_assoc, List.cons_append, List.nil_append, List.append_nil])
    obtain ⟨M2851q, hM_⟩ : ∃ y : Frag, y = ((g2668q, .cells ([v2834q, .bool p0.f1, .int .u32 p0.f2, .int .u32 p0.f3] : List Value).toArray 61 (0, 0)) :: (M2832q)) := ⟨_, rfl⟩
    rw [← hM_] at hp2848q hS2850q
    clear hM_
    have hb_ : p0.f1 = true := c2799q
    try rw [hb_] at h2843q
    clear hb_
    refine wp_else h2843q rfl ?_
    refine wp_skip ?_
    refine wp_seq ?_
    refine WL.start ?_
    refine WL.block (c := 1) (m' := 1) h2843q rfl [(43, .pointer (some ⟨g2668q, 0, none⟩))] (by kernel_rfl) (fun a2852q h2853q => ?_)
    clear h2843q a2842q
    obtain ⟨g2854q, cs2855q, M2856q, hv_, hM_, hr2857q⟩ := hp2848q
    obtain ⟨v2858q, M2859q, rfl, hM2q, hr2860q⟩ := k61qrep hr2857q
    subst hM2q
    subst hM_
    have hg_ : g2668q = g2854q := by simpa using hv_
    subst hg_
    clear hv_
    have hS2861q : St b w0 W.drew R ([(g2668q, .cells ([v2858q, .bool p0.f1, .int .u32 p0.f2, .int .u32 p0.f3] : List Value).toArray 61 (0, 0))] :: M2856q :: Fs) := hS2850q.assoc (by simp only [List.flatten_cons, List.append_assoc, List.cons_append, List.nil_append, List.append_nil])
    refine WL.block (c := 2) (m' := 3) h2853q rfl [(45, .pointer (some ⟨g2668q, 1, none⟩)), (44, .pointer (some ⟨g2668q, 0, none⟩))] (by kernel_rfl) (fun a2862q h2863q => ?_)
    clear h2853q a2852q
    refine WL.op' (m := 3) h2863q rfl rfl ?_
    refine owp_store (i := 1) (vs := ([.bool true] : List Value)) h2863q rfl (by kernel_rfl) rfl rfl rfl rfl (by simp [Value.oneCell']) (by kernel_rfl) hS2861q (by simp) (cs' := ([v2858q, .bool true, .int .u32 p0.f2, .int .u32 p0.f3] : List Value)) rfl (fun a2864q W2866q h2865q hS2867q => ?_)
    clear h2863q a2862q
    refine WL.done (by kernel_rfl) ?_
    refine wp_seq ?_
    refine wp_seq ?_
    refine WL.start ?_
    refine WL.block (c := 3) (m' := 3) h2865q rfl [(48, .int .i64 0), (47, .int .i64 (p1.length : Int)), (46, .slice A1 p1.length c1)] (by kernel_rfl) (fun a2868q h2869q => ?_)
    clear h2865q a2864q
    refine WL.done (by kernel_rfl) ?_
    refine wp_block ?_
    have hS2870q : St b w0 W2866q R (M2856q :: [(g2668q, .cells ([v2858q, .bool true, .int .u32 p0.f2, .int .u32 p0.f3] : List Value).toArray 61 (0, 0))] :: Fs) := hS2867q.bring 1 rfl rfl
    have hS2871q : St b w0 W2866q R ([(g2668q, .cells ([v2858q, .bool true, .int .u32 p0.f2, .int .u32 p0.f3] : List Value).toArray 61 (0, 0))] :: M2856q :: Fs) := hS2870q.bring 1 rfl rfl
    obtain ⟨M2873q, hr2872q, hM_⟩ := k61qmk (b := b) (w0 := w0) (R := R) (x := (⟨p0.f0, true, p0.f2, p0.f3⟩ : S61)) (gvf0 := hr2860q)
    have hp2874q : Ptr k61 61 b w0 R (.pointer (some ⟨g2668q, 0, none⟩)) (⟨p0.f0, true, p0.f2, p0.f3⟩ : S61) ((g2668q, .cells ([v2858q, .bool true, .int .u32 p0.f2, .int .u32 p0.f3] : List Value).toArray 61 (0, 0)) :: M2873q) := ⟨_, _, _, rfl, rfl, hr2872q⟩
    rw [hM_] at hp2874q
    have hS2876q : St b w0 W2866q R (((g2668q, .cells ([v2858q, .bool true, .int .u32 p0.f2, .int .u32 p0.f3] : List Value).toArray 61 (0, 0)) :: (M2856q)) :: Fs) := hS2871q.assoc (by simp only [List.flatten_cons, List.append_assoc, List.cons_append, List.nil_append, List.append_nil])
    obtain ⟨M2877q, hM_⟩ : ∃ y : Frag, y = ((g2668q, .cells ([v2858q, .bool true, .int .u32 p0.f2, .int .u32 p0.f3] : List Value).toArray 61 (0, 0)) :: (M2856q)) := ⟨_, rfl⟩
    rw [← hM_] at hp2874q hS2876q
    clear hM_
    have hS2892q : St b w0 W2866q R (([] : Frag) :: M2877q :: Fs) := hS2876q.nil_
    have hS2893q : St b w0 W2866q R (M2877q :: ([] : Frag) :: Fs) := hS2892q.bring 1 rfl rfl
    refine wp_loop_ghost (fun kq_ a_ W_ => ∃ (x2883q : S61), ∃ (M2884q : Frag), ∃ (x2886q : (List Int)), ∃ (A2887q : Option Addr), ∃ (c2888q : Nat), ∃ (M2889q : Frag), ∃ (x2891q : Int), Hd a_ 58 [(0, .pointer (some ⟨g2668q, 0, none⟩)), (5, .slice A2887q x2886q.length c2888q), (46, .slice A1 p1.length c1), (47, .int .i64 (p1.length : Int)), (48, .int .i64 x2891q)] ∧ Asd (hpack_Encoder_Put.l2 kq_ x2883q x2886q x2891q p1 = some (r0q, r1q)) ∧ Asd (kq_ ≤ k) ∧ Asd (St b w0 W_ R (M2884q :: M2889q :: Fs)) ∧ Asd (Ptr k61 61 b w0 R (.pointer (some ⟨g2668q, 0, none⟩)) x2883q M2884q) ∧ Asd (Row (kInt .u8) 5 b w0 R (.slice A2887q x2886q.length c2888q) x2886q M2889q)) k ⟨(⟨p0.f0, true, p0.f2, p0.f3⟩ : S61), M2877q, ([] : List Int), none, 0, ([] : Frag), 0, h2869q.keep ⟨rfl, rfl, rfl, rfl, rfl, trivial⟩, ⟨H⟩, ⟨Nat.le_refl _⟩, ⟨hS2893q⟩, ⟨hp2874q⟩, ⟨Row.nil⟩⟩ ?_
    clear H hS2893q
    rintro k2882q a2879q W2880q ⟨x2883q, M2884q, x2886q, A2887q, c2888q, M2889q, x2891q, h2878q, ⟨H⟩, ⟨hkk2882q⟩, ⟨hS2881q⟩, ⟨hr2885q⟩, ⟨hr2890q⟩⟩
    obtain _ | k2894q := k2882q
    · exact absurd H (by simp [hpack_Encoder_Put.l2])
    simp only [hpack_Encoder_Put.l2] at H
    refine wp_seq ?_
    refine WL.start ?_
    refine WL.block (c := 1) (m' := 1) h2878q rfl [(49, .bool (decide (x2891q < (p1.length : Int))))] (by kernel_rfl) (fun a2895q h2896q => ?_)
    clear h2878q a2879q
    refine WL.done (by kernel_rfl) ?_
    refine wp_seq ?_
    by_cases c2897q : x2891q < (p1.length : Int)
    · rw [if_pos c2897q] at H
      have hb_ : (decide (x2891q < (p1.length : Int))) = true := decide_eq_true c2897q
      try rw [hb_] at h2896q
      clear hb_
      refine wp_then h2896q rfl ?_
      refine wp_skip ?_
      refine wp_seq ?_
      refine wp_block ?_
      refine wp_seq ?_
      refine WL.start ?_
      by_cases c2898q : 0 ≤ x2891q
      · rw [if_pos c2898q] at H
        have hi2901q : 0 ≤ x2891q := by first | assumption | omega
        have hi2902q : x2891q < (p1.length : Int) := by first | assumption | omega
        obtain ⟨ad2899q, _, ha2900q, -, -⟩ := Rds.elemAny hp1 hi2901q (gt_get (z := z52) hi2901q hi2902q)
        refine WL.op' (m := 0) h2896q rfl rfl ?_
        refine owp_run (v := .pointer (some (ad2899q.add (x2891q.toNat * 3)))) h2896q rfl (by kernel_rfl) (run_idx (ad := ad2899q) (sz := 3) rfl (by rw [← ha2900q]; rfl) rfl Tryd.underlying23 (by kernel_rfl) hi2901q hi2902q) (fun a2903q h2904q => ?_)
        clear h2896q a2895q
        obtain ⟨ad2905q, cs2906q, ha2907q, hr2909q, hc2908q⟩ := Rds.elemAny hp1 hi2901q (gt_get (z := z52) hi2901q hi2902q)
        rw [ha2900q] at ha2907q; obtain rfl := Option.some.inj ha2907q
        obtain rfl := k52qrd hr2909q
        refine WL.op' (m := 1) h2904q rfl rfl ?_
        refine owp_run (v := .agg #[.string (mkS ((gt z52 p1 x2891q).f0)), .string (mkS ((gt z52 p1 x2891q).f1)), .bool ((gt z52 p1 x2891q).f2)]) h2904q rfl (by kernel_rfl) (run_loadN rfl rfl Tryd.underlying52 rfl (cs := ([.string (mkS ((gt z52 p1 x2891q).f0)), .string (mkS ((gt z52 p1 x2891q).f1)), .bool ((gt z52 p1 x2891q).f2)] : List Value)) (by kernel_rfl) (hc2908q _ (fun _ _ hk_ => hS2881q.kn hk_))) (fun a2910q h2911q => ?_)
        clear h2904q a2903q
        refine WL.op' (m := 2) h2911q rfl rfl ?_
        refine owp_new (fun g_ => .pointer (some ⟨g_, 0, none⟩)) (.cells ([.string (mkS ([] : List UInt8)), .string (mkS ([] : List UInt8)), .bool false] : List Value).toArray 52 (0, 0)) h2911q rfl (by kernel_rfl) (by kernel_rfl) hS2881q (fun a2912q W2914q g2915q h2913q hS2916q => ?_)
        clear h2911q a2910q
        refine WL.op' (m := 3) h2913q rfl rfl ?_
        refine owp_store (i := 0) (vs := ([.string (mkS ((gt z52 p1 x2891q).f0)), .string (mkS ((gt z52 p1 x2891q).f1)), .bool ((gt z52 p1 x2891q).f2)] : List Value)) h2913q rfl (by kernel_rfl) rfl rfl rfl rfl (by simp [Value.oneCell']) (by kernel_rfl) hS2916q (by simp) (cs' := ([.string (mkS ((gt z52 p1 x2891q).f0)), .string (mkS ((gt z52 p1 x2891q).f1)), .bool ((gt z52 p1 x2891q).f2)] : List Value)) rfl (fun a2917q W2919q h2918q hS2920q => ?_)
        clear h2913q a2912q
        refine WL.done (by kernel_rfl) ?_
        refine WL.start ?_
        refine WL.block (c := 2) (m' := 2) h2918q rfl [(53, .slice A2887q x2886q.length c2888q), (52, .pointer (some ⟨g2668q, 0, none⟩))] (by kernel_rfl) (fun a2921q h2922q => ?_)
        clear h2918q a2917q
        refine WL.op' (m := 2) h2922q rfl rfl ?_
        refine owp_run (v := .agg #[.string (mkS ((gt z52 p1 x2891q).f0)), .string (mkS ((gt z52 p1 x2891q).f1)), .bool ((gt z52 p1 x2891q).f2)]) h2922q rfl (by kernel_rfl) (run_loadN rfl rfl Tryd.underlying52 rfl (cs := ([.string (mkS ((gt z52 p1 x2891q).f0)), .string (mkS ((gt z52 p1 x2891q).f1)), .bool ((gt z52 p1 x2891q).f2)] : List Value)) (by kernel_rfl) (hS2920q.cells (vs := ([.string (mkS ((gt z52 p1 x2891q).f0)), .string (mkS ((gt z52 p1 x2891q).f1)), .bool ((gt z52 p1 x2891q).f2)] : List Value)) rfl)) (fun a2923q h2924q => ?_)
        clear h2922q a2921q
        have hS2925q : St b w0 W2919q R (M2884q :: [(g2915q, .cells ([.string (mkS ((gt z52 p1 x2891q).f0)), .string (mkS ((gt z52 p1 x2891q).f1)), .bool ((gt z52 p1 x2891q).f2)] : List Value).toArray 52 (0, 0))] :: M2889q :: Fs) := hS2920q.bring 1 rfl rfl
        have hS2926q : St b w0 W2919q R (M2889q :: M2884q :: [(g2915q, .cells ([.string (mkS ((gt z52 p1 x2891q).f0)), .string (mkS ((gt z52 p1 x2891q).f1)), .bool ((gt z52 p1 x2891q).f2)] : List Value).toArray 52 (0, 0))] :: Fs) := hS2925q.bring 2 rfl rfl
        obtain ⟨r2928q, r2929q, A2927q, H⟩ := bind2 H
        refine WL.op' (m := 3) h2924q rfl rfl ?_
        refine owp_call [.pointer (some ⟨g2668q, 0, none⟩), .slice A2887q x2886q.length c2888q, .agg #[.string (mkS ((gt z52 p1 x2891q).f0)), .string (mkS ((gt z52 p1 x2891q).f1)), .bool ((gt z52 p1 x2891q).f2)]] h2924q rfl (by kernel_rfl) rfl Tryd.func28 (by kernel_rfl) rfl (by kernel_rfl) (hpack_Encoder_field.calls (p2 := (⟨(gt z52 p1 x2891q).f0, (gt z52 p1 x2891q).f1, (gt z52 p1 x2891q).f2⟩ : S52)) k2894q (hr2885q.mono (fun _ hp_ => List.mem_append_right _ hp_)) hr2890q.rds hg0 hg1 A2927q (hS2926q.pool)) (fun e2931q W2930q hp2932q => ?_)
        obtain ⟨v2935q, M2936q, M2938q, rfl, hr2937q, hr2939q, hS2940q⟩ := hp2932q
        have hS2941q : St b w0 W2930q R (M2889q :: M2936q :: M2938q :: [(g2915q, .cells ([.string (mkS ((gt z52 p1 x2891q).f0)), .string (mkS ((gt z52 p1 x2891q).f1)), .bool ((gt z52 p1 x2891q).f2)] : List Value).toArray 52 (0, 0))] :: Fs) := hS2940q.unpool
        replace hr2937q : Row (kInt .u8) 5 b w0 R v2935q r2928q M2936q := hr2937q.ind (kInt_ind _)
        replace hr2939q : Ptr k61 61 b w0 R (.pointer (some ⟨g2668q, 0, none⟩)) r2929q M2938q := hr2939q.ind k61qind
        refine ⟨_, rfl, fun a2933q h2934q => ?_⟩
        clear h2924q a2923q
        obtain ⟨A2942q, c2943q, rfl⟩ := hr2937q.form
        refine WL.block (c := 1) (m' := 5) h2934q rfl [(5, .slice A2942q r2928q.length c2943q)] (by kernel_rfl) (fun a2944q h2945q => ?_)
        clear h2934q a2933q
        refine WL.done (by kernel_rfl) ?_
        refine WL.start ?_
        refine WL.block (c := 2) (m' := 2) h2945q rfl [(48, .int .i64 (IntKind.i64.wrap (x2891q + 1))), (56, .int .i64 (IntKind.i64.wrap (x2891q + 1)))] (by kernel_rfl) (fun a2946q h2947q => ?_)
        clear h2945q a2944q
        refine WL.done (by kernel_rfl) ?_
        have hS2948q : St b w0 W2930q R (M2936q :: M2938q :: [(g2915q, .cells ([.string (mkS ((gt z52 p1 x2891q).f0)), .string (mkS ((gt z52 p1 x2891q).f1)), .bool ((gt z52 p1 x2891q).f2)] : List Value).toArray 52 (0, 0))] :: Fs) := hS2941q.drop_
        have hS2949q : St b w0 W2930q R ([(g2915q, .cells ([.string (mkS ((gt z52 p1 x2891q).f0)), .string (mkS ((gt z52 p1 x2891q).f1)), .bool ((gt z52 p1 x2891q).f2)] : List Value).toArray 52 (0, 0))] :: M2936q :: M2938q :: Fs) := hS2948q.bring 2 rfl rfl
        have hS2950q : St b w0 W2930q R (M2936q :: M2938q :: Fs) := hS2949q.drop_
        have hS2951q : St b w0 W2930q R (M2938q :: M2936q :: Fs) := hS2950q.bring 1 rfl rfl
        exact ⟨k2894q, by omega, r2929q, M2938q, r2928q, A2942q, c2943q, M2936q, IntKind.i64.wrap (x2891q + 1), h2947q.keep ⟨rfl, rfl, rfl, rfl, rfl, trivial⟩, ⟨H⟩, ⟨by omega⟩, ⟨hS2951q⟩, ⟨hr2939q⟩, ⟨hr2937q⟩⟩
      · rw [if_neg c2898q] at H
        cases H
    · rw [if_neg c2897q] at H
      have hb_ : (decide (x2891q < (p1.length : Int))) = false := decide_eq_false c2897q
      try rw [hb_] at h2896q
      clear hb_
      refine wp_else h2896q rfl ?_
      refine wp_exit ?_
      refine wp_seq ?_
      refine WL.start ?_
      refine WL.block (c := 2) (m' := 2) h2896q rfl [(4, .slice A2887q x2886q.length c2888q), (57, .slice A2887q x2886q.length c2888q)] (by kernel_rfl) (fun a2952q h2953q => ?_)
      clear h2896q a2895q
      refine WL.done (by kernel_rfl) ?_
      refine wp_ret ?_
      have hS2954q : St b w0 W2880q R (M2889q :: M2884q :: Fs) := hS2881q.bring 1 rfl rfl
      obtain ⟨rfl, rfl⟩ := ret2 H
      repeat (first | refine then_ret ?_ | refine inBlock_ret ?_ | refine inBlock_go ?_)
      refine body_ret (v := .slice A2887q x2886q.length c2888q) h2953q (by kernel_rfl) (by kernel_rfl) ?_
      exact ⟨.slice A2887q x2886q.length c2888q, M2889q, M2884q, rfl, hr2890q, hr2885q, hS2954q⟩
  · rw [if_neg c2799q] at H
    have hb_ : p0.f1 = false := (Bool.eq_false_iff.2 c2799q)
    try rw [hb_] at h2798q
    clear hb_
    refine WT.take 6 (listed' := #[true, true, true, true, true, true, true, false, false, false, false, false, false, false, false, false]) h2798q rfl rfl (by kernel_rfl) rfl rfl (.pointer (some ⟨g2668q, 0, none⟩)) (fun _ _ => by kernel_rfl) ⟨(hS2786q.cell (i := 1) rfl), (hS2786q.cell (i := 2) rfl), (hS2786q.cell (i := 3) rfl), trivial⟩ (fun _ _ _ h_ => h_) (fun a2955q h2956q => ?_)
    clear h2798q a2797q
    refine WT.take 7 (listed' := #[true, true, true, true, true, true, true, true, false, false, false, false, false, false, false, false]) h2956q rfl rfl (by kernel_rfl) rfl rfl (.pointer (some ⟨g2668q, 0, none⟩)) (fun _ _ => by kernel_rfl) ⟨(hS2786q.cell (i := 1) rfl), (hS2786q.cell (i := 2) rfl), (hS2786q.cell (i := 3) rfl), trivial⟩ (fun _ _ _ h_ => h_) (fun a2957q h2958q => ?_)
    clear h2956q a2955q
    refine WT.take 8 (listed' := #[true, true, true, true, true, true, true, true, true, false, false, false, false, false, false, false]) h2958q rfl rfl (by kernel_rfl) rfl rfl (.pointer (some ⟨g2668q, 2, none⟩)) (fun _ _ => by kernel_rfl) ⟨(hS2786q.cell (i := 1) rfl), (hS2786q.cell (i := 2) rfl), (hS2786q.cell (i := 3) rfl), trivial⟩ (fun _ _ _ h_ => h_) (fun a2959q h2960q => ?_)
    clear h2958q a2957q
    refine WT.take 10 (listed' := #[true, true, true, true, true, true, true, true, true, false, true, false, false, false, false, false]) h2960q rfl rfl (by kernel_rfl) rfl rfl (.pointer (some ⟨g2668q, 0, none⟩)) (fun _ _ => by kernel_rfl) ⟨(hS2786q.cell (i := 1) rfl), (hS2786q.cell (i := 2) rfl), (hS2786q.cell (i := 3) rfl), trivial⟩ (fun _ _ _ h_ => h_) (fun a2961q h2962q => ?_)
    clear h2960q a2959q
    refine WT.take 11 (listed' := #[true, true, true, true, true, true, true, true, true, false, true, true, false, false, false, false]) h2962q rfl rfl (by kernel_rfl) rfl rfl (.pointer (some ⟨g2668q, 0, none⟩)) (fun _ _ => by kernel_rfl) ⟨(hS2786q.cell (i := 1) rfl), (hS2786q.cell (i := 2) rfl), (hS2786q.cell (i := 3) rfl), trivial⟩ (fun _ _ _ h_ => h_) (fun a2963q h2964q => ?_)
    clear h2962q a2961q
    refine WT.take 12 (listed' := #[true, true, true, true, true, true, true, true, true, false, true, true, true, false, false, false]) h2964q rfl rfl (by kernel_rfl) rfl rfl (.pointer (some ⟨g2668q, 3, none⟩)) (fun _ _ => by kernel_rfl) ⟨(hS2786q.cell (i := 1) rfl), (hS2786q.cell (i := 2) rfl), (hS2786q.cell (i := 3) rfl), trivial⟩ (fun _ _ _ h_ => h_) (fun a2965q h2966q => ?_)
    clear h2964q a2963q
    refine WT.take 9 (listed' := #[true, true, true, true, true, true, true, true, true, true, true, true, true, false, false, false]) h2966q rfl rfl (by kernel_rfl) rfl rfl (.int .u32 p0.f2) (fun w_ hs_ => (run_load1 rfl rfl Tryd.underlying29 rfl hs_.2.1)) ⟨(hS2786q.cell (i := 1) rfl), (hS2786q.cell (i := 2) rfl), (hS2786q.cell (i := 3) rfl), trivial⟩ (fun _ _ _ h_ => h_) (fun a2967q h2968q => ?_)
    clear h2966q a2965q
    refine WT.take 13 (listed' := #[true, true, true, true, true, true, true, true, true, true, true, true, true, true, false, false]) h2968q rfl rfl (by kernel_rfl) rfl rfl (.int .u32 p0.f3) (fun w_ hs_ => (run_load1 rfl rfl Tryd.underlying29 rfl hs_.2.2.1)) ⟨(hS2786q.cell (i := 1) rfl), (hS2786q.cell (i := 2) rfl), (hS2786q.cell (i := 3) rfl), trivial⟩ (fun _ _ _ h_ => h_) (fun a2969q h2970q => ?_)
    clear h2968q a2967q
    refine WT.take 14 (listed' := #[true, true, true, true, true, true, true, true, true, true, true, true, true, true, true, false]) h2970q rfl rfl (by kernel_rfl) rfl rfl (.bool (decide (p0.f2 < p0.f3))) (fun _ _ => by kernel_rfl) ⟨(hS2786q.cell (i := 1) rfl), (hS2786q.cell (i := 2) rfl), (hS2786q.cell (i := 3) rfl), trivial⟩ (fun _ _ _ h_ => h_) (fun a2971q h2972q => ?_)
    clear h2970q a2969q
    refine WT.take 15 (listed' := #[true, true, true, true, true, true, true, true, true, true, true, true, true, true, true, true]) h2972q rfl rfl (by kernel_rfl) rfl rfl (.bool (decide (p0.f2 < p0.f3))) (fun _ _ => by kernel_rfl) ⟨(hS2786q.cell (i := 1) rfl), (hS2786q.cell (i := 2) rfl), (hS2786q.cell (i := 3) rfl), trivial⟩ (fun _ _ _ h_ => h_) (fun a2973q h2974q => ?_)
    clear h2972q a2971q
    refine WT.done (by kernel_rfl) ?_
    have hS2975q : St b w0 W.drew R (M2670q :: [(g2668q, .cells ([v2672q, .bool p0.f1, .int .u32 p0.f2, .int .u32 p0.f3] : List Value).toArray 61 (0, 0))] :: Fs) := hS2786q.bring 1 rfl rfl
    have hS2976q : St b w0 W.drew R ([(g2668q, .cells ([v2672q, .bool p0.f1, .int .u32 p0.f2, .int .u32 p0.f3] : List Value).toArray 61 (0, 0))] :: M2670q :: Fs) := hS2975q.bring 1 rfl rfl
    obtain ⟨M2978q, hr2977q, hM_⟩ := k61qmk (b := b) (w0 := w0) (R := R) (x := p0) (gvf0 := hr2674q)
    have hp2979q : Ptr k61 61 b w0 R (.pointer (some ⟨g2668q, 0, none⟩)) p0 ((g2668q, .cells ([v2672q, .bool p0.f1, .int .u32 p0.f2, .int .u32 p0.f3] : List Value).toArray 61 (0, 0)) :: M2978q) := ⟨_, _, _, rfl, rfl, hr2977q⟩
    rw [hM_] at hp2979q
    have hS2981q : St b w0 W.drew R (((g2668q, .cells ([v2672q, .bool p0.f1, .int .u32 p0.f2, .int .u32 p0.f3] : List Value).toArray 61 (0, 0)) :: (M2670q)) :: Fs) := hS2976q.assoc (by simp only [List.flatten_cons, List.append_assoc, List.cons_append, List.nil_append, List.append_nil])
    obtain ⟨M2982q, hM_⟩ : ∃ y : Frag, y = ((g2668q, .cells ([v2672q, .bool p0.f1, .int .u32 p0.f2, .int .u32 p0.f3] : List Value).toArray 61 (0, 0)) :: (M2670q)) := ⟨_, rfl⟩
    rw [← hM_] at hp2979q hS2981q
    clear hM_
    refine wp_meet (I := fun a_ W_ => ∃ kq_, ∃ (M3026q : Frag), ∃ (x3028q : (List Int)), ∃ (A3029q : Option Addr), ∃ (c3030q : Nat), ∃ (M3031q : Frag), Hd a_ 58 [(0, .pointer (some ⟨g2668q, 0, none⟩)), (1, .slice A1 p1.length c1), (5, .slice A3029q x3028q.length c3030q)] ∧ Asd (hpack_Encoder_Put.j0 kq_ x3028q p0 p1 = some (r0q, r1q)) ∧ Asd (kq_ ≤ k) ∧ Asd (St b w0 W_ R (M3026q :: M3031q :: Fs)) ∧ Asd (Ptr k61 61 b w0 R (.pointer (some ⟨g2668q, 0, none⟩)) p0 M3026q) ∧ Asd (Row (kInt .u8) 5 b w0 R (.slice A3029q x3028q.length c3030q) x3028q M3031q)) ?_ ?_
    · by_cases c3033q : p0.f2 < p0.f3
      · rw [if_pos c3033q] at H
        have hb_ : (decide (p0.f2 < p0.f3)) = true := decide_eq_true c3033q
        try rw [hb_] at h2974q
        clear hb_
        refine wp_then h2974q rfl ?_
        refine WL.start ?_
        refine WL.block (c := 2) (m' := 2) h2974q rfl [(27, .pointer (some ⟨g2668q, 0, none⟩)), (26, .slice none 0 0)] (by kernel_rfl) (fun a3034q h3035q => ?_)
        clear h2974q a2973q
        obtain ⟨g3036q, cs3037q, M3038q, hv_, hM_, hr3039q⟩ := hp2979q
        obtain ⟨v3040q, M3041q, rfl, hM2q, hr3042q⟩ := k61qrep hr3039q
        subst hM2q
        subst hM_
        have hg_ : g2668q = g3036q := by simpa using hv_
        subst hg_
        clear hv_
        have hS3043q : St b w0 W.drew R ([(g2668q, .cells ([v3040q, .bool p0.f1, .int .u32 p0.f2, .int .u32 p0.f3] : List Value).toArray 61 (0, 0))] :: M3038q :: Fs) := hS2981q.assoc (by simp only [List.flatten_cons, List.append_assoc, List.cons_append, List.nil_append, List.append_nil])
        refine WL.block (c := 2) (m' := 4) h3035q rfl [(29, .pointer (some ⟨g2668q, 2, none⟩)), (28, .pointer (some ⟨g2668q, 0, none⟩))] (by kernel_rfl) (fun a3044q h3045q => ?_)
        clear h3035q a3034q
        refine WL.op' (m := 4) h3045q rfl rfl ?_
        refine owp_run (v := .int .u32 p0.f2) h3045q rfl (by kernel_rfl) (run_load1 rfl rfl Tryd.underlying29 rfl (hS3043q.cell (i := 2) rfl)) (fun a3046q h3047q => ?_)
        clear h3045q a3044q
        obtain ⟨r3049q, A3048q, H⟩ := bind1 H
        refine WL.op' (m := 5) h3047q rfl rfl ?_
        refine owp_call [.slice none 0 0, .int .i64 5, .int .u8 32, .int .u32 p0.f2] h3047q rfl (by kernel_rfl) rfl Tryd.func27 (by kernel_rfl) rfl (by kernel_rfl) (prefix_Put.calls k (Rds.nil (dk := (kInt .u8)) (R := R)) A3048q hS3043q) (fun e3051q W3050q hp3052q => ?_)
        obtain ⟨v3055q, M3056q, rfl, hr3057q, hS3058q⟩ := hp3052q
        refine ⟨_, rfl, fun a3053q h3054q => ?_⟩
        clear h3047q a3046q
        obtain ⟨A3059q, c3060q, rfl⟩ := hr3057q.form
        refine WL.block (c := 1) (m' := 7) h3054q rfl [(5, .slice A3059q r3049q.length c3060q)] (by kernel_rfl) (fun a3061q h3062q => ?_)
        clear h3054q a3053q
        refine WL.done (by kernel_rfl) ?_
        have hS3063q : St b w0 W3050q R (M3038q :: M3056q :: [(g2668q, .cells ([v3040q, .bool p0.f1, .int .u32 p0.f2, .int .u32 p0.f3] : List Value).toArray 61 (0, 0))] :: Fs) := hS3058q.bring 2 rfl rfl
        have hS3064q : St b w0 W3050q R ([(g2668q, .cells ([v3040q, .bool p0.f1, .int .u32 p0.f2, .int .u32 p0.f3] : List Value).toArray 61 (0, 0))] :: M3038q :: M3056q :: Fs) := hS3063q.bring 2 rfl rfl
        obtain ⟨M3066q, hr3065q, hM_⟩ := k61qmk (b := b) (w0 := w0) (R := R) (x := p0) (gvf0 := hr3042q)
        have hp3067q : Ptr k61 61 b w0 R (.pointer (some ⟨g2668q, 0, none⟩)) p0 ((g2668q, .cells ([v3040q, .bool p0.f1, .int .u32 p0.f2, .int .u32 p0.f3] : List Value).toArray 61 (0, 0)) :: M3066q) := ⟨_, _, _, rfl, rfl, hr3065q⟩
        rw [hM_] at hp3067q
        have hS3069q : St b w0 W3050q R (((g2668q, .cells ([v3040q, .bool p0.f1, .int .u32 p0.f2, .int .u32 p0.f3] : List Value).toArray 61 (0, 0)) :: (M3038q)) :: M3056q :: Fs) := hS3064q.assoc (by simp only [List.flatten_cons, List.append_assoc, List.cons_append, List.nil_append, List.append_nil])
        obtain ⟨M3070q, hM_⟩ : ∃ y : Frag, y = ((g2668q, .cells ([v3040q, .bool p0.f1, .int .u32 p0.f2, .int .u32 p0.f3] : List Value).toArray 61 (0, 0)) :: (M3038q)) := ⟨_, rfl⟩
        rw [← hM_] at hp3067q hS3069q
        clear hM_
        exact ⟨k, M3070q, r3049q, A3059q, c3060q, M3056q, h3062q.keep ⟨rfl, rfl, rfl, trivial⟩, ⟨H⟩, ⟨by omega⟩, ⟨hS3069q⟩, ⟨hp3067q⟩, ⟨hr3057q⟩⟩
      · rw [if_neg c3033q] at H
        have hb_ : (decide (p0.f2 < p0.f3)) = false := decide_eq_false c3033q
        try rw [hb_] at h2974q
        clear hb_
        refine wp_else h2974q rfl ?_
        refine wp_skip ?_
        have hS3071q : St b w0 W.drew R (([] : Frag) :: M2982q :: Fs) := hS2981q.nil_
        have hS3072q : St b w0 W.drew R (M2982q :: ([] : Frag) :: Fs) := hS3071q.bring 1 rfl rfl
        exact ⟨k, M2982q, ([] : List Int), none, 0, ([] : Frag), h2974q.keep ⟨rfl, rfl, rfl, trivial⟩, ⟨H⟩, ⟨by omega⟩, ⟨hS3072q⟩, ⟨hp2979q⟩, ⟨Row.nil⟩⟩
    · clear H hS2981q
      rintro a3022q W3023q ⟨k3025q, M3026q, x3028q, A3029q, c3030q, M3031q, h3021q, ⟨H⟩, ⟨hkk3025q⟩, ⟨hS3024q⟩, ⟨hr3027q⟩, ⟨hr3032q⟩⟩
      obtain _ | k3073q := k3025q
      · exact absurd H (by simp [hpack_Encoder_Put.j0])
      simp only [hpack_Encoder_Put.j0] at H
      refine wp_seq ?_
      refine wp_seq ?_
      refine WL.start ?_
      refine WL.block (c := 1) (m' := 1) h3021q rfl [(32, .pointer (some ⟨g2668q, 0, none⟩))] (by kernel_rfl) (fun a3074q h3075q => ?_)
      clear h3021q a3022q
      obtain ⟨g3076q, cs3077q, M3078q, hv_, hM_, hr3079q⟩ := hr3027q
      obtain ⟨v3080q, M3081q, rfl, hM2q, hr3082q⟩ := k61qrep hr3079q
      subst hM2q
      subst hM_
      have hg_ : g2668q = g3076q := by simpa using hv_
      subst hg_
      clear hv_
      have hS3083q : St b w0 W3023q R ([(g2668q, .cells ([v3080q, .bool p0.f1, .int .u32 p0.f2, .int .u32 p0.f3] : List Value).toArray 61 (0, 0))] :: M3078q :: M3031q :: Fs) := hS3024q.assoc (by simp only [List.flatten_cons, List.append_assoc, List.cons_append, List.nil_append, List.append_nil])
      refine WL.block (c := 2) (m' := 3) h3075q rfl [(34, .pointer (some ⟨g2668q, 1, none⟩)), (33, .pointer (some ⟨g2668q, 0, none⟩))] (by kernel_rfl) (fun a3084q h3085q => ?_)
      clear h3075q a3074q
      refine WL.op' (m := 3) h3085q rfl rfl ?_
      refine owp_run (v := .bool p0.f1) h3085q rfl (by kernel_rfl) (run_load1 rfl rfl Tryd.underlying4 rfl (hS3083q.cell (i := 1) rfl)) (fun a3086q h3087q => ?_)
      clear h3085q a3084q
      refine WL.block (c := 1) (m' := 5) h3087q rfl [(36, .bool (!p0.f1))] (by kernel_rfl) (fun a3088q h3089q => ?_)
      clear h3087q a3086q
      refine WL.done (by kernel_rfl) ?_
      have hS3090q : St b w0 W3023q R (M3078q :: [(g2668q, .cells ([v3080q, .bool p0.f1, .int .u32 p0.f2, .int .u32 p0.f3] : List Value).toArray 61 (0, 0))] :: M3031q :: Fs) := hS3083q.bring 1 rfl rfl
      have hS3091q : St b w0 W3023q R ([(g2668q, .cells ([v3080q, .bool p0.f1, .int .u32 p0.f2, .int .u32 p0.f3] : List Value).toArray 61 (0, 0))] :: M3078q :: M3031q :: Fs) := hS3090q.bring 1 rfl rfl
      obtain ⟨M3093q, hr3092q, hM_⟩ := k61qmk (b := b) (w0 := w0) (R := R) (x := p0) (gvf0 := hr3082q)
      have hp3094q : Ptr k61 61 b w0 R (.pointer (some ⟨g2668q, 0, none⟩)) p0 ((g2668q, .cells ([v3080q, .bool p0.f1, .int .u32 p0.f2, .int .u32 p0.f3] : List Value).toArray 61 (0, 0)) :: M3093q) := ⟨_, _, _, rfl, rfl, hr3092q⟩
      rw [hM_] at hp3094q
      have hS3096q : St b w0 W3023q R (((g2668q, .cells ([v3080q, .bool p0.f1, .int .u32 p0.f2, .int .u32 p0.f3] : List Value).toArray 61 (0, 0)) :: (M3078q)) :: M3031q :: Fs) := hS3091q.assoc (by simp only [List.flatten_cons, List.append_assoc, List.cons_append, List.nil_append, List.append_nil])
      obtain ⟨M3097q, hM_⟩ : ∃ y : Frag, y = ((g2668q, .cells ([v3080q, .bool p0.f1, .int .u32 p0.f2, .int .u32 p0.f3] : List Value).toArray 61 (0, 0)) :: (M3078q)) := ⟨_, rfl⟩
      rw [← hM_] at hp3094q hS3096q
      clear hM_
      refine wp_meet (I := fun a_ W_ => ∃ kq_, ∃ (M3143q : Frag), ∃ (x3145q : (List Int)), ∃ (A3146q : Option Addr), ∃ (c3147q : Nat), ∃ (M3148q : Frag), Hd a_ 58 [(0, .pointer (some ⟨g2668q, 0, none⟩)), (1, .slice A1 p1.length c1), (5, .slice A3146q x3145q.length c3147q)] ∧ Asd (hpack_Encoder_Put.j1 kq_ x3145q p0 p1 = some (r0q, r1q)) ∧ Asd (kq_ ≤ k3073q) ∧ Asd (St b w0 W_ R (M3143q :: M3148q :: Fs)) ∧ Asd (Ptr k61 61 b w0 R (.pointer (some ⟨g2668q, 0, none⟩)) p0 M3143q) ∧ Asd (Row (kInt .u8) 5 b w0 R (.slice A3146q x3145q.length c3147q) x3145q M3148q)) ?_ ?_
      · by_cases c3150q : p0.f1 = true
        · rw [if_pos c3150q] at H
          have hb_ : p0.f1 = true := c3150q
          try rw [hb_] at h3089q
          clear hb_
          refine wp_else h3089q rfl ?_
          refine wp_skip ?_
          exact ⟨k3073q, M3097q, x3028q, A3029q, c3030q, M3031q, h3089q.keep ⟨rfl, rfl, rfl, trivial⟩, ⟨H⟩, ⟨by omega⟩, ⟨hS3096q⟩, ⟨hp3094q⟩, ⟨hr3032q⟩⟩
        · rw [if_neg c3150q] at H
          have hb_ : p0.f1 = false := (Bool.eq_false_iff.2 c3150q)
          try rw [hb_] at h3089q
          clear hb_
          refine wp_then h3089q rfl ?_
          refine WL.start ?_
          refine WL.block (c := 2) (m' := 2) h3089q rfl [(38, .pointer (some ⟨g2668q, 0, none⟩)), (37, .slice A3029q x3028q.length c3030q)] (by kernel_rfl) (fun a3151q h3152q => ?_)
          clear h3089q a3088q
          obtain ⟨g3153q, cs3154q, M3155q, hv_, hM_, hr3156q⟩ := hp3094q
          obtain ⟨v3157q, M3158q, rfl, hM2q, hr3159q⟩ := k61qrep hr3156q
          subst hM2q
          subst hM_
          have hg_ : g2668q = g3153q := by simpa using hv_
          subst hg_
          clear hv_
          have hS3160q : St b w0 W3023q R ([(g2668q, .cells ([v3157q, .bool p0.f1, .int .u32 p0.f2, .int .u32 p0.f3] : List Value).toArray 61 (0, 0))] :: M3155q :: M3031q :: Fs) := hS3096q.assoc (by simp only [List.flatten_cons, List.append_assoc, List.cons_append, List.nil_append, List.append_nil])
          refine WL.block (c := 2) (m' := 4) h3152q rfl [(40, .pointer (some ⟨g2668q, 3, none⟩)), (39, .pointer (some ⟨g2668q, 0, none⟩))] (by kernel_rfl) (fun a3161q h3162q => ?_)
          clear h3152q a3151q
          refine WL.op' (m := 4) h3162q rfl rfl ?_
          refine owp_run (v := .int .u32 p0.f3) h3162q rfl (by kernel_rfl) (run_load1 rfl rfl Tryd.underlying29 rfl (hS3160q.cell (i := 3) rfl)) (fun a3163q h3164q => ?_)
          clear h3162q a3161q
          have hS3165q : St b w0 W3023q R (M3031q :: [(g2668q, .cells ([v3157q, .bool p0.f1, .int .u32 p0.f2, .int .u32 p0.f3] : List Value).toArray 61 (0, 0))] :: M3155q :: Fs) := hS3160q.bring 2 rfl rfl
          obtain ⟨r3167q, A3166q, H⟩ := bind1 H
          refine WL.op' (m := 5) h3164q rfl rfl ?_
          refine owp_call [.slice A3029q x3028q.length c3030q, .int .i64 5, .int .u8 32, .int .u32 p0.f3] h3164q rfl (by kernel_rfl) rfl Tryd.func27 (by kernel_rfl) rfl (by kernel_rfl) (prefix_Put.calls k3073q hr3032q.rds A3166q (hS3165q.pool)) (fun e3169q W3168q hp3170q => ?_)
          obtain ⟨v3173q, M3174q, rfl, hr3175q, hS3176q⟩ := hp3170q
          have hS3177q : St b w0 W3168q R (M3031q :: M3174q :: [(g2668q, .cells ([v3157q, .bool p0.f1, .int .u32 p0.f2, .int .u32 p0.f3] : List Value).toArray 61 (0, 0))] :: M3155q :: Fs) := hS3176q.unpool
          replace hr3175q : Row (kInt .u8) 5 b w0 R v3173q r3167q M3174q := hr3175q.ind (kInt_ind _)
          refine ⟨_, rfl, fun a3171q h3172q => ?_⟩
          clear h3164q a3163q
          obtain ⟨A3178q, c3179q, rfl⟩ := hr3175q.form
          refine WL.block (c := 1) (m' := 7) h3172q rfl [(5, .slice A3178q r3167q.length c3179q)] (by kernel_rfl) (fun a3180q h3181q => ?_)
          clear h3172q a3171q
          refine WL.done (by kernel_rfl) ?_
          have hS3182q : St b w0 W3168q R (M3155q :: M3031q :: M3174q :: [(g2668q, .cells ([v3157q, .bool p0.f1, .int .u32 p0.f2, .int .u32 p0.f3] : List Value).toArray 61 (0, 0))] :: Fs) := hS3177q.bring 3 rfl rfl
          have hS3183q : St b w0 W3168q R ([(g2668q, .cells ([v3157q, .bool p0.f1, .int .u32 p0.f2, .int .u32 p0.f3] : List Value).toArray 61 (0, 0))] :: M3155q :: M3031q :: M3174q :: Fs) := hS3182q.bring 3 rfl rfl
          obtain ⟨M3185q, hr3184q, hM_⟩ := k61qmk (b := b) (w0 := w0) (R := R) (x := p0) (gvf0 := hr3159q)
          have hp3186q : Ptr k61 61 b w0 R (.pointer (some ⟨g2668q, 0, none⟩)) p0 ((g2668q, .cells ([v3157q, .bool p0.f1, .int .u32 p0.f2, .int .u32 p0.f3] : List Value).toArray 61 (0, 0)) :: M3185q) := ⟨_, _, _, rfl, rfl, hr3184q⟩
          rw [hM_] at hp3186q
          have hS3188q : St b w0 W3168q R (((g2668q, .cells ([v3157q, .bool p0.f1, .int .u32 p0.f2, .int .u32 p0.f3] : List Value).toArray 61 (0, 0)) :: (M3155q)) :: M3031q :: M3174q :: Fs) := hS3183q.assoc (by simp only [List.flatten_cons, List.append_assoc, List.cons_append, List.nil_append, List.append_nil])
          obtain ⟨M3189q, hM_⟩ : ∃ y : Frag, y = ((g2668q, .cells ([v3157q, .bool p0.f1, .int .u32 p0.f2, .int .u32 p0.f3] : List Value).toArray 61 (0, 0)) :: (M3155q)) := ⟨_, rfl⟩
          rw [← hM_] at hp3186q hS3188q
          clear hM_
          have hS3190q : St b w0 W3168q R (M3031q :: M3189q :: M3174q :: Fs) := hS3188q.bring 1 rfl rfl
          have hS3191q : St b w0 W3168q R (M3189q :: M3174q :: Fs) := hS3190q.drop_
          exact ⟨k3073q, M3189q, r3167q, A3178q, c3179q, M3174q, h3181q.keep ⟨rfl, rfl, rfl, trivial⟩, ⟨H⟩, ⟨by omega⟩, ⟨hS3191q⟩, ⟨hp3186q⟩, ⟨hr3175q⟩⟩
      · clear H hS3096q
        rintro a3139q W3140q ⟨k3142q, M3143q, x3145q, A3146q, c3147q, M3148q, h3138q, ⟨H⟩, ⟨hkk3142q⟩, ⟨hS3141q⟩, ⟨hr3144q⟩, ⟨hr3149q⟩⟩
        obtain _ | k3192q := k3142q
        · exact absurd H (by simp [hpack_Encoder_Put.j1])
        simp only [hpack_Encoder_Put.j1] at H
        refine wp_seq ?_
        refine WL.start ?_
        refine WL.block (c := 1) (m' := 1) h3138q rfl [(43, .pointer (some ⟨g2668q, 0, none⟩))] (by kernel_rfl) (fun a3193q h3194q => ?_)
        clear h3138q a3139q
        obtain ⟨g3195q, cs3196q, M3197q, hv_, hM_, hr3198q⟩ := hr3144q
        obtain ⟨v3199q, M3200q, rfl, hM2q, hr3201q⟩ := k61qrep hr3198q
        subst hM2q
        subst hM_
        have hg_ : g2668q = g3195q := by simpa using hv_
        subst hg_
        clear hv_
        have hS3202q : St b w0 W3140q R ([(g2668q, .cells ([v3199q, .bool p0.f1, .int .u32 p0.f2, .int .u32 p0.f3] : List Value).toArray 61 (0, 0))] :: M3197q :: M3148q :: Fs) := hS3141q.assoc (by simp only [List.flatten_cons, List.append_assoc, List.cons_append, List.nil_append, List.append_nil])
        refine WL.block (c := 2) (m' := 3) h3194q rfl [(45, .pointer (some ⟨g2668q, 1, none⟩)), (44, .pointer (some ⟨g2668q, 0, none⟩))] (by kernel_rfl) (fun a3203q h3204q => ?_)
        clear h3194q a3193q
        refine WL.op' (m := 3) h3204q rfl rfl ?_
        refine owp_store (i := 1) (vs := ([.bool true] : List Value)) h3204q rfl (by kernel_rfl) rfl rfl rfl rfl (by simp [Value.oneCell']) (by kernel_rfl) hS3202q (by simp) (cs' := ([v3199q, .bool true, .int .u32 p0.f2, .int .u32 p0.f3] : List Value)) rfl (fun a3205q W3207q h3206q hS3208q => ?_)
        clear h3204q a3203q
        refine WL.done (by kernel_rfl) ?_
        refine wp_seq ?_
        refine wp_seq ?_
        refine WL.start ?_
        refine WL.block (c := 3) (m' := 3) h3206q rfl [(48, .int .i64 0), (47, .int .i64 (p1.length : Int)), (46, .slice A1 p1.length c1)] (by kernel_rfl) (fun a3209q h3210q => ?_)
        clear h3206q a3205q
        refine WL.done (by kernel_rfl) ?_
        refine wp_block ?_
        have hS3211q : St b w0 W3207q R (M3197q :: [(g2668q, .cells ([v3199q, .bool true, .int .u32 p0.f2, .int .u32 p0.f3] : List Value).toArray 61 (0, 0))] :: M3148q :: Fs) := hS3208q.bring 1 rfl rfl
        have hS3212q : St b w0 W3207q R ([(g2668q, .cells ([v3199q, .bool true, .int .u32 p0.f2, .int .u32 p0.f3] : List Value).toArray 61 (0, 0))] :: M3197q :: M3148q :: Fs) := hS3211q.bring 1 rfl rfl
        obtain ⟨M3214q, hr3213q, hM_⟩ := k61qmk (b := b) (w0 := w0) (R := R) (x := (⟨p0.f0, true, p0.f2, p0.f3⟩ : S61)) (gvf0 := hr3201q)
        have hp3215q : Ptr k61 61 b w0 R (.pointer (some ⟨g2668q, 0, none⟩)) (⟨p0.f0, true, p0.f2, p0.f3⟩ : S61) ((g2668q, .cells ([v3199q, .bool true, .int .u32 p0.f2, .int .u32 p0.f3] : List Value).toArray 61 (0, 0)) :: M3214q) := ⟨_, _, _, rfl, rfl, hr3213q⟩
        rw [hM_] at hp3215q
        have hS3217q : St b w0 W3207q R (((g2668q, .cells ([v3199q, .bool true, .int .u32 p0.f2, .int .u32 p0.f3] : List Value).toArray 61 (0, 0)) :: (M3197q)) :: M3148q :: Fs) := hS3212q.assoc (by simp only [List.flatten_cons, List.append_assoc, List.cons_append, List.nil_append, List.append_nil])
        obtain ⟨M3218q, hM_⟩ : ∃ y : Frag, y = ((g2668q, .cells ([v3199q, .bool true, .int .u32 p0.f2, .int .u32 p0.f3] : List Value).toArray 61 (0, 0)) :: (M3197q)) := ⟨_, rfl⟩
        rw [← hM_] at hp3215q hS3217q
        clear hM_
        refine wp_loop_ghost (fun kq_ a_ W_ => ∃ (x3224q : S61), ∃ (M3225q : Frag), ∃ (x3227q : (List Int)), ∃ (A3228q : Option Addr), ∃ (c3229q : Nat), ∃ (M3230q : Frag), ∃ (x3232q : Int), Hd a_ 58 [(0, .pointer (some ⟨g2668q, 0, none⟩)), (5, .slice A3228q x3227q.length c3229q), (46, .slice A1 p1.length c1), (47, .int .i64 (p1.length : Int)), (48, .int .i64 x3232q)] ∧ Asd (hpack_Encoder_Put.l2 kq_ x3224q x3227q x3232q p1 = some (r0q, r1q)) ∧ Asd (kq_ ≤ k3192q) ∧ Asd (St b w0 W_ R (M3225q :: M3230q :: Fs)) ∧ Asd (Ptr k61 61 b w0 R (.pointer (some ⟨g2668q, 0, none⟩)) x3224q M3225q) ∧ Asd (Row (kInt .u8) 5 b w0 R (.slice A3228q x3227q.length c3229q) x3227q M3230q)) k3192q ⟨(⟨p0.f0, true, p0.f2, p0.f3⟩ : S61), M3218q, x3145q, A3146q, c3147q, M3148q, 0, h3210q.keep ⟨rfl, rfl, rfl, rfl, rfl, trivial⟩, ⟨H⟩, ⟨Nat.le_refl _⟩, ⟨hS3217q⟩, ⟨hp3215q⟩, ⟨hr3149q⟩⟩ ?_
        clear H hS3217q
        rintro k3223q a3220q W3221q ⟨x3224q, M3225q, x3227q, A3228q, c3229q, M3230q, x3232q, h3219q, ⟨H⟩, ⟨hkk3223q⟩, ⟨hS3222q⟩, ⟨hr3226q⟩, ⟨hr3231q⟩⟩
        obtain _ | k3233q := k3223q
        · exact absurd H (by simp [hpack_Encoder_Put.l2])
        simp only [hpack_Encoder_Put.l2] at H
        refine wp_seq ?_
        refine WL.start ?_
        refine WL.block (c := 1) (m' := 1) h3219q rfl [(49, .bool (decide (x3232q < (p1.length : Int))))] (by kernel_rfl) (fun a3234q h3235q => ?_)
        clear h3219q a3220q
        refine WL.done (by kernel_rfl) ?_
        refine wp_seq ?_
        by_cases c3236q : x3232q < (p1.length : Int)
        · rw [if_pos c3236q] at H
          have hb_ : (decide (x3232q < (p1.length : Int))) = true := decide_eq_true c3236q
          try rw [hb_] at h3235q
          clear hb_
          refine wp_then h3235q rfl ?_
          refine wp_skip ?_
          refine wp_seq ?_
          refine wp_block ?_
          refine wp_seq ?_
          refine WL.start ?_
          by_cases c3237q : 0 ≤ x3232q
          · rw [if_pos c3237q] at H
            have hi3240q : 0 ≤ x3232q := by first | assumption | omega
            have hi3241q : x3232q < (p1.length : Int) := by first | assumption | omega
            obtain ⟨ad3238q, _, ha3239q, -, -⟩ := Rds.elemAny hp1 hi3240q (gt_get (z := z52) hi3240q hi3241q)
            refine WL.op' (m := 0) h3235q rfl rfl ?_
            refine owp_run (v := .pointer (some (ad3238q.add (x3232q.toNat * 3)))) h3235q rfl (by kernel_rfl) (run_idx (ad := ad3238q) (sz := 3) rfl (by rw [← ha3239q]; rfl) rfl Tryd.underlying23 (by kernel_rfl) hi3240q hi3241q) (fun a3242q h3243q => ?_)
            clear h3235q a3234q
            obtain ⟨ad3244q, cs3245q, ha3246q, hr3248q, hc3247q⟩ := Rds.elemAny hp1 hi3240q (gt_get (z := z52) hi3240q hi3241q)
            rw [ha3239q] at ha3246q; obtain rfl := Option.some.inj ha3246q
            obtain rfl := k52qrd hr3248q
            refine WL.op' (m := 1) h3243q rfl rfl ?_
            refine owp_run (v := .agg #[.string (mkS ((gt z52 p1 x3232q).f0)), .string (mkS ((gt z52 p1 x3232q).f1)), .bool ((gt z52 p1 x3232q).f2)]) h3243q rfl (by kernel_rfl) (run_loadN rfl rfl Tryd.underlying52 rfl (cs := ([.string (mkS ((gt z52 p1 x3232q).f0)), .string (mkS ((gt z52 p1 x3232q).f1)), .bool ((gt z52 p1 x3232q).f2)] : List Value)) (by kernel_rfl) (hc3247q _ (fun _ _ hk_ => hS3222q.kn hk_))) (fun a3249q h3250q => ?_)
            clear h3243q a3242q
            refine WL.op' (m := 2) h3250q rfl rfl ?_
            refine owp_new (fun g_ => .pointer (some ⟨g_, 0, none⟩)) (.cells ([.string (mkS ([] : List UInt8)), .string (mkS ([] : List UInt8)), .bool false] : List Value).toArray 52 (0, 0)) h3250q rfl (by kernel_rfl) (by kernel_rfl) hS3222q (fun a3251q W3253q g3254q h3252q hS3255q => ?_)
            clear h3250q a3249q
            refine WL.op' (m := 3) h3252q rfl rfl ?_
            refine owp_store (i := 0) (vs := ([.string (mkS ((gt z52 p1 x3232q).f0)), .string (mkS ((gt z52 p1 x3232q).f1)), .bool ((gt z52 p1 x3232q).f2)] : List Value)) h3252q rfl (by kernel_rfl) rfl rfl rfl rfl (by simp [Value.oneCell']) (by kernel_rfl) hS3255q (by simp) (cs' := ([.string (mkS ((gt z52 p1 x3232q).f0)), .string (mkS ((gt z52 p1 x3232q).f1)), .bool ((gt z52 p1 x3232q).f2)] : List Value)) rfl (fun a3256q W3258q h3257q hS3259q => ?_)
            clear h3252q a3251q
            refine WL.done (by kernel_rfl) ?_
            refine WL.start ?_
            refine WL.block (c := 2) (m' := 2) h3257q rfl [(53, .slice A3228q x3227q.length c3229q), (52, .pointer (some ⟨g2668q, 0, none⟩))] (by kernel_rfl) (fun a3260q h3261q => ?_)
            clear h3257q a3256q
            refine WL.op' (m := 2) h3261q rfl rfl ?_
            refine owp_run (v := .agg #[.string (mkS ((gt z52 p1 x3232q).f0)), .string (mkS ((gt z52 p1 x3232q).f1)), .bool ((gt z52 p1 x3232q).f2)]) h3261q rfl (by kernel_rfl) (run_loadN rfl rfl Tryd.underlying52 rfl (cs := ([.string (mkS ((gt z52 p1 x3232q).f0)), .string (mkS ((gt z52 p1 x3232q).f1)), .bool ((gt z52 p1 x3232q).f2)] : List Value)) (by kernel_rfl) (hS3259q.cells (vs := ([.string (mkS ((gt z52 p1 x3232q).f0)), .string (mkS ((gt z52 p1 x3232q).f1)), .bool ((gt z52 p1 x3232q).f2)] : List Value)) rfl)) (fun a3262q h3263q => ?_)
            clear h3261q a3260q
            have hS3264q : St b w0 W3258q R (M3225q :: [(g3254q, .cells ([.string (mkS ((gt z52 p1 x3232q).f0)), .string (mkS ((gt z52 p1 x3232q).f1)), .bool ((gt z52 p1 x3232q).f2)] : List Value).toArray 52 (0, 0))] :: M3230q :: Fs) := hS3259q.bring 1 rfl rfl
            have hS3265q : St b w0 W3258q R (M3230q :: M3225q :: [(g3254q, .cells ([.string (mkS ((gt z52 p1 x3232q).f0)), .string (mkS ((gt z52 p1 x3232q).f1)), .bool ((gt z52 p1 x3232q).f2)] : List Value).toArray 52 (0, 0))] :: Fs) := hS3264q.bring 2 rfl rfl
            obtain ⟨r3267q, r3268q, A3266q, H⟩ := bind2 H
            refine WL.op' (m := 3) h3263q rfl rfl ?_
            refine owp_call [.pointer (some ⟨g2668q, 0, none⟩), .slice A3228q x3227q.length c3229q, .agg #[.string (mkS ((gt z52 p1 x3232q).f0)), .string (mkS ((gt z52 p1 x3232q).f1)), .bool ((gt z52 p1 x3232q).f2)]] h3263q rfl (by kernel_rfl) rfl Tryd.func28 (by kernel_rfl) rfl (by kernel_rfl) (hpack_Encoder_field.calls (p2 := (⟨(gt z52 p1 x3232q).f0, (gt z52 p1 x3232q).f1, (gt z52 p1 x3232q).f2⟩ : S52)) k3233q (hr3226q.mono (fun _ hp_ => List.mem_append_right _ hp_)) hr3231q.rds hg0 hg1 A3266q (hS3265q.pool)) (fun e3270q W3269q hp3271q => ?_)
            obtain ⟨v3274q, M3275q, M3277q, rfl, hr3276q, hr3278q, hS3279q⟩ := hp3271q
            have hS3280q : St b w0 W3269q R (M3230q :: M3275q :: M3277q :: [(g3254q, .cells ([.string (mkS ((gt z52 p1 x3232q).f0)), .string (mkS ((gt z52 p1 x3232q).f1)), .bool ((gt z52 p1 x3232q).f2)] : List Value).toArray 52 (0, 0))] :: Fs) := hS3279q.unpool
            replace hr3276q : Row (kInt .u8) 5 b w0 R v3274q r3267q M3275q := hr3276q.ind (kInt_ind _)
            replace hr3278q : Ptr k61 61 b w0 R (.pointer (some ⟨g2668q, 0, none⟩)) r3268q M3277q := hr3278q.ind k61qind
            refine ⟨_, rfl, fun a3272q h3273q => ?_⟩
            clear h3263q a3262q
            obtain ⟨A3281q, c3282q, rfl⟩ := hr3276q.form
            refine WL.block (c := 1) (m' := 5) h3273q rfl [(5, .slice A3281q r3267q.length c3282q)] (by kernel_rfl) (fun a3283q h3284q => ?_)
            clear h3273q a3272q
            refine WL.done (by kernel_rfl) ?_
            refine WL.start ?_
            refine WL.block (c := 2) (m' := 2) h3284q rfl [(48, .int .i64 (IntKind.i64.wrap (x3232q + 1))), (56, .int .i64 (IntKind.i64.wrap (x3232q + 1)))] (by kernel_rfl) (fun a3285q h3286q => ?_)
            clear h3284q a3283q
            refine WL.done (by kernel_rfl) ?_
            have hS3287q : St b w0 W3269q R (M3275q :: M3277q :: [(g3254q, .cells ([.string (mkS ((gt z52 p1 x3232q).f0)), .string (mkS ((gt z52 p1 x3232q).f1)), .bool ((gt z52 p1 x3232q).f2)] : List Value).toArray 52 (0, 0))] :: Fs) := hS3280q.drop_
            have hS3288q : St b w0 W3269q R ([(g3254q, .cells ([.string (mkS ((gt z52 p1 x3232q).f0)), .string (mkS ((gt z52 p1 x3232q).f1)), .bool ((gt z52 p1 x3232q).f2)] : List Value).toArray 52 (0, 0))] :: M3275q :: M3277q :: Fs) := hS3287q.bring 2 rfl rfl
            have hS3289q : St b w0 W3269q R (M3275q :: M3277q :: Fs) := hS3288q.drop_
            have hS3290q : St b w0 W3269q R (M3277q :: M3275q :: Fs) := hS3289q.bring 1 rfl rfl
            exact ⟨k3233q, by omega, r3268q, M3277q, r3267q, A3281q, c3282q, M3275q, IntKind.i64.wrap (x3232q + 1), h3286q.keep ⟨rfl, rfl, rfl, rfl, rfl, trivial⟩, ⟨H⟩, ⟨by omega⟩, ⟨hS3290q⟩, ⟨hr3278q⟩, ⟨hr3276q⟩⟩
          · rw [if_neg c3237q] at H
            cases H
        · rw [if_neg c3236q] at H
          have hb_ : (decide (x3232q < (p1.length : Int))) = false := decide_eq_false c3236q
          try rw [hb_] at h3235q
          clear hb_
          refine wp_else h3235q rfl ?_
          refine wp_exit ?_
          refine wp_seq ?_
          refine WL.start ?_
          refine WL.block (c := 2) (m' := 2) h3235q rfl [(4, .slice A3228q x3227q.length c3229q), (57, .slice A3228q x3227q.length c3229q)] (by kernel_rfl) (fun a3291q h3292q => ?_)
          clear h3235q a3234q
          refine WL.done (by kernel_rfl) ?_
          refine wp_ret ?_
          have hS3293q : St b w0 W3221q R (M3230q :: M3225q :: Fs) := hS3222q.bring 1 rfl rfl
          obtain ⟨rfl, rfl⟩ := ret2 H
          repeat (first | refine then_ret ?_ | refine inBlock_ret ?_ | refine inBlock_go ?_)
          refine body_ret (v := .slice A3228q x3227q.length c3229q) h3292q (by kernel_rfl) (by kernel_rfl) ?_
          exact ⟨.slice A3228q x3227q.length c3229q, M3230q, M3225q, rfl, hr3231q, hr3226q, hS3293q⟩

/-! ### (*louver/hpack.Encoder).Put -/
def hpack_Encoder_Put_nil.f (p1 : (List S52)) : Option ((List Int)) := some ([] : List Int)
set_option maxHeartbeats 2000000 in
set_option maxRecDepth 100000 in
theorem hpack_Encoder_Put_nil.calls {b : Nat} {w0 W : World} {R : Frag} {Fs : List Frag} {p1 : (List S52)} {v1 : Value} {r0q : (List Int)} (hp1 : Rds k52 b w0 R v1 p1) (hg0 : Rds k52 b w0 [] (.slice (some ⟨0, 0, none⟩) 61 61) G0) (hg1 : Rds (kInt .u8) b w0 [] (.slice (some ⟨1, 0, none⟩) 257 257) G1) (H : hpack_Encoder_Put_nil.f p1 = some r0q) (hS : St b w0 W R (Fs)) :
    Calls Tryd.prog 13 ([.pointer none, v1] : List Value).toArray W (fun e W' => ∃ (u0q : Value) (N0q : Frag), e = .returned (u0q) ∧ Row (kInt .u8) 5 b w0 R u0q r0q N0q ∧ St b w0 W' R (N0q :: Fs)) := by
  obtain ⟨A1, c1, rfl⟩ := hp1.form
  unfold hpack_Encoder_Put_nil.f at H
  refine calls_enter Tryd.func13 rfl 58 rfl (by kernel_rfl) (fun a h => ?_)
  refine wp_seq ?_
  refine WL.start ?_
  refine WL.block (c := 1) (m' := 1) h rfl [(4, .slice none 0 0)] (by kernel_rfl) (fun a7q h8q => ?_)
  refine WL.done (by kernel_rfl) ?_
  refine wp_seq ?_
  refine wp_seq ?_
  refine WL.start ?_
  refine WL.block (c := 2) (m' := 2) h8q rfl [(9, .bool true), (8, .pointer none)] (by kernel_rfl) (fun a9q h10q => ?_)
  clear h8q a7q
  refine WL.done (by kernel_rfl) ?_
  refine wp_then h10q rfl ?_
  refine wp_seq ?_
  refine WL.start ?_
  refine WL.block (c := 1) (m' := 1) h10q rfl [(4, .slice none 0 0)] (by kernel_rfl) (fun a11q h12q => ?_)
  clear h10q a9q
  refine WL.done (by kernel_rfl) ?_
  refine wp_ret ?_
  obtain rfl := Option.some.inj H
  repeat (first | refine then_ret ?_ | refine inBlock_ret ?_ | refine inBlock_go ?_)
  refine body_ret (v := .slice none 0 0) h12q (by kernel_rfl) (by kernel_rfl) ?_
  exact ⟨.slice none 0 0, [], rfl, Row.nil, hS.nil_⟩

/-! ### louver/louverlaw06.fixed -/
def louverlaw06qfixed.f (k : Nat)  : Option (Bool) := bnd1 (hpack_NewEncoder.f 4096) fun r58q => (bnd2 (hpack_Encoder_Put.f k r58q ([(⟨([58, 109, 101, 116, 104, 111, 100] : List UInt8), ([71, 69, 84] : List UInt8), false⟩ : S52)] : List S52)) fun r83q r84q => (some (decide ((toS r83q) = ([130] : List UInt8)))))
set_option maxHeartbeats 2000000 in
set_option maxRecDepth 100000 in
theorem louverlaw06qfixed.calls (k : Nat) {b : Nat} {w0 W : World} {R : Frag} {Fs : List Frag}   {r0q : Bool} (hg0 : Rds k52 b w0 [] (.slice (some ⟨0, 0, none⟩) 61 61) G0) (hg1 : Rds (kInt .u8) b w0 [] (.slice (some ⟨1, 0, none⟩) 257 257) G1) (H : louverlaw06qfixed.f k = some r0q) (hS : St b w0 W R (Fs)) :
    Calls Tryd.prog 10 ([] : List Value).toArray W (fun e W' => e = .returned (.bool r0q) ∧ St b w0 W' R (Fs)) := by
  unfold louverlaw06qfixed.f at H
  refine calls_enter Tryd.func10 rfl 9 rfl (by kernel_rfl) (fun a h => ?_)
  refine wp_seq ?_
  refine WL.start ?_
  refine WL.block (c := 1) (m' := 1) h rfl [(0, .bool false)] (by kernel_rfl) (fun a55q h56q => ?_)
  refine WL.done (by kernel_rfl) ?_
  refine wp_seq ?_
  refine WL.start ?_
  obtain ⟨r58q, A57q, H⟩ := bind1 H
  refine WL.op' (m := 0) h56q rfl rfl ?_
  refine owp_call [.int .u32 4096] h56q rfl (by kernel_rfl) rfl Tryd.func17 (by kernel_rfl) rfl (by kernel_rfl) (hpack_NewEncoder.calls  A57q hS) (fun e60q W59q hp61q => ?_)
  obtain ⟨v64q, M65q, rfl, hr66q, hS67q⟩ := hp61q
  refine ⟨_, rfl, fun a62q h63q => ?_⟩
  clear h56q a55q
  obtain ⟨g68q, rfl⟩ := hr66q.ptr_form
  refine WL.block (c := 1) (m' := 2) h63q rfl [(1, .pointer (some ⟨g68q, 0, none⟩))] (by kernel_rfl) (fun a69q h70q => ?_)
  clear h63q a62q
  refine WL.done (by kernel_rfl) ?_
  refine wp_seq ?_
  refine WL.start ?_
  refine WL.block (c := 2) (m' := 2) h70q rfl [(4, .agg #[.string (mkS ([58, 109, 101, 116, 104, 111, 100] : List UInt8)), .string (mkS ([71, 69, 84] : List UInt8)), .bool false]), (3, .pointer (some ⟨g68q, 0, none⟩))] (by kernel_rfl) (fun a71q h72q => ?_)
  clear h70q a69q
  obtain ⟨_, hrep_, hMe_⟩ := k52qmk (b := b) (w0 := w0) (R := R) (x := (⟨([58, 109, 101, 116, 104, 111, 100] : List UInt8), ([71, 69, 84] : List UInt8), false⟩ : S52)) 
  subst hMe_
  have hq73q := hrep_; clear hrep_
  refine WL.op' (m := 2) h72q rfl rfl ?_
  refine owp_new (fun g_ => .slice (some ⟨g_, 0, none⟩) 1 1) (.cells ([.string (mkS ([58, 109, 101, 116, 104, 111, 100] : List UInt8)), .string (mkS ([71, 69, 84] : List UInt8)), .bool false] : List Value).toArray 52 (0, 0)) h72q rfl (by kernel_rfl) (by kernel_rfl) hS67q (fun a74q W76q g77q h75q hS78q => ?_)
  clear h72q a71q
  have hr79q : Row k52 52 b w0 R (.slice (some ⟨g77q, 0, none⟩) 1 1) ([(⟨([58, 109, 101, 116, 104, 111, 100] : List UInt8), ([71, 69, 84] : List UInt8), false⟩ : S52)] : List S52) [(g77q, .cells ([.string (mkS ([58, 109, 101, 116, 104, 111, 100] : List UInt8)), .string (mkS ([71, 69, 84] : List UInt8)), .bool false] : List Value).toArray 52 (0, 0))] := Row.lit (xs := ([(⟨([58, 109, 101, 116, 104, 111, 100] : List UInt8), ([71, 69, 84] : List UInt8), false⟩ : S52)] : List S52)) (Mi := []) ⟨_, _, [], _, rfl, rfl, hq73q, ⟨rfl, rfl⟩⟩ (by simp [maxLen])
  have hS80q : St b w0 W76q R (M65q :: [(g77q, .cells ([.string (mkS ([58, 109, 101, 116, 104, 111, 100] : List UInt8)), .string (mkS ([71, 69, 84] : List UInt8)), .bool false] : List Value).toArray 52 (0, 0))] :: Fs) := hS78q.bring 1 rfl rfl
  have hS81q : St b w0 W76q R ([(g77q, .cells ([.string (mkS ([58, 109, 101, 116, 104, 111, 100] : List UInt8)), .string (mkS ([71, 69, 84] : List UInt8)), .bool false] : List Value).toArray 52 (0, 0))] :: M65q :: Fs) := hS80q.bring 1 rfl rfl
  obtain ⟨r83q, r84q, A82q, H⟩ := bind2 H
  refine WL.op' (m := 3) h75q rfl rfl ?_
  refine owp_call [.pointer (some ⟨g68q, 0, none⟩), .slice (some ⟨g77q, 0, none⟩) 1 1] h75q rfl (by kernel_rfl) rfl Tryd.func13 (by kernel_rfl) rfl (by kernel_rfl) (hpack_Encoder_Put.calls k (hr66q.mono (fun _ hp_ => List.mem_append_right _ hp_)) hr79q.rds hg0 hg1 A82q (hS81q.pool)) (fun e86q W85q hp87q => ?_)
  obtain ⟨v90q, M91q, M93q, rfl, hr92q, hr94q, hS95q⟩ := hp87q
  have hS96q : St b w0 W85q R ([(g77q, .cells ([.string (mkS ([58, 109, 101, 116, 104, 111, 100] : List UInt8)), .string (mkS ([71, 69, 84] : List UInt8)), .bool false] : List Value).toArray 52 (0, 0))] :: M91q :: M93q :: Fs) := hS95q.unpool
  replace hr92q : Row (kInt .u8) 5 b w0 R v90q r83q M91q := hr92q.ind (kInt_ind _)
  replace hr94q : Ptr k61 61 b w0 R (.pointer (some ⟨g68q, 0, none⟩)) r84q M93q := hr94q.ind k61qind
  refine ⟨_, rfl, fun a88q h89q => ?_⟩
  clear h75q a74q
  obtain ⟨A97q, c98q, rfl⟩ := hr92q.form
  have hS99q : St b w0 W85q R (M91q :: [(g77q, .cells ([.string (mkS ([58, 109, 101, 116, 104, 111, 100] : List UInt8)), .string (mkS ([71, 69, 84] : List UInt8)), .bool false] : List Value).toArray 52 (0, 0))] :: M93q :: Fs) := hS96q.bring 1 rfl rfl
  refine WL.op' (m := 4) h89q rfl rfl ?_
  refine owp_run (v := .string (mkS (toS r83q))) h89q rfl (by kernel_rfl) (run_tostr rfl rfl hr92q.rds (fun _ _ hk_ => (hS99q).pool.kn hk_) Tryd.underlying22 Tryd.underlying5 Tryd.underlying9) (fun a100q h101q => ?_)
  clear h89q a88q
  refine WL.op' (m := 5) h101q rfl rfl ?_
  refine owp_run (v := .bool (decide ((toS r83q) = ([130] : List UInt8)))) h101q rfl (by kernel_rfl) (run_streq rfl rfl rfl) (fun a102q h103q => ?_)
  clear h101q a100q
  refine WL.block (c := 1) (m' := 7) h103q rfl [(0, .bool (decide ((toS r83q) = ([130] : List UInt8))))] (by kernel_rfl) (fun a104q h105q => ?_)
  clear h103q a102q
  refine WL.done (by kernel_rfl) ?_
  refine wp_ret ?_
  have hS106q : St b w0 W85q R ([(g77q, .cells ([.string (mkS ([58, 109, 101, 116, 104, 111, 100] : List UInt8)), .string (mkS ([71, 69, 84] : List UInt8)), .bool false] : List Value).toArray 52 (0, 0))] :: M93q :: Fs) := hS99q.drop_
  have hS107q : St b w0 W85q R (M93q :: Fs) := hS106q.drop_
  have hS108q : St b w0 W85q R (Fs) := hS107q.drop_
  obtain rfl := Option.some.inj H
  repeat (first | refine then_ret ?_ | refine inBlock_ret ?_ | refine inBlock_go ?_)
  refine body_ret (v := .bool (decide ((toS r83q) = ([130] : List UInt8)))) h105q (by kernel_rfl) (by kernel_rfl) ?_
  exact ⟨rfl, hS108q⟩

/-! ### (*louver/dyntable.Table).Limit -/
def dyntable_Table_Limit.f (k : Nat) (p0 : S79) (p1 : Int) : Option (S79) := bnd1 (dyntable_Table_within.f k (⟨p0.f0, p0.f1, IntKind.i64.wrap p1⟩ : S79) 0) fun r88q => (some r88q)
set_option maxHeartbeats 2000000 in
set_option maxRecDepth 100000 in
theorem dyntable_Table_Limit.calls (k : Nat) {b : Nat} {w0 W : World} {R : Frag} {Fs : List Frag} {p0 : S79} {p1 : Int}  {v0 : Value} {M0 : Frag} {r0q : S79} (hp0 : Ptr k79 79 b w0 R v0 p0 M0) (H : dyntable_Table_Limit.f k p0 p1 = some r0q) (hS : St b w0 W R (M0 :: Fs)) :
    Calls Tryd.prog 24 ([v0, .int .u32 p1] : List Value).toArray W (fun e W' => ∃ (O0q : Frag), e = .returned (.tuple #[]) ∧ Ptr k79 79 b w0 R v0 r0q O0q ∧ St b w0 W' R (O0q :: Fs)) := by
  unfold dyntable_Table_Limit.f at H
  refine calls_enter Tryd.func24 rfl 13 rfl (by kernel_rfl) (fun a h => ?_)
  refine wp_seq ?_
  refine wp_seq ?_
  refine WL.start ?_
  refine WL.block (c := 1) (m' := 1) h rfl [(4, v0)] (by kernel_rfl) (fun a57q h58q => ?_)
  obtain ⟨g59q, cs60q, M61q, hv_, hM_, hr62q⟩ := hp0
  obtain ⟨v63q, M64q, rfl, hM2q, hr65q⟩ := k79qrep hr62q
  subst hM2q
  subst hM_
  subst hv_
  replace hr65q : Row k52 52 b w0 R v63q p0.f0 M61q := hr65q
  obtain ⟨A66q, c67q, rfl⟩ := hr65q.form
  have hS68q : St b w0 W R ([(g59q, .cells ([.slice A66q p0.f0.length c67q, .int .i64 p0.f1, .int .i64 p0.f2] : List Value).toArray 79 (0, 0))] :: M61q :: Fs) := hS.assoc (by simp only [List.flatten_cons, List.append_assoc, List.cons_append, List.nil_append, List.append_nil])
  refine WL.block (c := 1) (m' := 2) h58q rfl [(5, .bool false)] (by kernel_rfl) (fun a69q h70q => ?_)
  clear h58q a57q
  refine WL.done (by kernel_rfl) ?_
  refine wp_else h70q rfl ?_
  refine wp_skip ?_
  refine wp_seq ?_
  refine WL.start ?_
  refine WL.block (c := 5) (m' := 5) h70q rfl [(10, .pointer (some ⟨g59q, 2, none⟩)), (9, .pointer (some ⟨g59q, 0, none⟩)), (8, .int .i64 (IntKind.i64.wrap p1)), (7, .int .u32 p1), (6, .pointer (some ⟨g59q, 0, none⟩))] (by kernel_rfl) (fun a71q h72q => ?_)
  clear h70q a69q
  refine WL.op' (m := 5) h72q rfl rfl ?_
  refine owp_store (i := 2) (vs := ([.int .i64 (IntKind.i64.wrap p1)] : List Value)) h72q rfl (by kernel_rfl) rfl rfl rfl rfl (by simp [Value.oneCell']) (by kernel_rfl) hS68q (by simp) (cs' := ([.slice A66q p0.f0.length c67q, .int .i64 p0.f1, .int .i64 (IntKind.i64.wrap p1)] : List Value)) rfl (fun a73q W75q h74q hS76q => ?_)
  clear h72q a71q
  refine WL.done (by kernel_rfl) ?_
  refine WL.start ?_
  refine WL.block (c := 1) (m' := 1) h74q rfl [(11, .pointer (some ⟨g59q, 0, none⟩))] (by kernel_rfl) (fun a77q h78q => ?_)
  clear h74q a73q
  have hS79q : St b w0 W75q R (M61q :: [(g59q, .cells ([.slice A66q p0.f0.length c67q, .int .i64 p0.f1, .int .i64 (IntKind.i64.wrap p1)] : List Value).toArray 79 (0, 0))] :: Fs) := hS76q.bring 1 rfl rfl
  have hS80q : St b w0 W75q R ([(g59q, .cells ([.slice A66q p0.f0.length c67q, .int .i64 p0.f1, .int .i64 (IntKind.i64.wrap p1)] : List Value).toArray 79 (0, 0))] :: M61q :: Fs) := hS79q.bring 1 rfl rfl
  obtain ⟨M82q, hr81q, hM_⟩ := k79qmk (b := b) (w0 := w0) (R := R) (x := (⟨p0.f0, p0.f1, IntKind.i64.wrap p1⟩ : S79)) (gvf0 := hr65q)
  have hp83q : Ptr k79 79 b w0 R (.pointer (some ⟨g59q, 0, none⟩)) (⟨p0.f0, p0.f1, IntKind.i64.wrap p1⟩ : S79) ((g59q, .cells ([.slice A66q p0.f0.length c67q, .int .i64 p0.f1, .int .i64 (IntKind.i64.wrap p1)] : List Value).toArray 79 (0, 0)) :: M82q) := ⟨_, _, _, rfl, rfl, hr81q⟩
  rw [hM_] at hp83q
  have hS85q : St b w0 W75q R (((g59q, .cells ([.slice A66q p0.f0.length c67q, .int .i64 p0.f1, .int .i64 (IntKind.i64.wrap p1)] : List Value).toArray 79 (0, 0)) :: (M61q)) :: Fs) := hS80q.assoc (by simp only [List.flatten_cons, List.append_assoc, List.cons_append, List.nil_append, List.append_nil])
  obtain ⟨M86q, hM_⟩ : ∃ y : Frag, y = ((g59q, .cells ([.slice A66q p0.f0.length c67q, .int .i64 p0.f1, .int .i64 (IntKind.i64.wrap p1)] : List Value).toArray 79 (0, 0)) :: (M61q)) := ⟨_, rfl⟩
  rw [← hM_] at hp83q hS85q
  clear hM_
  obtain ⟨r88q, A87q, H⟩ := bind1 H
  refine WL.op' (m := 1) h78q rfl rfl ?_
  refine owp_call [.pointer (some ⟨g59q, 0, none⟩), .int .i64 0] h78q rfl (by kernel_rfl) rfl Tryd.func35 (by kernel_rfl) rfl (by kernel_rfl) (dyntable_Table_within.calls k hp83q A87q hS85q) (fun e90q W89q hp91q => ?_)
  obtain ⟨M94q, rfl, hr95q, hS96q⟩ := hp91q
  refine ⟨_, rfl, fun a92q h93q => ?_⟩
  clear h78q a77q
  refine WL.done (by kernel_rfl) ?_
  obtain rfl := Option.some.inj H
  repeat (first | refine then_go ?_ | refine inBlock_go ?_)
  refine body_end (v := .tuple #[]) h93q (by kernel_rfl) (by kernel_rfl) ?_
  exact ⟨M94q, rfl, hr95q, hS96q⟩

/-! ### (*louver/hpack.Encoder).Limit -/
def hpack_Encoder_Limit.f (k : Nat) (p0 : S61) (p1 : Int) : Option (S61) := if p0.f1 = true then (bnd1 (dyntable_Table_Limit.f k p0.f0 (mnI p1 4096)) fun r188q => (some (⟨r188q, false, mnI (mnI p1 4096) (mnI p1 4096), mnI p1 4096⟩ : S61))) else (bnd1 (dyntable_Table_Limit.f k p0.f0 (mnI p1 4096)) fun r228q => (some (⟨r228q, p0.f1, mnI p0.f2 (mnI p1 4096), mnI p1 4096⟩ : S61)))
set_option maxHeartbeats 2000000 in
set_option maxRecDepth 100000 in
theorem hpack_Encoder_Limit.calls (k : Nat) {b : Nat} {w0 W : World} {R : Frag} {Fs : List Frag} {p0 : S61} {p1 : Int}  {v0 : Value} {M0 : Frag} {r0q : S61} (hp0 : Ptr k61 61 b w0 R v0 p0 M0) (H : hpack_Encoder_Limit.f k p0 p1 = some r0q) (hS : St b w0 W R (M0 :: Fs)) :
    Calls Tryd.prog 11 ([v0, .int .u32 p1] : List Value).toArray W (fun e W' => ∃ (O0q : Frag), e = .returned (.tuple #[]) ∧ Ptr k61 61 b w0 R v0 r0q O0q ∧ St b w0 W' R (O0q :: Fs)) := by
  unfold hpack_Encoder_Limit.f at H
  refine calls_enter Tryd.func11 rfl 38 rfl (by kernel_rfl) (fun a h => ?_)
  refine wp_seq ?_
  refine wp_seq ?_
  refine WL.start ?_
  refine WL.block (c := 1) (m' := 1) h rfl [(4, v0)] (by kernel_rfl) (fun a133q h134q => ?_)
  obtain ⟨g135q, cs136q, M137q, hv_, hM_, hr138q⟩ := hp0
  obtain ⟨v139q, M140q, rfl, hM2q, hr141q⟩ := k61qrep hr138q
  subst hM2q
  subst hM_
  subst hv_
  have hS142q : St b w0 W R ([(g135q, .cells ([v139q, .bool p0.f1, .int .u32 p0.f2, .int .u32 p0.f3] : List Value).toArray 61 (0, 0))] :: M137q :: Fs) := hS.assoc (by simp only [List.flatten_cons, List.append_assoc, List.cons_append, List.nil_append, List.append_nil])
  refine WL.block (c := 1) (m' := 2) h134q rfl [(5, .bool false)] (by kernel_rfl) (fun a143q h144q => ?_)
  clear h134q a133q
  refine WL.done (by kernel_rfl) ?_
  refine wp_else h144q rfl ?_
  refine wp_skip ?_
  refine wp_seq ?_
  refine WL.start ?_
  refine WL.block (c := 3) (m' := 3) h144q rfl [(1, .int .u32 (mnI p1 4096)), (7, .int .u32 (mnI p1 4096)), (6, .int .u32 p1)] (by kernel_rfl) (fun a145q h146q => ?_)
  clear h144q a143q
  refine WL.done (by kernel_rfl) ?_
  refine wp_seq ?_
  refine wp_seq ?_
  refine WL.start ?_
  refine WL.block (c := 3) (m' := 3) h146q rfl [(10, .pointer (some ⟨g135q, 1, none⟩)), (9, .pointer (some ⟨g135q, 0, none⟩)), (8, .pointer (some ⟨g135q, 0, none⟩))] (by kernel_rfl) (fun a147q h148q => ?_)
  clear h146q a145q
  refine WL.op' (m := 3) h148q rfl rfl ?_
  refine owp_run (v := .bool p0.f1) h148q rfl (by kernel_rfl) (run_load1 rfl rfl Tryd.underlying4 rfl (hS142q.cell (i := 1) rfl)) (fun a149q h150q => ?_)
  clear h148q a147q
  refine WL.done (by kernel_rfl) ?_
  by_cases c151q : p0.f1 = true
  · rw [if_pos c151q] at H
    have hb_ : p0.f1 = true := c151q
    try rw [hb_] at h150q
    clear hb_
    refine wp_then h150q rfl ?_
    refine WL.start ?_
    refine WL.block (c := 5) (m' := 5) h150q rfl [(16, .pointer (some ⟨g135q, 1, none⟩)), (15, .pointer (some ⟨g135q, 0, none⟩)), (14, .int .u32 (mnI p1 4096)), (13, .pointer (some ⟨g135q, 0, none⟩)), (12, .pointer (some ⟨g135q, 0, none⟩))] (by kernel_rfl) (fun a152q h153q => ?_)
    clear h150q a149q
    refine WL.op' (m := 5) h153q rfl rfl ?_
    refine owp_store (i := 1) (vs := ([.bool false] : List Value)) h153q rfl (by kernel_rfl) rfl rfl rfl rfl (by simp [Value.oneCell']) (by kernel_rfl) hS142q (by simp) (cs' := ([v139q, .bool false, .int .u32 p0.f2, .int .u32 p0.f3] : List Value)) rfl (fun a154q W156q h155q hS157q => ?_)
    clear h153q a152q
    refine WL.block (c := 2) (m' := 8) h155q rfl [(18, .pointer (some ⟨g135q, 2, none⟩)), (17, .pointer (some ⟨g135q, 0, none⟩))] (by kernel_rfl) (fun a158q h159q => ?_)
    clear h155q a154q
    refine WL.op' (m := 8) h159q rfl rfl ?_
    refine owp_store (i := 2) (vs := ([.int .u32 (mnI p1 4096)] : List Value)) h159q rfl (by kernel_rfl) rfl rfl rfl rfl (by simp [Value.oneCell']) (by kernel_rfl) hS157q (by simp) (cs' := ([v139q, .bool false, .int .u32 (mnI p1 4096), .int .u32 p0.f3] : List Value)) rfl (fun a160q W162q h161q hS163q => ?_)
    clear h159q a158q
    refine WL.done (by kernel_rfl) ?_
    refine wp_seq ?_
    refine WL.start ?_
    refine WL.block (c := 5) (m' := 5) h161q rfl [(23, .pointer (some ⟨g135q, 2, none⟩)), (22, .pointer (some ⟨g135q, 0, none⟩)), (21, .pointer (some ⟨g135q, 0, none⟩)), (20, .pointer (some ⟨g135q, 0, none⟩)), (19, .pointer (some ⟨g135q, 0, none⟩))] (by kernel_rfl) (fun a164q h165q => ?_)
    clear h161q a160q
    refine WL.op' (m := 5) h165q rfl rfl ?_
    refine owp_run (v := .int .u32 (mnI p1 4096)) h165q rfl (by kernel_rfl) (run_load1 rfl rfl Tryd.underlying29 rfl (hS163q.cell (i := 2) rfl)) (fun a166q h167q => ?_)
    clear h165q a164q
    refine WL.block (c := 5) (m' := 11) h167q rfl [(29, .pointer (some ⟨g135q, 2, none⟩)), (28, .pointer (some ⟨g135q, 0, none⟩)), (27, .int .u32 (mnI p1 4096)), (26, .int .u32 (mnI (mnI p1 4096) (mnI p1 4096))), (25, .int .u32 (mnI p1 4096))] (by kernel_rfl) (fun a168q h169q => ?_)
    clear h167q a166q
    refine WL.op' (m := 11) h169q rfl rfl ?_
    refine owp_store (i := 2) (vs := ([.int .u32 (mnI (mnI p1 4096) (mnI p1 4096))] : List Value)) h169q rfl (by kernel_rfl) rfl rfl rfl rfl (by simp [Value.oneCell']) (by kernel_rfl) hS163q (by simp) (cs' := ([v139q, .bool false, .int .u32 (mnI (mnI p1 4096) (mnI p1 4096)), .int .u32 p0.f3] : List Value)) rfl (fun a170q W172q h171q hS173q => ?_)
    clear h169q a168q
    refine WL.block (c := 2) (m' := 14) h171q rfl [(31, .pointer (some ⟨g135q, 3, none⟩)), (30, .pointer (some ⟨g135q, 0, none⟩))] (by kernel_rfl) (fun a174q h175q => ?_)
    clear h171q a170q
    refine WL.op' (m := 14) h175q rfl rfl ?_
    refine owp_store (i := 3) (vs := ([.int .u32 (mnI p1 4096)] : List Value)) h175q rfl (by kernel_rfl) rfl rfl rfl rfl (by simp [Value.oneCell']) (by kernel_rfl) hS173q (by simp) (cs' := ([v139q, .bool false, .int .u32 (mnI (mnI p1 4096) (mnI p1 4096)), .int .u32 (mnI p1 4096)] : List Value)) rfl (fun a176q W178q h177q hS179q => ?_)
    clear h175q a174q
    refine WL.done (by kernel_rfl) ?_
    refine WL.start ?_
    refine WL.block (c := 3) (m' := 3) h177q rfl [(34, .pointer (some ⟨g135q, 0, none⟩)), (33, .pointer (some ⟨g135q, 0, none⟩)), (32, .pointer (some ⟨g135q, 0, none⟩))] (by kernel_rfl) (fun a180q h181q => ?_)
    clear h177q a176q
    refine WL.op' (m := 3) h181q rfl rfl ?_
    refine owp_run (v := v139q) h181q rfl (by kernel_rfl) (run_load1 rfl rfl Tryd.underlying59 rfl (hS179q.cell (i := 0) rfl)) (fun a182q h183q => ?_)
    clear h181q a180q
    refine WL.block (c := 1) (m' := 5) h183q rfl [(36, .int .u32 (mnI p1 4096))] (by kernel_rfl) (fun a184q h185q => ?_)
    clear h183q a182q
    have hS186q : St b w0 W178q R (M137q :: [(g135q, .cells ([v139q, .bool false, .int .u32 (mnI (mnI p1 4096) (mnI p1 4096)), .int .u32 (mnI p1 4096)] : List Value).toArray 61 (0, 0))] :: Fs) := hS179q.bring 1 rfl rfl
    obtain ⟨r188q, A187q, H⟩ := bind1 H
    refine WL.op' (m := 5) h185q rfl rfl ?_
    refine owp_call [v139q, .int .u32 (mnI p1 4096)] h185q rfl (by kernel_rfl) rfl Tryd.func24 (by kernel_rfl) rfl (by kernel_rfl) (dyntable_Table_Limit.calls k hr141q A187q hS186q) (fun e190q W189q hp191q => ?_)
    obtain ⟨M194q, rfl, hr195q, hS196q⟩ := hp191q
    refine ⟨_, rfl, fun a192q h193q => ?_⟩
    clear h185q a184q
    refine WL.done (by kernel_rfl) ?_
    have hS197q : St b w0 W189q R ([(g135q, .cells ([v139q, .bool false, .int .u32 (mnI (mnI p1 4096) (mnI p1 4096)), .int .u32 (mnI p1 4096)] : List Value).toArray 61 (0, 0))] :: M194q :: Fs) := hS196q.bring 1 rfl rfl
    obtain ⟨M199q, hr198q, hM_⟩ := k61qmk (b := b) (w0 := w0) (R := R) (x := (⟨r188q, false, mnI (mnI p1 4096) (mnI p1 4096), mnI p1 4096⟩ : S61)) (gvf0 := hr195q)
    have hp200q : Ptr k61 61 b w0 R (.pointer (some ⟨g135q, 0, none⟩)) (⟨r188q, false, mnI (mnI p1 4096) (mnI p1 4096), mnI p1 4096⟩ : S61) ((g135q, .cells ([v139q, .bool false, .int .u32 (mnI (mnI p1 4096) (mnI p1 4096)), .int .u32 (mnI p1 4096)] : List Value).toArray 61 (0, 0)) :: M199q) := ⟨_, _, _, rfl, rfl, hr198q⟩
    rw [hM_] at hp200q
    have hS202q : St b w0 W189q R (((g135q, .cells ([v139q, .bool false, .int .u32 (mnI (mnI p1 4096) (mnI p1 4096)), .int .u32 (mnI p1 4096)] : List Value).toArray 61 (0, 0)) :: (M194q)) :: Fs) := hS197q.assoc (by simp only [List.flatten_cons, List.append_assoc, List.cons_append, List.nil_append, List.append_nil])
    obtain ⟨M203q, hM_⟩ : ∃ y : Frag, y = ((g135q, .cells ([v139q, .bool false, .int .u32 (mnI (mnI p1 4096) (mnI p1 4096)), .int .u32 (mnI p1 4096)] : List Value).toArray 61 (0, 0)) :: (M194q)) := ⟨_, rfl⟩
    rw [← hM_] at hp200q hS202q
    clear hM_
    obtain rfl := Option.some.inj H
    repeat (first | refine then_go ?_ | refine inBlock_go ?_)
    refine body_end (v := .tuple #[]) h193q (by kernel_rfl) (by kernel_rfl) ?_
    exact ⟨M203q, rfl, hp200q, hS202q⟩
  · rw [if_neg c151q] at H
    have hb_ : p0.f1 = false := (Bool.eq_false_iff.2 c151q)
    try rw [hb_] at h150q
    clear hb_
    refine wp_else h150q rfl ?_
    refine wp_skip ?_
    refine wp_seq ?_
    refine WL.start ?_
    refine WL.block (c := 5) (m' := 5) h150q rfl [(23, .pointer (some ⟨g135q, 2, none⟩)), (22, .pointer (some ⟨g135q, 0, none⟩)), (21, .pointer (some ⟨g135q, 0, none⟩)), (20, .pointer (some ⟨g135q, 0, none⟩)), (19, .pointer (some ⟨g135q, 0, none⟩))] (by kernel_rfl) (fun a204q h205q => ?_)
    clear h150q a149q
    refine WL.op' (m := 5) h205q rfl rfl ?_
    refine owp_run (v := .int .u32 p0.f2) h205q rfl (by kernel_rfl) (run_load1 rfl rfl Tryd.underlying29 rfl (hS142q.cell (i := 2) rfl)) (fun a206q h207q => ?_)
    clear h205q a204q
    refine WL.block (c := 5) (m' := 11) h207q rfl [(29, .pointer (some ⟨g135q, 2, none⟩)), (28, .pointer (some ⟨g135q, 0, none⟩)), (27, .int .u32 (mnI p1 4096)), (26, .int .u32 (mnI p0.f2 (mnI p1 4096))), (25, .int .u32 (mnI p1 4096))] (by kernel_rfl) (fun a208q h209q => ?_)
    clear h207q a206q
    refine WL.op' (m := 11) h209q rfl rfl ?_
    refine owp_store (i := 2) (vs := ([.int .u32 (mnI p0.f2 (mnI p1 4096))] : List Value)) h209q rfl (by kernel_rfl) rfl rfl rfl rfl (by simp [Value.oneCell']) (by kernel_rfl) hS142q (by simp) (cs' := ([v139q, .bool p0.f1, .int .u32 (mnI p0.f2 (mnI p1 4096)), .int .u32 p0.f3] : List Value)) rfl (fun a210q W212q h211q hS213q => ?_)
    clear h209q a208q
    refine WL.block (c := 2) (m' := 14) h211q rfl [(31, .pointer (some ⟨g135q, 3, none⟩)), (30, .pointer (some ⟨g135q, 0, none⟩))] (by kernel_rfl) (fun a214q h215q => ?_)
    clear h211q a210q
    refine WL.op' (m := 14) h215q rfl rfl ?_
    refine owp_store (i := 3) (vs := ([.int .u32 (mnI p1 4096)] : List Value)) h215q rfl (by kernel_rfl) rfl rfl rfl rfl (by simp [Value.oneCell']) (by kernel_rfl) hS213q (by simp) (cs' := ([v139q, .bool p0.f1, .int .u32 (mnI p0.f2 (mnI p1 4096)), .int .u32 (mnI p1 4096)] : List Value)) rfl (fun a216q W218q h217q hS219q => ?_)
    clear h215q a214q
    refine WL.done (by kernel_rfl) ?_
    refine WL.start ?_
    refine WL.block (c := 3) (m' := 3) h217q rfl [(34, .pointer (some ⟨g135q, 0, none⟩)), (33, .pointer (some ⟨g135q, 0, none⟩)), (32, .pointer (some ⟨g135q, 0, none⟩))] (by kernel_rfl) (fun a220q h221q => ?_)
    clear h217q a216q
    refine WL.op' (m := 3) h221q rfl rfl ?_
    refine owp_run (v := v139q) h221q rfl (by kernel_rfl) (run_load1 rfl rfl Tryd.underlying59 rfl (hS219q.cell (i := 0) rfl)) (fun a222q h223q => ?_)
    clear h221q a220q
    refine WL.block (c := 1) (m' := 5) h223q rfl [(36, .int .u32 (mnI p1 4096))] (by kernel_rfl) (fun a224q h225q => ?_)
    clear h223q a222q
    have hS226q : St b w0 W218q R (M137q :: [(g135q, .cells ([v139q, .bool p0.f1, .int .u32 (mnI p0.f2 (mnI p1 4096)), .int .u32 (mnI p1 4096)] : List Value).toArray 61 (0, 0))] :: Fs) := hS219q.bring 1 rfl rfl
    obtain ⟨r228q, A227q, H⟩ := bind1 H
    refine WL.op' (m := 5) h225q rfl rfl ?_
    refine owp_call [v139q, .int .u32 (mnI p1 4096)] h225q rfl (by kernel_rfl) rfl Tryd.func24 (by kernel_rfl) rfl (by kernel_rfl) (dyntable_Table_Limit.calls k hr141q A227q hS226q) (fun e230q W229q hp231q => ?_)
    obtain ⟨M234q, rfl, hr235q, hS236q⟩ := hp231q
    refine ⟨_, rfl, fun a232q h233q => ?_⟩
    clear h225q a224q
    refine WL.done (by kernel_rfl) ?_
    have hS237q : St b w0 W229q R ([(g135q, .cells ([v139q, .bool p0.f1, .int .u32 (mnI p0.f2 (mnI p1 4096)), .int .u32 (mnI p1 4096)] : List Value).toArray 61 (0, 0))] :: M234q :: Fs) := hS236q.bring 1 rfl rfl
    obtain ⟨M239q, hr238q, hM_⟩ := k61qmk (b := b) (w0 := w0) (R := R) (x := (⟨r228q, p0.f1, mnI p0.f2 (mnI p1 4096), mnI p1 4096⟩ : S61)) (gvf0 := hr235q)
    have hp240q : Ptr k61 61 b w0 R (.pointer (some ⟨g135q, 0, none⟩)) (⟨r228q, p0.f1, mnI p0.f2 (mnI p1 4096), mnI p1 4096⟩ : S61) ((g135q, .cells ([v139q, .bool p0.f1, .int .u32 (mnI p0.f2 (mnI p1 4096)), .int .u32 (mnI p1 4096)] : List Value).toArray 61 (0, 0)) :: M239q) := ⟨_, _, _, rfl, rfl, hr238q⟩
    rw [hM_] at hp240q
    have hS242q : St b w0 W229q R (((g135q, .cells ([v139q, .bool p0.f1, .int .u32 (mnI p0.f2 (mnI p1 4096)), .int .u32 (mnI p1 4096)] : List Value).toArray 61 (0, 0)) :: (M234q)) :: Fs) := hS237q.assoc (by simp only [List.flatten_cons, List.append_assoc, List.cons_append, List.nil_append, List.append_nil])
    obtain ⟨M243q, hM_⟩ : ∃ y : Frag, y = ((g135q, .cells ([v139q, .bool p0.f1, .int .u32 (mnI p0.f2 (mnI p1 4096)), .int .u32 (mnI p1 4096)] : List Value).toArray 61 (0, 0)) :: (M234q)) := ⟨_, rfl⟩
    rw [← hM_] at hp240q hS242q
    clear hM_
    obtain rfl := Option.some.inj H
    repeat (first | refine then_go ?_ | refine inBlock_go ?_)
    refine body_end (v := .tuple #[]) h233q (by kernel_rfl) (by kernel_rfl) ?_
    exact ⟨M243q, rfl, hp240q, hS242q⟩

/-! ### (*louver/hpack.Encoder).Limit -/
def hpack_Encoder_Limit_nil.f (p1 : Int) : Option (Unit) := some ()
set_option maxHeartbeats 2000000 in
set_option maxRecDepth 100000 in
theorem hpack_Encoder_Limit_nil.calls {b : Nat} {w0 W : World} {R : Frag} {Fs : List Frag} {p1 : Int}    (H : hpack_Encoder_Limit_nil.f p1 = some ()) (hS : St b w0 W R (Fs)) :
    Calls Tryd.prog 11 ([.pointer none, .int .u32 p1] : List Value).toArray W (fun e W' => e = .returned (.tuple #[]) ∧ St b w0 W' R (Fs)) := by
  unfold hpack_Encoder_Limit_nil.f at H
  refine calls_enter Tryd.func11 rfl 38 rfl (by kernel_rfl) (fun a h => ?_)
  refine wp_seq ?_
  refine wp_seq ?_
  refine WL.start ?_
  refine WL.block (c := 2) (m' := 2) h rfl [(5, .bool true), (4, .pointer none)] (by kernel_rfl) (fun a3q h4q => ?_)
  refine WL.done (by kernel_rfl) ?_
  refine wp_then h4q rfl ?_
  refine wp_ret ?_
  repeat (first | refine then_ret ?_ | refine inBlock_ret ?_ | refine inBlock_go ?_)
  refine body_ret (v := .tuple #[]) h4q (by kernel_rfl) (by kernel_rfl) ?_
  exact ⟨rfl, hS⟩

/-! ### louver/prefix.Get -/
def prefix_Get.l0 : Nat → Int → Int → (List Int) → Option (Int × Int × Int)
  | 0, _, _, _ => none
  | k + 1, x312q, x313q, p0 => if x313q < ((p0.drop (1 : Int).toNat).length : Int) then (if 0 ≤ x313q then (if x313q = 4 then (some (0, 0, 4)) else (if 0 ≤ (IntKind.i64.wrap (7 * x313q)) then (if (gt (0 : Int) (p0.drop (1 : Int).toNat) x313q) < 128 then (if (IntKind.u64.wrap (x312q + (shlI .u64 (IntKind.u64.wrap (bAnd .u8 (gt (0 : Int) (p0.drop (1 : Int).toNat) x313q) 127)) (IntKind.i64.wrap (7 * x313q))))) > 268435456 then (some (0, 0, 4)) else (some (IntKind.u32.wrap (IntKind.u64.wrap (x312q + (shlI .u64 (IntKind.u64.wrap (bAnd .u8 (gt (0 : Int) (p0.drop (1 : Int).toNat) x313q) 127)) (IntKind.i64.wrap (7 * x313q))))), IntKind.i64.wrap (x313q + 2), 0))) else (prefix_Get.l0 k (IntKind.u64.wrap (x312q + (shlI .u64 (IntKind.u64.wrap (bAnd .u8 (gt (0 : Int) (p0.drop (1 : Int).toNat) x313q) 127)) (IntKind.i64.wrap (7 * x313q))))) (IntKind.i64.wrap (x313q + 1)) p0)) else (none))) else (none)) else (some (0, 0, 2))
def prefix_Get.f (k : Nat) (p0 : (List Int)) (p1 : Int) : Option (Int × Int × Int) := bnd1 (prefix_right.f p1) fun r250q => (if r250q = true then (if (p0.length : Int) = 0 then (some (0, 0, 2)) else (if 0 ≤ p1 then (if 0 < (p0.length : Int) then (if (bAnd .u64 (IntKind.u64.wrap (gt (0 : Int) p0 (0 : Int))) (IntKind.u64.wrap (IntKind.u32.wrap ((shlI .u32 1 p1) - 1)))) < (IntKind.u64.wrap (IntKind.u32.wrap ((shlI .u32 1 p1) - 1))) then (some (IntKind.u32.wrap (bAnd .u64 (IntKind.u64.wrap (gt (0 : Int) p0 (0 : Int))) (IntKind.u64.wrap (IntKind.u32.wrap ((shlI .u32 1 p1) - 1)))), 1, 0)) else (if 1 ≤ (p0.length : Int) then (prefix_Get.l0 k (bAnd .u64 (IntKind.u64.wrap (gt (0 : Int) p0 (0 : Int))) (IntKind.u64.wrap (IntKind.u32.wrap ((shlI .u32 1 p1) - 1)))) 0 p0) else (none))) else (none)) else (none))) else (some (0, 0, 1)))
set_option maxHeartbeats 2000000 in
set_option maxRecDepth 100000 in
theorem prefix_Get.calls (k : Nat) {b : Nat} {w0 W : World} {R : Frag} {Fs : List Frag} {p0 : (List Int)} {p1 : Int} {v0 : Value} {r0q : Int} {r1q : Int} {r2q : Int} (hp0 : Rds (kInt .u8) b w0 R v0 p0) (H : prefix_Get.f k p0 p1 = some (r0q, r1q, r2q)) (hS : St b w0 W R (Fs)) :
    Calls Tryd.prog 53 ([v0, .int .i64 p1] : List Value).toArray W (fun e W' => e = .returned (.tuple #[.int .u32 r0q, .int .i64 r1q, .int .i64 r2q]) ∧ St b w0 W' R (Fs)) := by
  obtain ⟨A0, c0, rfl⟩ := hp0.form
  unfold prefix_Get.f at H
  refine calls_enter Tryd.func53 rfl 62 rfl (by kernel_rfl) (fun a h => ?_)
  refine wp_seq ?_
  refine WL.start ?_
  refine WL.block (c := 3) (m' := 3) h rfl [(6, .int .i64 0), (5, .int .i64 0), (4, .int .u32 0)] (by kernel_rfl) (fun a245q h246q => ?_)
  refine WL.done (by kernel_rfl) ?_
  refine wp_seq ?_
  refine wp_block ?_
  refine wp_seq ?_
  refine WL.start ?_
  refine WL.block (c := 1) (m' := 1) h246q rfl [(12, .int .i64 p1)] (by kernel_rfl) (fun a247q h248q => ?_)
  clear h246q a245q
  obtain ⟨r250q, A249q, H⟩ := bind1 H
  refine WL.op' (m := 1) h248q rfl rfl ?_
  refine owp_call [.int .i64 p1] h248q rfl (by kernel_rfl) rfl Tryd.func41 (by kernel_rfl) rfl (by kernel_rfl) (prefix_right.calls  A249q hS) (fun e252q W251q hp253q => ?_)
  obtain ⟨rfl, hS256q⟩ := hp253q
  refine ⟨_, rfl, fun a254q h255q => ?_⟩
  clear h248q a247q
  refine WL.block (c := 2) (m' := 4) h255q rfl [(11, .bool (!r250q)), (14, .bool (!r250q))] (by kernel_rfl) (fun a257q h258q => ?_)
  clear h255q a254q
  refine WL.done (by kernel_rfl) ?_
  by_cases c259q : r250q = true
  · rw [if_pos c259q] at H
    have hb_ : r250q = true := c259q
    try rw [hb_] at h258q
    clear hb_
    refine wp_else h258q rfl ?_
    refine wp_seq ?_
    refine WL.start ?_
    refine WL.block (c := 4) (m' := 4) h258q rfl [(15, .bool (decide ((p0.length : Int) = 0))), (18, .bool (decide ((p0.length : Int) = 0))), (17, .int .i64 (p0.length : Int)), (16, .slice A0 p0.length c0)] (by kernel_rfl) (fun a260q h261q => ?_)
    clear h258q a257q
    refine WL.done (by kernel_rfl) ?_
    by_cases c262q : (p0.length : Int) = 0
    · rw [if_pos c262q] at H
      have hb_ : (decide ((p0.length : Int) = 0)) = true := decide_eq_true c262q
      try rw [hb_] at h261q
      clear hb_
      refine wp_then h261q rfl ?_
      refine wp_seq ?_
      refine WL.start ?_
      refine WL.block (c := 3) (m' := 3) h261q rfl [(6, .int .i64 2), (5, .int .i64 0), (4, .int .u32 0)] (by kernel_rfl) (fun a263q h264q => ?_)
      clear h261q a260q
      refine WL.done (by kernel_rfl) ?_
      refine wp_ret ?_
      obtain ⟨rfl, rfl, rfl⟩ := ret3 H
      repeat (first | refine then_ret ?_ | refine inBlock_ret ?_ | refine inBlock_go ?_)
      refine body_ret (v := .tuple #[.int .u32 0, .int .i64 0, .int .i64 2]) h264q (by kernel_rfl) (by kernel_rfl) ?_
      exact ⟨rfl, hS256q⟩
    · rw [if_neg c262q] at H
      have hb_ : (decide ((p0.length : Int) = 0)) = false := decide_eq_false c262q
      try rw [hb_] at h261q
      clear hb_
      refine wp_else h261q rfl ?_
      refine wp_skip ?_
      refine wp_seq ?_
      refine WL.start ?_
      refine WL.block (c := 1) (m' := 1) h261q rfl [(19, .int .i64 p1)] (by kernel_rfl) (fun a265q h266q => ?_)
      clear h261q a260q
      by_cases c267q : 0 ≤ p1
      · rw [if_pos c267q] at H
        refine WL.op' (m := 1) h266q rfl rfl ?_
        refine owp_run (v := .int .u32 (shlI .u32 1 p1)) h266q rfl (by kernel_rfl) (run_shl rfl rfl rfl (by assumption)) (fun a268q h269q => ?_)
        clear h266q a265q
        refine WL.block (c := 2) (m' := 4) h269q rfl [(7, .int .u32 (IntKind.u32.wrap ((shlI .u32 1 p1) - 1))), (21, .int .u32 (IntKind.u32.wrap ((shlI .u32 1 p1) - 1)))] (by kernel_rfl) (fun a270q h271q => ?_)
        clear h269q a268q
        refine WL.done (by kernel_rfl) ?_
        refine wp_seq ?_
        refine WL.start ?_
        refine WL.block (c := 1) (m' := 1) h271q rfl [(22, .slice A0 p0.length c0)] (by kernel_rfl) (fun a272q h273q => ?_)
        clear h271q a270q
        by_cases c274q : 0 < (p0.length : Int)
        · rw [if_pos c274q] at H
          have hi277q : 0 ≤ (0 : Int) := by first | assumption | omega
          have hi278q : 0 < (p0.length : Int) := by first | assumption | omega
          obtain ⟨ad275q, _, ha276q, -, -⟩ := Rds.elemAny hp0 hi277q (gt_get (z := (0 : Int)) hi277q hi278q)
          refine WL.op' (m := 1) h273q rfl rfl ?_
          refine owp_run (v := .pointer (some (ad275q.add ((0 : Int).toNat * 1)))) h273q rfl (by kernel_rfl) (run_idx (ad := ad275q) (sz := 1) rfl (by rw [← ha276q]; rfl) rfl Tryd.underlying22 (by kernel_rfl) hi277q hi278q) (fun a279q h280q => ?_)
          clear h273q a272q
          obtain ⟨ad281q, cs282q, ha283q, hr285q, hc284q⟩ := Rds.elemAny hp0 hi277q (gt_get (z := (0 : Int)) hi277q hi278q)
          rw [ha276q] at ha283q; obtain rfl := Option.some.inj ha283q
          obtain rfl : cs282q = [.int .u8 (gt (0 : Int) p0 (0 : Int))] := hr285q
          refine WL.op' (m := 2) h280q rfl rfl ?_
          refine owp_run (v := .int .u8 (gt (0 : Int) p0 (0 : Int))) h280q rfl (by kernel_rfl) (run_load1 rfl rfl Tryd.underlying5 rfl (cell0 (hc284q _ (fun _ _ hk_ => hS256q.kn hk_)))) (fun a286q h287q => ?_)
          clear h280q a279q
          refine WL.block (c := 5) (m' := 8) h287q rfl [(8, .int .u64 (bAnd .u64 (IntKind.u64.wrap (gt (0 : Int) p0 (0 : Int))) (IntKind.u64.wrap (IntKind.u32.wrap ((shlI .u32 1 p1) - 1))))), (28, .int .u64 (bAnd .u64 (IntKind.u64.wrap (gt (0 : Int) p0 (0 : Int))) (IntKind.u64.wrap (IntKind.u32.wrap ((shlI .u32 1 p1) - 1))))), (27, .int .u64 (IntKind.u64.wrap (IntKind.u32.wrap ((shlI .u32 1 p1) - 1)))), (26, .int .u32 (IntKind.u32.wrap ((shlI .u32 1 p1) - 1))), (25, .int .u64 (IntKind.u64.wrap (gt (0 : Int) p0 (0 : Int))))] (by kernel_rfl) (fun a288q h289q => ?_)
          clear h287q a286q
          refine WL.done (by kernel_rfl) ?_
          refine wp_seq ?_
          refine wp_seq ?_
          refine WL.start ?_
          refine WL.block (c := 4) (m' := 4) h289q rfl [(32, .bool (decide ((bAnd .u64 (IntKind.u64.wrap (gt (0 : Int) p0 (0 : Int))) (IntKind.u64.wrap (IntKind.u32.wrap ((shlI .u32 1 p1) - 1)))) < (IntKind.u64.wrap (IntKind.u32.wrap ((shlI .u32 1 p1) - 1)))))), (31, .int .u64 (IntKind.u64.wrap (IntKind.u32.wrap ((shlI .u32 1 p1) - 1)))), (30, .int .u32 (IntKind.u32.wrap ((shlI .u32 1 p1) - 1))), (29, .int .u64 (bAnd .u64 (IntKind.u64.wrap (gt (0 : Int) p0 (0 : Int))) (IntKind.u64.wrap (IntKind.u32.wrap ((shlI .u32 1 p1) - 1)))))] (by kernel_rfl) (fun a290q h291q => ?_)
          clear h289q a288q
          refine WL.done (by kernel_rfl) ?_
          by_cases c292q : (bAnd .u64 (IntKind.u64.wrap (gt (0 : Int) p0 (0 : Int))) (IntKind.u64.wrap (IntKind.u32.wrap ((shlI .u32 1 p1) - 1)))) < (IntKind.u64.wrap (IntKind.u32.wrap ((shlI .u32 1 p1) - 1)))
          · rw [if_pos c292q] at H
            have hb_ : (decide ((bAnd .u64 (IntKind.u64.wrap (gt (0 : Int) p0 (0 : Int))) (IntKind.u64.wrap (IntKind.u32.wrap ((shlI .u32 1 p1) - 1)))) < (IntKind.u64.wrap (IntKind.u32.wrap ((shlI .u32 1 p1) - 1))))) = true := decide_eq_true c292q
            try rw [hb_] at h291q
            clear hb_
            refine wp_then h291q rfl ?_
            refine wp_seq ?_
            refine WL.start ?_
            refine WL.block (c := 5) (m' := 5) h291q rfl [(6, .int .i64 0), (5, .int .i64 1), (4, .int .u32 (IntKind.u32.wrap (bAnd .u64 (IntKind.u64.wrap (gt (0 : Int) p0 (0 : Int))) (IntKind.u64.wrap (IntKind.u32.wrap ((shlI .u32 1 p1) - 1)))))), (34, .int .u32 (IntKind.u32.wrap (bAnd .u64 (IntKind.u64.wrap (gt (0 : Int) p0 (0 : Int))) (IntKind.u64.wrap (IntKind.u32.wrap ((shlI .u32 1 p1) - 1)))))), (33, .int .u64 (bAnd .u64 (IntKind.u64.wrap (gt (0 : Int) p0 (0 : Int))) (IntKind.u64.wrap (IntKind.u32.wrap ((shlI .u32 1 p1) - 1)))))] (by kernel_rfl) (fun a293q h294q => ?_)
            clear h291q a290q
            refine WL.done (by kernel_rfl) ?_
            refine wp_ret ?_
            obtain ⟨rfl, rfl, rfl⟩ := ret3 H
            repeat (first | refine then_ret ?_ | refine inBlock_ret ?_ | refine inBlock_go ?_)
            refine body_ret (v := .tuple #[.int .u32 (IntKind.u32.wrap (bAnd .u64 (IntKind.u64.wrap (gt (0 : Int) p0 (0 : Int))) (IntKind.u64.wrap (IntKind.u32.wrap ((shlI .u32 1 p1) - 1))))), .int .i64 1, .int .i64 0]) h294q (by kernel_rfl) (by kernel_rfl) ?_
            exact ⟨rfl, hS256q⟩
          · rw [if_neg c292q] at H
            have hb_ : (decide ((bAnd .u64 (IntKind.u64.wrap (gt (0 : Int) p0 (0 : Int))) (IntKind.u64.wrap (IntKind.u32.wrap ((shlI .u32 1 p1) - 1)))) < (IntKind.u64.wrap (IntKind.u32.wrap ((shlI .u32 1 p1) - 1))))) = false := decide_eq_false c292q
            try rw [hb_] at h291q
            clear hb_
            refine wp_else h291q rfl ?_
            refine wp_skip ?_
            refine wp_seq ?_
            refine wp_seq ?_
            refine WL.start ?_
            refine WL.block (c := 1) (m' := 1) h291q rfl [(35, .slice A0 p0.length c0)] (by kernel_rfl) (fun a295q h296q => ?_)
            clear h291q a290q
            by_cases c297q : 1 ≤ (p0.length : Int)
            · rw [if_pos c297q] at H
              refine WL.op' (m := 1) h296q rfl rfl ?_
              refine owp_run (v := sliced A0 (1 : Int).toNat (p0.length : Int).toNat c0 1) h296q rfl (by kernel_rfl) (run_cut (l := 1) (h := (p0.length : Int)) rfl rfl Tryd.underlying22 (by kernel_rfl) ⟨_, rfl⟩ rfl (by first | assumption | omega) (by first | assumption | omega) (by have q_ := Rds.cap hp0; omega) (by have q_ := Rds.cap hp0; omega)) (fun a299q h300q => ?_)
              clear h296q a295q
              have hx298q := Rds.cut hp0 (l := (1 : Int).toNat) (h := (p0.length : Int).toNat) (by omega) (by omega)
              obtain ⟨v301q, ev302q⟩ : ∃ y_, y_ = sliced A0 (1 : Int).toNat (p0.length : Int).toNat c0 1 := ⟨_, rfl⟩
              have hx_ : Rds (kInt .u8) b w0 R v301q (p0.drop (1 : Int).toNat) := hx298q.as_ ev302q.symm (by simp)
              rw [← ev302q] at h300q; clear ev302q hx298q
              have hx298q := hx_; clear hx_
              obtain ⟨A303q, c304q, rfl⟩ := hx298q.form
              refine WL.block (c := 2) (m' := 4) h300q rfl [(38, .int .i64 0), (37, .int .i64 ((p0.drop (1 : Int).toNat).length : Int))] (by kernel_rfl) (fun a305q h306q => ?_)
              clear h300q a299q
              refine WL.done (by kernel_rfl) ?_
              refine wp_block ?_
              refine wp_loop_ghost (fun kq_ a_ W_ => ∃ (x312q : Int), ∃ (x313q : Int), Hd a_ 62 [(8, .int .u64 x312q), (36, .slice A303q (p0.drop (1 : Int).toNat).length c304q), (37, .int .i64 ((p0.drop (1 : Int).toNat).length : Int)), (38, .int .i64 x313q)] ∧ Asd (prefix_Get.l0 kq_ x312q x313q p0 = some (r0q, r1q, r2q)) ∧ Asd (kq_ ≤ k) ∧ Asd (St b w0 W_ R (Fs))) k ⟨bAnd .u64 (IntKind.u64.wrap (gt (0 : Int) p0 (0 : Int))) (IntKind.u64.wrap (IntKind.u32.wrap ((shlI .u32 1 p1) - 1))), 0, h306q.keep ⟨rfl, rfl, rfl, rfl, trivial⟩, ⟨H⟩, ⟨Nat.le_refl _⟩, ⟨hS256q⟩⟩ ?_
              clear H hS256q
              rintro k311q a308q W309q ⟨x312q, x313q, h307q, ⟨H⟩, ⟨hkk311q⟩, ⟨hS310q⟩⟩
              obtain _ | k314q := k311q
              · exact absurd H (by simp [prefix_Get.l0])
              simp only [prefix_Get.l0] at H
              refine wp_seq ?_
              refine WL.start ?_
              refine WL.block (c := 1) (m' := 1) h307q rfl [(39, .bool (decide (x313q < ((p0.drop (1 : Int).toNat).length : Int))))] (by kernel_rfl) (fun a315q h316q => ?_)
              clear h307q a308q
              refine WL.done (by kernel_rfl) ?_
              refine wp_seq ?_
              by_cases c317q : x313q < ((p0.drop (1 : Int).toNat).length : Int)
              · rw [if_pos c317q] at H
                have hb_ : (decide (x313q < ((p0.drop (1 : Int).toNat).length : Int))) = true := decide_eq_true c317q
                try rw [hb_] at h316q
                clear hb_
                refine wp_then h316q rfl ?_
                refine wp_skip ?_
                refine wp_seq ?_
                refine wp_block ?_
                refine wp_seq ?_
                refine WL.start ?_
                refine WL.block (c := 1) (m' := 1) h316q rfl [(40, .int .i64 x313q)] (by kernel_rfl) (fun a318q h319q => ?_)
                clear h316q a315q
                by_cases c320q : 0 ≤ x313q
                · rw [if_pos c320q] at H
                  have hi323q : 0 ≤ x313q := by first | assumption | omega
                  have hi324q : x313q < ((p0.drop (1 : Int).toNat).length : Int) := by first | assumption | omega
                  obtain ⟨ad321q, _, ha322q, -, -⟩ := Rds.elemAny hx298q hi323q (gt_get (z := (0 : Int)) hi323q hi324q)
                  refine WL.op' (m := 1) h319q rfl rfl ?_
                  refine owp_run (v := .pointer (some (ad321q.add (x313q.toNat * 1)))) h319q rfl (by kernel_rfl) (run_idx (ad := ad321q) (sz := 1) rfl (by rw [← ha322q]; rfl) rfl Tryd.underlying22 (by kernel_rfl) hi323q hi324q) (fun a325q h326q => ?_)
                  clear h319q a318q
                  obtain ⟨ad327q, cs328q, ha329q, hr331q, hc330q⟩ := Rds.elemAny hx298q hi323q (gt_get (z := (0 : Int)) hi323q hi324q)
                  rw [ha322q] at ha329q; obtain rfl := Option.some.inj ha329q
                  obtain rfl : cs328q = [.int .u8 (gt (0 : Int) (p0.drop (1 : Int).toNat) x313q)] := hr331q
                  refine WL.op' (m := 2) h326q rfl rfl ?_
                  refine owp_run (v := .int .u8 (gt (0 : Int) (p0.drop (1 : Int).toNat) x313q)) h326q rfl (by kernel_rfl) (run_load1 rfl rfl Tryd.underlying5 rfl (cell0 (hc330q _ (fun _ _ hk_ => hS310q.kn hk_)))) (fun a332q h333q => ?_)
                  clear h326q a325q
                  refine WL.block (c := 2) (m' := 5) h333q rfl [(10, .int .u8 (gt (0 : Int) (p0.drop (1 : Int).toNat) x313q)), (9, .int .i64 x313q)] (by kernel_rfl) (fun a334q h335q => ?_)
                  clear h333q a332q
                  refine WL.done (by kernel_rfl) ?_
                  refine wp_seq ?_
                  refine wp_seq ?_
                  refine WL.start ?_
                  refine WL.block (c := 2) (m' := 2) h335q rfl [(44, .bool (decide (x313q = 4))), (43, .int .i64 x313q)] (by kernel_rfl) (fun a336q h337q => ?_)
                  clear h335q a334q
                  refine WL.done (by kernel_rfl) ?_
                  by_cases c338q : x313q = 4
                  · rw [if_pos c338q] at H
                    have hb_ : (decide (x313q = 4)) = true := decide_eq_true c338q
                    try rw [hb_] at h337q
                    clear hb_
                    refine wp_then h337q rfl ?_
                    refine wp_seq ?_
                    refine WL.start ?_
                    refine WL.block (c := 3) (m' := 3) h337q rfl [(6, .int .i64 4), (5, .int .i64 0), (4, .int .u32 0)] (by kernel_rfl) (fun a339q h340q => ?_)
                    clear h337q a336q
                    refine WL.done (by kernel_rfl) ?_
                    refine wp_ret ?_
                    obtain ⟨rfl, rfl, rfl⟩ := ret3 H
                    repeat (first | refine then_ret ?_ | refine inBlock_ret ?_ | refine inBlock_go ?_)
                    refine body_ret (v := .tuple #[.int .u32 0, .int .i64 0, .int .i64 4]) h340q (by kernel_rfl) (by kernel_rfl) ?_
                    exact ⟨rfl, hS310q⟩
                  · rw [if_neg c338q] at H
                    have hb_ : (decide (x313q = 4)) = false := decide_eq_false c338q
                    try rw [hb_] at h337q
                    clear hb_
                    refine wp_else h337q rfl ?_
                    refine wp_skip ?_
                    refine wp_seq ?_
                    refine WL.start ?_
                    refine WL.block (c := 6) (m' := 6) h337q rfl [(50, .int .i64 (IntKind.i64.wrap (7 * x313q))), (49, .int .i64 x313q), (48, .int .u64 (IntKind.u64.wrap (bAnd .u8 (gt (0 : Int) (p0.drop (1 : Int).toNat) x313q) 127))), (47, .int .u8 (bAnd .u8 (gt (0 : Int) (p0.drop (1 : Int).toNat) x313q) 127)), (46, .int .u8 (gt (0 : Int) (p0.drop (1 : Int).toNat) x313q)), (45, .int .u64 x312q)] (by kernel_rfl) (fun a341q h342q => ?_)
                    clear h337q a336q
                    by_cases c343q : 0 ≤ (IntKind.i64.wrap (7 * x313q))
                    · rw [if_pos c343q] at H
                      refine WL.op' (m := 6) h342q rfl rfl ?_
                      refine owp_run (v := .int .u64 (shlI .u64 (IntKind.u64.wrap (bAnd .u8 (gt (0 : Int) (p0.drop (1 : Int).toNat) x313q) 127)) (IntKind.i64.wrap (7 * x313q)))) h342q rfl (by kernel_rfl) (run_shl rfl rfl rfl (by assumption)) (fun a344q h345q => ?_)
                      clear h342q a341q
                      refine WL.block (c := 2) (m' := 9) h345q rfl [(8, .int .u64 (IntKind.u64.wrap (x312q + (shlI .u64 (IntKind.u64.wrap (bAnd .u8 (gt (0 : Int) (p0.drop (1 : Int).toNat) x313q) 127)) (IntKind.i64.wrap (7 * x313q)))))), (52, .int .u64 (IntKind.u64.wrap (x312q + (shlI .u64 (IntKind.u64.wrap (bAnd .u8 (gt (0 : Int) (p0.drop (1 : Int).toNat) x313q) 127)) (IntKind.i64.wrap (7 * x313q))))))] (by kernel_rfl) (fun a346q h347q => ?_)
                      clear h345q a344q
                      refine WL.done (by kernel_rfl) ?_
                      refine wp_seq ?_
                      refine WL.start ?_
                      refine WL.block (c := 2) (m' := 2) h347q rfl [(54, .bool (decide ((gt (0 : Int) (p0.drop (1 : Int).toNat) x313q) < 128))), (53, .int .u8 (gt (0 : Int) (p0.drop (1 : Int).toNat) x313q))] (by kernel_rfl) (fun a348q h349q => ?_)
                      clear h347q a346q
                      refine WL.done (by kernel_rfl) ?_
                      by_cases c350q : (gt (0 : Int) (p0.drop (1 : Int).toNat) x313q) < 128
                      · rw [if_pos c350q] at H
                        have hb_ : (decide ((gt (0 : Int) (p0.drop (1 : Int).toNat) x313q) < 128)) = true := decide_eq_true c350q
                        try rw [hb_] at h349q
                        clear hb_
                        refine wp_then h349q rfl ?_
                        refine wp_seq ?_
                        refine wp_seq ?_
                        refine WL.start ?_
                        refine WL.block (c := 2) (m' := 2) h349q rfl [(56, .bool (decide ((IntKind.u64.wrap (x312q + (shlI .u64 (IntKind.u64.wrap (bAnd .u8 (gt (0 : Int) (p0.drop (1 : Int).toNat) x313q) 127)) (IntKind.i64.wrap (7 * x313q))))) > 268435456))), (55, .int .u64 (IntKind.u64.wrap (x312q + (shlI .u64 (IntKind.u64.wrap (bAnd .u8 (gt (0 : Int) (p0.drop (1 : Int).toNat) x313q) 127)) (IntKind.i64.wrap (7 * x313q))))))] (by kernel_rfl) (fun a351q h352q => ?_)
                        clear h349q a348q
                        refine WL.done (by kernel_rfl) ?_
                        by_cases c353q : (IntKind.u64.wrap (x312q + (shlI .u64 (IntKind.u64.wrap (bAnd .u8 (gt (0 : Int) (p0.drop (1 : Int).toNat) x313q) 127)) (IntKind.i64.wrap (7 * x313q))))) > 268435456
                        · rw [if_pos c353q] at H
                          have hb_ : (decide ((IntKind.u64.wrap (x312q + (shlI .u64 (IntKind.u64.wrap (bAnd .u8 (gt (0 : Int) (p0.drop (1 : Int).toNat) x313q) 127)) (IntKind.i64.wrap (7 * x313q))))) > 268435456)) = true := decide_eq_true c353q
                          try rw [hb_] at h352q
                          clear hb_
                          refine wp_then h352q rfl ?_
                          refine wp_seq ?_
                          refine WL.start ?_
                          refine WL.block (c := 3) (m' := 3) h352q rfl [(6, .int .i64 4), (5, .int .i64 0), (4, .int .u32 0)] (by kernel_rfl) (fun a354q h355q => ?_)
                          clear h352q a351q
                          refine WL.done (by kernel_rfl) ?_
                          refine wp_ret ?_
                          obtain ⟨rfl, rfl, rfl⟩ := ret3 H
                          repeat (first | refine then_ret ?_ | refine inBlock_ret ?_ | refine inBlock_go ?_)
                          refine body_ret (v := .tuple #[.int .u32 0, .int .i64 0, .int .i64 4]) h355q (by kernel_rfl) (by kernel_rfl) ?_
                          exact ⟨rfl, hS310q⟩
                        · rw [if_neg c353q] at H
                          have hb_ : (decide ((IntKind.u64.wrap (x312q + (shlI .u64 (IntKind.u64.wrap (bAnd .u8 (gt (0 : Int) (p0.drop (1 : Int).toNat) x313q) 127)) (IntKind.i64.wrap (7 * x313q))))) > 268435456)) = false := decide_eq_false c353q
                          try rw [hb_] at h352q
                          clear hb_
                          refine wp_else h352q rfl ?_
                          refine wp_skip ?_
                          refine wp_seq ?_
                          refine WL.start ?_
                          refine WL.block (c := 7) (m' := 7) h352q rfl [(6, .int .i64 0), (5, .int .i64 (IntKind.i64.wrap (x313q + 2))), (4, .int .u32 (IntKind.u32.wrap (IntKind.u64.wrap (x312q + (shlI .u64 (IntKind.u64.wrap (bAnd .u8 (gt (0 : Int) (p0.drop (1 : Int).toNat) x313q) 127)) (IntKind.i64.wrap (7 * x313q))))))), (60, .int .i64 (IntKind.i64.wrap (x313q + 2))), (59, .int .i64 x313q), (58, .int .u32 (IntKind.u32.wrap (IntKind.u64.wrap (x312q + (shlI .u64 (IntKind.u64.wrap (bAnd .u8 (gt (0 : Int) (p0.drop (1 : Int).toNat) x313q) 127)) (IntKind.i64.wrap (7 * x313q))))))), (57, .int .u64 (IntKind.u64.wrap (x312q + (shlI .u64 (IntKind.u64.wrap (bAnd .u8 (gt (0 : Int) (p0.drop (1 : Int).toNat) x313q) 127)) (IntKind.i64.wrap (7 * x313q))))))] (by kernel_rfl) (fun a356q h357q => ?_)
                          clear h352q a351q
                          refine WL.done (by kernel_rfl) ?_
                          refine wp_ret ?_
                          obtain ⟨rfl, rfl, rfl⟩ := ret3 H
                          repeat (first | refine then_ret ?_ | refine inBlock_ret ?_ | refine inBlock_go ?_)
                          refine body_ret (v := .tuple #[.int .u32 (IntKind.u32.wrap (IntKind.u64.wrap (x312q + (shlI .u64 (IntKind.u64.wrap (bAnd .u8 (gt (0 : Int) (p0.drop (1 : Int).toNat) x313q) 127)) (IntKind.i64.wrap (7 * x313q)))))), .int .i64 (IntKind.i64.wrap (x313q + 2)), .int .i64 0]) h357q (by kernel_rfl) (by kernel_rfl) ?_
                          exact ⟨rfl, hS310q⟩
                      · rw [if_neg c350q] at H
                        have hb_ : (decide ((gt (0 : Int) (p0.drop (1 : Int).toNat) x313q) < 128)) = false := decide_eq_false c350q
                        try rw [hb_] at h349q
                        clear hb_
                        refine wp_else h349q rfl ?_
                        refine wp_skip ?_
                        refine WL.start ?_
                        refine WL.block (c := 2) (m' := 2) h349q rfl [(38, .int .i64 (IntKind.i64.wrap (x313q + 1))), (61, .int .i64 (IntKind.i64.wrap (x313q + 1)))] (by kernel_rfl) (fun a358q h359q => ?_)
                        clear h349q a348q
                        refine WL.done (by kernel_rfl) ?_
                        exact ⟨k314q, by omega, IntKind.u64.wrap (x312q + (shlI .u64 (IntKind.u64.wrap (bAnd .u8 (gt (0 : Int) (p0.drop (1 : Int).toNat) x313q) 127)) (IntKind.i64.wrap (7 * x313q)))), IntKind.i64.wrap (x313q + 1), h359q.keep ⟨rfl, rfl, rfl, rfl, trivial⟩, ⟨H⟩, ⟨by omega⟩, ⟨hS310q⟩⟩
                    · rw [if_neg c343q] at H
                      cases H
                · rw [if_neg c320q] at H
                  cases H
              · rw [if_neg c317q] at H
                have hb_ : (decide (x313q < ((p0.drop (1 : Int).toNat).length : Int))) = false := decide_eq_false c317q
                try rw [hb_] at h316q
                clear hb_
                refine wp_else h316q rfl ?_
                refine wp_exit ?_
                refine wp_seq ?_
                refine WL.start ?_
                refine WL.block (c := 3) (m' := 3) h316q rfl [(6, .int .i64 2), (5, .int .i64 0), (4, .int .u32 0)] (by kernel_rfl) (fun a360q h361q => ?_)
                clear h316q a315q
                refine WL.done (by kernel_rfl) ?_
                refine wp_ret ?_
                obtain ⟨rfl, rfl, rfl⟩ := ret3 H
                repeat (first | refine then_ret ?_ | refine inBlock_ret ?_ | refine inBlock_go ?_)
                refine body_ret (v := .tuple #[.int .u32 0, .int .i64 0, .int .i64 2]) h361q (by kernel_rfl) (by kernel_rfl) ?_
                exact ⟨rfl, hS310q⟩
            · rw [if_neg c297q] at H
              cases H
        · rw [if_neg c274q] at H
          cases H
      · rw [if_neg c267q] at H
        cases H
  · rw [if_neg c259q] at H
    have hb_ : r250q = false := (Bool.eq_false_iff.2 c259q)
    try rw [hb_] at h258q
    clear hb_
    refine wp_then h258q rfl ?_
    refine wp_seq ?_
    refine WL.start ?_
    refine WL.block (c := 3) (m' := 3) h258q rfl [(6, .int .i64 1), (5, .int .i64 0), (4, .int .u32 0)] (by kernel_rfl) (fun a362q h363q => ?_)
    clear h258q a257q
    refine WL.done (by kernel_rfl) ?_
    refine wp_ret ?_
    obtain ⟨rfl, rfl, rfl⟩ := ret3 H
    repeat (first | refine then_ret ?_ | refine inBlock_ret ?_ | refine inBlock_go ?_)
    refine body_ret (v := .tuple #[.int .u32 0, .int .i64 0, .int .i64 1]) h363q (by kernel_rfl) (by kernel_rfl) ?_
    exact ⟨rfl, hS256q⟩

structure S66 where
  f0 : S79
  f1 : (List Int)
  f2 : Bool
  deriving DecidableEq
def z66 : S66 := ⟨z79, [], false⟩
def k66 : Kd S66 := kIso (kPair (kPtr k79 79) (kPair (kRds (kInt .u8)) kBool)) (fun x : S66 => (x.f0, (x.f1, x.f2)))
theorem k66qrep {b : Nat} {w0 : World} {R : Frag} {x : S66} {cs : List Value} {M : Frag} (h : k66.rep b w0 R x cs M) : ∃ (vf0 : Value) (vf1 : Value), ∃ (Mvf0 : Frag), cs = [vf0, vf1, .bool x.f2] ∧ M = Mvf0 ∧ Ptr k79 79 b w0 R vf0 x.f0 Mvf0 ∧ Rds (kInt .u8) b w0 R vf1 x.f1 := by
  obtain ⟨c1q, c2q, M5q, M6q, rfl, rfl, h3q, h4q⟩ := h
  obtain ⟨c7q, c8q, M11q, M12q, rfl, rfl, h9q, h10q⟩ := h4q
  obtain ⟨v13q, rfl, g14q⟩ := h3q
  obtain ⟨⟨v15q, rfl, g16q⟩, rfl⟩ := h9q
  obtain ⟨rfl, rfl⟩ := h10q
  exact ⟨v13q, v15q, _, rfl, by simp, g14q, g16q⟩
theorem k66qmk {b : Nat} {w0 : World} {R : Frag} {x : S66} {vf0 : Value} {Mvf0 : Frag} (gvf0 : Ptr k79 79 b w0 R vf0 x.f0 Mvf0) {vf1 : Value} (gvf1 : Rds (kInt .u8) b w0 R vf1 x.f1) : ∃ M, k66.rep b w0 R x [vf0, vf1, .bool x.f2] M ∧ M = Mvf0 := ⟨_, ⟨_, _, _, _, rfl, rfl, ⟨vf0, rfl, gvf0⟩, ⟨_, _, _, _, rfl, rfl, ⟨⟨vf1, rfl, gvf1⟩, rfl⟩, ⟨rfl, rfl⟩⟩⟩, by simp⟩
/-! ### (*louver/hpack.reader).number -/
def hpack_reader_number.f (k : Nat) (p0 : S66) (p1 : Int) : Option (Int × S66) := bnd3 (prefix_Get.f k p0.f1 p1) fun r184q r185q r186q => (if r186q = 0 then (if 0 ≤ r185q then (if r185q ≤ (p0.f1.length : Int) then (some (IntKind.i64.wrap r184q, (⟨p0.f0, p0.f1.drop r185q.toNat, p0.f2⟩ : S66))) else (none)) else (none)) else (some (0, (⟨p0.f0, ([] : List Int), true⟩ : S66))))
set_option maxHeartbeats 2000000 in
set_option maxRecDepth 100000 in
theorem hpack_reader_number.calls (k : Nat) {b : Nat} {w0 W : World} {R : Frag} {Fs : List Frag} {p0 : S66} {p1 : Int}  {v0 : Value} {M0 : Frag} {r0q : Int} {r1q : S66} (hp0 : Ptr k66 66 b w0 R v0 p0 M0) (H : hpack_reader_number.f k p0 p1 = some (r0q, r1q)) (hS : St b w0 W R (M0 :: Fs)) :
    Calls Tryd.prog 37 ([v0, .int .i64 p1] : List Value).toArray W (fun e W' => ∃ (O0q : Frag), e = .returned (.int .i64 r0q) ∧ Ptr k66 66 b w0 R v0 r1q O0q ∧ St b w0 W' R (O0q :: Fs)) := by
  unfold hpack_reader_number.f at H
  refine calls_enter Tryd.func37 rfl 37 rfl (by kernel_rfl) (fun a h => ?_)
  refine wp_seq ?_
  refine WL.start ?_
  refine WL.block (c := 1) (m' := 1) h rfl [(4, .int .i64 0)] (by kernel_rfl) (fun a161q h162q => ?_)
  refine WL.done (by kernel_rfl) ?_
  refine wp_seq ?_
  refine WL.start ?_
  refine WL.block (c := 1) (m' := 1) h162q rfl [(9, v0)] (by kernel_rfl) (fun a163q h164q => ?_)
  clear h162q a161q
  obtain ⟨g165q, cs166q, M167q, hv_, hM_, hr168q⟩ := hp0
  obtain ⟨v169q, v170q, M171q, rfl, hM2q, hr172q, hr173q⟩ := k66qrep hr168q
  subst hM2q
  subst hM_
  subst hv_
  replace hr173q : Rds (kInt .u8) b w0 R v170q p0.f1 := hr173q
  obtain ⟨A174q, c175q, rfl⟩ := hr173q.form
  have hS176q : St b w0 W R ([(g165q, .cells ([v169q, .slice A174q p0.f1.length c175q, .bool p0.f2] : List Value).toArray 66 (0, 0))] :: M167q :: Fs) := hS.assoc (by simp only [List.flatten_cons, List.append_assoc, List.cons_append, List.nil_append, List.append_nil])
  refine WL.block (c := 2) (m' := 3) h164q rfl [(11, .pointer (some ⟨g165q, 1, none⟩)), (10, .pointer (some ⟨g165q, 0, none⟩))] (by kernel_rfl) (fun a177q h178q => ?_)
  clear h164q a163q
  refine WL.op' (m := 3) h178q rfl rfl ?_
  refine owp_run (v := .slice A174q p0.f1.length c175q) h178q rfl (by kernel_rfl) (run_load1 rfl rfl Tryd.underlying22 rfl (hS176q.cell (i := 1) rfl)) (fun a179q h180q => ?_)
  clear h178q a177q
  refine WL.block (c := 1) (m' := 5) h180q rfl [(13, .int .i64 p1)] (by kernel_rfl) (fun a181q h182q => ?_)
  clear h180q a179q
  obtain ⟨r184q, r185q, r186q, A183q, H⟩ := bind3 H
  refine WL.op' (m := 5) h182q rfl rfl ?_
  refine owp_call [.slice A174q p0.f1.length c175q, .int .i64 p1] h182q rfl (by kernel_rfl) rfl Tryd.func53 (by kernel_rfl) rfl (by kernel_rfl) (prefix_Get.calls k hr173q A183q hS176q) (fun e188q W187q hp189q => ?_)
  obtain ⟨rfl, hS192q⟩ := hp189q
  refine ⟨_, rfl, fun a190q h191q => ?_⟩
  clear h182q a181q
  refine WL.block (c := 7) (m' := 13) h191q rfl [(7, .int .i64 r186q), (6, .int .i64 r185q), (5, .int .u32 r184q), (17, .int .i64 r186q), (16, .int .i64 r185q), (15, .int .u32 r184q), (8, .tuple #[.int .u32 r184q, .int .i64 r185q, .int .i64 r186q])] (by kernel_rfl) (fun a193q h194q => ?_)
  clear h191q a190q
  refine WL.done (by kernel_rfl) ?_
  refine wp_seq ?_
  refine wp_seq ?_
  refine WL.start ?_
  refine WL.block (c := 2) (m' := 2) h194q rfl [(19, .bool (!decide (r186q = 0))), (18, .int .i64 r186q)] (by kernel_rfl) (fun a195q h196q => ?_)
  clear h194q a193q
  refine WL.done (by kernel_rfl) ?_
  by_cases c197q : r186q = 0
  · rw [if_pos c197q] at H
    have hb_ : (decide (r186q = 0)) = true := decide_eq_true c197q
    try rw [hb_] at h196q
    clear hb_
    refine wp_else h196q rfl ?_
    refine wp_skip ?_
    refine wp_seq ?_
    refine WL.start ?_
    refine WL.block (c := 4) (m' := 4) h196q rfl [(29, .pointer (some ⟨g165q, 1, none⟩)), (28, .pointer (some ⟨g165q, 0, none⟩)), (27, .pointer (some ⟨g165q, 0, none⟩)), (26, .pointer (some ⟨g165q, 0, none⟩))] (by kernel_rfl) (fun a198q h199q => ?_)
    clear h196q a195q
    refine WL.op' (m := 4) h199q rfl rfl ?_
    refine owp_run (v := .slice A174q p0.f1.length c175q) h199q rfl (by kernel_rfl) (run_load1 rfl rfl Tryd.underlying22 rfl (hS192q.cell (i := 1) rfl)) (fun a200q h201q => ?_)
    clear h199q a198q
    refine WL.block (c := 1) (m' := 6) h201q rfl [(31, .int .i64 r185q)] (by kernel_rfl) (fun a202q h203q => ?_)
    clear h201q a200q
    by_cases c204q : 0 ≤ r185q
    · rw [if_pos c204q] at H
      by_cases c205q : r185q ≤ (p0.f1.length : Int)
      · rw [if_pos c205q] at H
        refine WL.op' (m := 6) h203q rfl rfl ?_
        refine owp_run (v := sliced A174q r185q.toNat (p0.f1.length : Int).toNat c175q 1) h203q rfl (by kernel_rfl) (run_cut (l := r185q) (h := (p0.f1.length : Int)) rfl rfl Tryd.underlying22 (by kernel_rfl) ⟨_, rfl⟩ rfl (by first | assumption | omega) (by first | assumption | omega) (by have q_ := Rds.cap hr173q; omega) (by have q_ := Rds.cap hr173q; omega)) (fun a207q h208q => ?_)
        clear h203q a202q
        have hx206q := Rds.cut hr173q (l := r185q.toNat) (h := (p0.f1.length : Int).toNat) (by omega) (by omega)
        obtain ⟨v209q, ev210q⟩ : ∃ y_, y_ = sliced A174q r185q.toNat (p0.f1.length : Int).toNat c175q 1 := ⟨_, rfl⟩
        have hx_ : Rds (kInt .u8) b w0 R v209q (p0.f1.drop r185q.toNat) := hx206q.as_ ev210q.symm (by simp)
        rw [← ev210q] at h208q; clear ev210q hx206q
        have hx206q := hx_; clear hx_
        obtain ⟨A211q, c212q, rfl⟩ := hx206q.form
        refine WL.block (c := 2) (m' := 9) h208q rfl [(34, .pointer (some ⟨g165q, 1, none⟩)), (33, .pointer (some ⟨g165q, 0, none⟩))] (by kernel_rfl) (fun a213q h214q => ?_)
        clear h208q a207q
        refine WL.op' (m := 9) h214q rfl rfl ?_
        refine owp_store (i := 1) (vs := ([.slice A211q (p0.f1.drop r185q.toNat).length c212q] : List Value)) h214q rfl (by kernel_rfl) rfl rfl rfl rfl (by simp [Value.oneCell']) (by kernel_rfl) hS192q (by simp) (cs' := ([v169q, .slice A211q (p0.f1.drop r185q.toNat).length c212q, .bool p0.f2] : List Value)) rfl (fun a215q W217q h216q hS218q => ?_)
        clear h214q a213q
        refine WL.done (by kernel_rfl) ?_
        refine wp_seq ?_
        refine WL.start ?_
        refine WL.block (c := 3) (m' := 3) h216q rfl [(4, .int .i64 (IntKind.i64.wrap r184q)), (36, .int .i64 (IntKind.i64.wrap r184q)), (35, .int .u32 r184q)] (by kernel_rfl) (fun a219q h220q => ?_)
        clear h216q a215q
        refine WL.done (by kernel_rfl) ?_
        refine wp_ret ?_
        have hS221q : St b w0 W217q R (M167q :: [(g165q, .cells ([v169q, .slice A211q (p0.f1.drop r185q.toNat).length c212q, .bool p0.f2] : List Value).toArray 66 (0, 0))] :: Fs) := hS218q.bring 1 rfl rfl
        have hS222q : St b w0 W217q R ([(g165q, .cells ([v169q, .slice A211q (p0.f1.drop r185q.toNat).length c212q, .bool p0.f2] : List Value).toArray 66 (0, 0))] :: M167q :: Fs) := hS221q.bring 1 rfl rfl
        obtain ⟨M224q, hr223q, hM_⟩ := k66qmk (b := b) (w0 := w0) (R := R) (x := (⟨p0.f0, p0.f1.drop r185q.toNat, p0.f2⟩ : S66)) (gvf0 := hr172q) (gvf1 := hx206q)
        have hp225q : Ptr k66 66 b w0 R (.pointer (some ⟨g165q, 0, none⟩)) (⟨p0.f0, p0.f1.drop r185q.toNat, p0.f2⟩ : S66) ((g165q, .cells ([v169q, .slice A211q (p0.f1.drop r185q.toNat).length c212q, .bool p0.f2] : List Value).toArray 66 (0, 0)) :: M224q) := ⟨_, _, _, rfl, rfl, hr223q⟩
        rw [hM_] at hp225q
        have hS227q : St b w0 W217q R (((g165q, .cells ([v169q, .slice A211q (p0.f1.drop r185q.toNat).length c212q, .bool p0.f2] : List Value).toArray 66 (0, 0)) :: (M167q)) :: Fs) := hS222q.assoc (by simp only [List.flatten_cons, List.append_assoc, List.cons_append, List.nil_append, List.append_nil])
        obtain ⟨M228q, hM_⟩ : ∃ y : Frag, y = ((g165q, .cells ([v169q, .slice A211q (p0.f1.drop r185q.toNat).length c212q, .bool p0.f2] : List Value).toArray 66 (0, 0)) :: (M167q)) := ⟨_, rfl⟩
        rw [← hM_] at hp225q hS227q
        clear hM_
        obtain ⟨rfl, rfl⟩ := ret2 H
        repeat (first | refine then_ret ?_ | refine inBlock_ret ?_ | refine inBlock_go ?_)
        refine body_ret (v := .int .i64 (IntKind.i64.wrap r184q)) h220q (by kernel_rfl) (by kernel_rfl) ?_
        exact ⟨M228q, rfl, hp225q, hS227q⟩
      · rw [if_neg c205q] at H
        cases H
    · rw [if_neg c204q] at H
      cases H
  · rw [if_neg c197q] at H
    have hb_ : (decide (r186q = 0)) = false := decide_eq_false c197q
    try rw [hb_] at h196q
    clear hb_
    refine wp_then h196q rfl ?_
    refine wp_seq ?_
    refine WL.start ?_
    refine WL.block (c := 3) (m' := 3) h196q rfl [(22, .pointer (some ⟨g165q, 2, none⟩)), (21, .pointer (some ⟨g165q, 0, none⟩)), (20, .pointer (some ⟨g165q, 0, none⟩))] (by kernel_rfl) (fun a229q h230q => ?_)
    clear h196q a195q
    refine WL.op' (m := 3) h230q rfl rfl ?_
    refine owp_store (i := 2) (vs := ([.bool true] : List Value)) h230q rfl (by kernel_rfl) rfl rfl rfl rfl (by simp [Value.oneCell']) (by kernel_rfl) hS192q (by simp) (cs' := ([v169q, .slice A174q p0.f1.length c175q, .bool true] : List Value)) rfl (fun a231q W233q h232q hS234q => ?_)
    clear h230q a229q
    refine WL.done (by kernel_rfl) ?_
    refine wp_seq ?_
    refine WL.start ?_
    refine WL.block (c := 3) (m' := 3) h232q rfl [(25, .pointer (some ⟨g165q, 1, none⟩)), (24, .pointer (some ⟨g165q, 0, none⟩)), (23, .pointer (some ⟨g165q, 0, none⟩))] (by kernel_rfl) (fun a235q h236q => ?_)
    clear h232q a231q
    refine WL.op' (m := 3) h236q rfl rfl ?_
    refine owp_store (i := 1) (vs := ([.slice none 0 0] : List Value)) h236q rfl (by kernel_rfl) rfl rfl rfl rfl (by simp [Value.oneCell']) (by kernel_rfl) hS234q (by simp) (cs' := ([v169q, .slice none 0 0, .bool true] : List Value)) rfl (fun a237q W239q h238q hS240q => ?_)
    clear h236q a235q
    refine WL.done (by kernel_rfl) ?_
    refine wp_seq ?_
    refine WL.start ?_
    refine WL.block (c := 1) (m' := 1) h238q rfl [(4, .int .i64 0)] (by kernel_rfl) (fun a241q h242q => ?_)
    clear h238q a237q
    refine WL.done (by kernel_rfl) ?_
    refine wp_ret ?_
    have hS243q : St b w0 W239q R (M167q :: [(g165q, .cells ([v169q, .slice none 0 0, .bool true] : List Value).toArray 66 (0, 0))] :: Fs) := hS240q.bring 1 rfl rfl
    have hS244q : St b w0 W239q R ([(g165q, .cells ([v169q, .slice none 0 0, .bool true] : List Value).toArray 66 (0, 0))] :: M167q :: Fs) := hS243q.bring 1 rfl rfl
    obtain ⟨M246q, hr245q, hM_⟩ := k66qmk (b := b) (w0 := w0) (R := R) (x := (⟨p0.f0, ([] : List Int), true⟩ : S66)) (gvf0 := hr172q) (gvf1 := Rds.nil)
    have hp247q : Ptr k66 66 b w0 R (.pointer (some ⟨g165q, 0, none⟩)) (⟨p0.f0, ([] : List Int), true⟩ : S66) ((g165q, .cells ([v169q, .slice none 0 0, .bool true] : List Value).toArray 66 (0, 0)) :: M246q) := ⟨_, _, _, rfl, rfl, hr245q⟩
    rw [hM_] at hp247q
    have hS249q : St b w0 W239q R (((g165q, .cells ([v169q, .slice none 0 0, .bool true] : List Value).toArray 66 (0, 0)) :: (M167q)) :: Fs) := hS244q.assoc (by simp only [List.flatten_cons, List.append_assoc, List.cons_append, List.nil_append, List.append_nil])
    obtain ⟨M250q, hM_⟩ : ∃ y : Frag, y = ((g165q, .cells ([v169q, .slice none 0 0, .bool true] : List Value).toArray 66 (0, 0)) :: (M167q)) := ⟨_, rfl⟩
    rw [← hM_] at hp247q hS249q
    clear hM_
    obtain ⟨rfl, rfl⟩ := ret2 H
    repeat (first | refine then_ret ?_ | refine inBlock_ret ?_ | refine inBlock_go ?_)
    refine body_ret (v := .int .i64 0) h242q (by kernel_rfl) (by kernel_rfl) ?_
    exact ⟨M250q, rfl, hp247q, hS249q⟩

/-! ### louver/statics.At -/
def statics_At.f (p0 : Int) : Option (S52 × Bool) := if p0 < 1 then (some ((⟨([] : List UInt8), ([] : List UInt8), false⟩ : S52), false)) else (if p0 > 61 then (some ((⟨([] : List UInt8), ([] : List UInt8), false⟩ : S52), false)) else (if 0 ≤ (IntKind.i64.wrap (p0 - 1)) then (if (IntKind.i64.wrap (p0 - 1)) < (61 : Int) then (some ((⟨(gt z52 G0 (IntKind.i64.wrap (p0 - 1))).f0, (gt z52 G0 (IntKind.i64.wrap (p0 - 1))).f1, (gt z52 G0 (IntKind.i64.wrap (p0 - 1))).f2⟩ : S52), true)) else (none)) else (none)))
set_option maxHeartbeats 2000000 in
set_option maxRecDepth 100000 in
theorem statics_At.calls {b : Nat} {w0 W : World} {R : Frag} {Fs : List Frag} {p0 : Int}  {r0q : S52} {r1q : Bool} (hg0 : Rds k52 b w0 [] (.slice (some ⟨0, 0, none⟩) 61 61) G0) (H : statics_At.f p0 = some (r0q, r1q)) (hS : St b w0 W R (Fs)) :
    Calls Tryd.prog 50 ([.int .i64 p0] : List Value).toArray W (fun e W' => e = .returned (.tuple #[.agg #[.string (mkS r0q.f0), .string (mkS r0q.f1), .bool r0q.f2], .bool r1q]) ∧ St b w0 W' R (Fs)) := by
  unfold statics_At.f at H
  refine calls_enter Tryd.func50 rfl 15 rfl (by kernel_rfl) (fun a h => ?_)
  refine wp_seq ?_
  refine WL.start ?_
  refine WL.op' (m := 0) h rfl rfl ?_
  refine owp_new (fun g_ => .pointer (some ⟨g_, 0, none⟩)) (.cells ([.string (mkS ([] : List UInt8)), .string (mkS ([] : List UInt8)), .bool false] : List Value).toArray 52 (0, 0)) h rfl (by kernel_rfl) (by kernel_rfl) hS (fun a66q W68q g69q h67q hS70q => ?_)
  refine WL.block (c := 1) (m' := 2) h67q rfl [(3, .bool false)] (by kernel_rfl) (fun a71q h72q => ?_)
  clear h67q a66q
  refine WL.done (by kernel_rfl) ?_
  refine wp_seq ?_
  refine wp_seq ?_
  refine WL.start ?_
  refine WL.block (c := 3) (m' := 3) h72q rfl [(6, .bool (decide (p0 < 1))), (5, .bool (decide (p0 < 1))), (4, .int .i64 p0)] (by kernel_rfl) (fun a73q h74q => ?_)
  clear h72q a71q
  by_cases c75q : p0 < 1
  · rw [if_pos c75q] at H
    have hb_ : (decide (p0 < 1)) = true := decide_eq_true c75q
    try rw [hb_] at h74q
    clear hb_
    refine WL.skipped (m := 3) h74q rfl rfl (by kernel_rfl) rfl (fun a76q h77q => ?_)
    clear h74q a73q
    refine WL.skipped (m := 4) h77q rfl rfl (by kernel_rfl) rfl (fun a78q h79q => ?_)
    clear h77q a76q
    refine WL.block (c := 1) (m' := 6) h79q rfl [(9, .bool true)] (by kernel_rfl) (fun a80q h81q => ?_)
    clear h79q a78q
    refine WL.done (by kernel_rfl) ?_
    refine wp_then h81q rfl ?_
    refine wp_seq ?_
    refine WL.start ?_
    refine WL.block (c := 1) (m' := 1) h81q rfl [(10, .agg #[.string (mkS ([] : List UInt8)), .string (mkS ([] : List UInt8)), .bool false])] (by kernel_rfl) (fun a82q h83q => ?_)
    clear h81q a80q
    refine WL.op' (m := 1) h83q rfl rfl ?_
    refine owp_store (i := 0) (vs := ([.string (mkS ([] : List UInt8)), .string (mkS ([] : List UInt8)), .bool false] : List Value)) h83q rfl (by kernel_rfl) rfl rfl rfl rfl (by simp [Value.oneCell']) (by kernel_rfl) hS70q (by simp) (cs' := ([.string (mkS ([] : List UInt8)), .string (mkS ([] : List UInt8)), .bool false] : List Value)) rfl (fun a84q W86q h85q hS87q => ?_)
    clear h83q a82q
    refine WL.block (c := 1) (m' := 3) h85q rfl [(3, .bool false)] (by kernel_rfl) (fun a88q h89q => ?_)
    clear h85q a84q
    refine WL.done (by kernel_rfl) ?_
    refine wp_ret ?_
    have hS90q : St b w0 W86q R (Fs) := hS87q.drop_
    obtain ⟨rfl, rfl⟩ := ret2 H
    repeat (first | refine then_ret ?_ | refine inBlock_ret ?_ | refine inBlock_go ?_)
    refine body_ret (v := .tuple #[.agg #[.string (mkS ([] : List UInt8)), .string (mkS ([] : List UInt8)), .bool false], .bool false]) h89q (by kernel_rfl) (res_many (xs := [ResultVar.cell 2 52, ResultVar.tmp 3]) rfl ⟨⟨_, rfl, loadVarN Tryd.underlying52 rfl (cs := ([.string (mkS ([] : List UInt8)), .string (mkS ([] : List UInt8)), .bool false] : List Value)) (by kernel_rfl) (hS87q.cells (vs := ([.string (mkS ([] : List UInt8)), .string (mkS ([] : List UInt8)), .bool false] : List Value)) rfl)⟩, rfl, trivial⟩ rfl) ?_
    exact ⟨rfl, hS90q⟩
  · rw [if_neg c75q] at H
    have hb_ : (decide (p0 < 1)) = false := decide_eq_false c75q
    try rw [hb_] at h74q
    clear hb_
    refine WL.op' (m := 3) h74q rfl rfl (owp_run h74q rfl (by kernel_rfl) (v := .int .i64 p0) (by kernel_rfl) (fun a91q h92q => ?_))
    clear h74q a73q
    refine WL.op' (m := 4) h92q rfl rfl (owp_run h92q rfl (by kernel_rfl) (v := .bool (decide (p0 > 61))) (by kernel_rfl) (fun a93q h94q => ?_))
    clear h92q a91q
    refine WL.block (c := 1) (m' := 6) h94q rfl [(9, .bool (decide (p0 > 61)))] (by kernel_rfl) (fun a95q h96q => ?_)
    clear h94q a93q
    refine WL.done (by kernel_rfl) ?_
    by_cases c97q : p0 > 61
    · rw [if_pos c97q] at H
      have hb_ : (decide (p0 > 61)) = true := decide_eq_true c97q
      try rw [hb_] at h96q
      clear hb_
      refine wp_then h96q rfl ?_
      refine wp_seq ?_
      refine WL.start ?_
      refine WL.block (c := 1) (m' := 1) h96q rfl [(10, .agg #[.string (mkS ([] : List UInt8)), .string (mkS ([] : List UInt8)), .bool false])] (by kernel_rfl) (fun a98q h99q => ?_)
      clear h96q a95q
      refine WL.op' (m := 1) h99q rfl rfl ?_
      refine owp_store (i := 0) (vs := ([.string (mkS ([] : List UInt8)), .string (mkS ([] : List UInt8)), .bool false] : List Value)) h99q rfl (by kernel_rfl) rfl rfl rfl rfl (by simp [Value.oneCell']) (by kernel_rfl) hS70q (by simp) (cs' := ([.string (mkS ([] : List UInt8)), .string (mkS ([] : List UInt8)), .bool false] : List Value)) rfl (fun a100q W102q h101q hS103q => ?_)
      clear h99q a98q
      refine WL.block (c := 1) (m' := 3) h101q rfl [(3, .bool false)] (by kernel_rfl) (fun a104q h105q => ?_)
      clear h101q a100q
      refine WL.done (by kernel_rfl) ?_
      refine wp_ret ?_
      have hS106q : St b w0 W102q R (Fs) := hS103q.drop_
      obtain ⟨rfl, rfl⟩ := ret2 H
      repeat (first | refine then_ret ?_ | refine inBlock_ret ?_ | refine inBlock_go ?_)
      refine body_ret (v := .tuple #[.agg #[.string (mkS ([] : List UInt8)), .string (mkS ([] : List UInt8)), .bool false], .bool false]) h105q (by kernel_rfl) (res_many (xs := [ResultVar.cell 2 52, ResultVar.tmp 3]) rfl ⟨⟨_, rfl, loadVarN Tryd.underlying52 rfl (cs := ([.string (mkS ([] : List UInt8)), .string (mkS ([] : List UInt8)), .bool false] : List Value)) (by kernel_rfl) (hS103q.cells (vs := ([.string (mkS ([] : List UInt8)), .string (mkS ([] : List UInt8)), .bool false] : List Value)) rfl)⟩, rfl, trivial⟩ rfl) ?_
      exact ⟨rfl, hS106q⟩
    · rw [if_neg c97q] at H
      have hb_ : (decide (p0 > 61)) = false := decide_eq_false c97q
      try rw [hb_] at h96q
      clear hb_
      refine wp_else h96q rfl ?_
      refine wp_skip ?_
      refine wp_seq ?_
      refine WL.start ?_
      refine WL.block (c := 2) (m' := 2) h96q rfl [(12, .int .i64 (IntKind.i64.wrap (p0 - 1))), (11, .int .i64 p0)] (by kernel_rfl) (fun a107q h108q => ?_)
      clear h96q a95q
      by_cases c109q : 0 ≤ (IntKind.i64.wrap (p0 - 1))
      · rw [if_pos c109q] at H
        by_cases c110q : (IntKind.i64.wrap (p0 - 1)) < (61 : Int)
        · rw [if_pos c110q] at H
          have hx111q : Rds k52 b w0 R (.slice (some ⟨0, 0, none⟩) 61 61) G0 := Rds.mono (fun _ h_ => by cases h_) hg0
          have hi112q : 0 ≤ (IntKind.i64.wrap (p0 - 1)) := by first | assumption | omega
          have hi114q : (IntKind.i64.wrap (p0 - 1)) < ((61 : Nat) : Int) := by omega
          have hi113q : (IntKind.i64.wrap (p0 - 1)) < (G0.length : Int) := by rw [G0qlen]; exact hi114q
          refine WL.op' (m := 2) h108q rfl rfl ?_
          refine owp_run (v := .pointer (some ((⟨0, 0, none⟩ : Addr).add ((IntKind.i64.wrap (p0 - 1)).toNat * 3)))) h108q rfl (by kernel_rfl) (run_idxarr (ad := ⟨0, 0, none⟩) (sz := 3) rfl rfl rfl Tryd.underlying106 (by kernel_rfl) hi112q hi114q) (fun a115q h116q => ?_)
          clear h108q a107q
          obtain ⟨ad117q, cs118q, ha119q, hr121q, hc120q⟩ := Rds.elemAny hx111q hi112q (gt_get (z := z52) hi112q hi113q)
          obtain rfl := Option.some.inj ha119q
          obtain rfl := k52qrd hr121q
          refine WL.op' (m := 3) h116q rfl rfl ?_
          refine owp_run (v := .agg #[.string (mkS ((gt z52 G0 (IntKind.i64.wrap (p0 - 1))).f0)), .string (mkS ((gt z52 G0 (IntKind.i64.wrap (p0 - 1))).f1)), .bool ((gt z52 G0 (IntKind.i64.wrap (p0 - 1))).f2)]) h116q rfl (by kernel_rfl) (run_loadN rfl rfl Tryd.underlying52 rfl (cs := ([.string (mkS ((gt z52 G0 (IntKind.i64.wrap (p0 - 1))).f0)), .string (mkS ((gt z52 G0 (IntKind.i64.wrap (p0 - 1))).f1)), .bool ((gt z52 G0 (IntKind.i64.wrap (p0 - 1))).f2)] : List Value)) (by kernel_rfl) (hc120q _ (fun _ _ hk_ => hS70q.kn hk_))) (fun a122q h123q => ?_)
          clear h116q a115q
          refine WL.op' (m := 4) h123q rfl rfl ?_
          refine owp_store (i := 0) (vs := ([.string (mkS ((gt z52 G0 (IntKind.i64.wrap (p0 - 1))).f0)), .string (mkS ((gt z52 G0 (IntKind.i64.wrap (p0 - 1))).f1)), .bool ((gt z52 G0 (IntKind.i64.wrap (p0 - 1))).f2)] : List Value)) h123q rfl (by kernel_rfl) rfl rfl rfl rfl (by simp [Value.oneCell']) (by kernel_rfl) hS70q (by simp) (cs' := ([.string (mkS ((gt z52 G0 (IntKind.i64.wrap (p0 - 1))).f0)), .string (mkS ((gt z52 G0 (IntKind.i64.wrap (p0 - 1))).f1)), .bool ((gt z52 G0 (IntKind.i64.wrap (p0 - 1))).f2)] : List Value)) rfl (fun a124q W126q h125q hS127q => ?_)
          clear h123q a122q
          refine WL.block (c := 1) (m' := 6) h125q rfl [(3, .bool true)] (by kernel_rfl) (fun a128q h129q => ?_)
          clear h125q a124q
          refine WL.done (by kernel_rfl) ?_
          refine wp_ret ?_
          have hS130q : St b w0 W126q R (Fs) := hS127q.drop_
          obtain ⟨rfl, rfl⟩ := ret2 H
          repeat (first | refine then_ret ?_ | refine inBlock_ret ?_ | refine inBlock_go ?_)
          refine body_ret (v := .tuple #[.agg #[.string (mkS ((gt z52 G0 (IntKind.i64.wrap (p0 - 1))).f0)), .string (mkS ((gt z52 G0 (IntKind.i64.wrap (p0 - 1))).f1)), .bool ((gt z52 G0 (IntKind.i64.wrap (p0 - 1))).f2)], .bool true]) h129q (by kernel_rfl) (res_many (xs := [ResultVar.cell 2 52, ResultVar.tmp 3]) rfl ⟨⟨_, rfl, loadVarN Tryd.underlying52 rfl (cs := ([.string (mkS ((gt z52 G0 (IntKind.i64.wrap (p0 - 1))).f0)), .string (mkS ((gt z52 G0 (IntKind.i64.wrap (p0 - 1))).f1)), .bool ((gt z52 G0 (IntKind.i64.wrap (p0 - 1))).f2)] : List Value)) (by kernel_rfl) (hS127q.cells (vs := ([.string (mkS ((gt z52 G0 (IntKind.i64.wrap (p0 - 1))).f0)), .string (mkS ((gt z52 G0 (IntKind.i64.wrap (p0 - 1))).f1)), .bool ((gt z52 G0 (IntKind.i64.wrap (p0 - 1))).f2)] : List Value)) rfl)⟩, rfl, trivial⟩ rfl) ?_
          exact ⟨rfl, hS130q⟩
        · rw [if_neg c110q] at H
          cases H
      · rw [if_neg c109q] at H
        cases H

/-! ### (*louver/dyntable.Table).Len -/
def dyntable_Table_Len.f (p0 : S79) : Option (Int) := some (p0.f0.length : Int)
set_option maxHeartbeats 2000000 in
set_option maxRecDepth 100000 in
theorem dyntable_Table_Len.calls {b : Nat} {w0 W : World} {R : Frag} {Fs : List Frag} {p0 : S79}  {v0 : Value} {M0 : Frag} {r0q : Int} (hp0 : Ptr k79 79 b w0 R v0 p0 M0) (H : dyntable_Table_Len.f p0 = some r0q) (hS : St b w0 W R (M0 :: Fs)) :
    Calls Tryd.prog 52 ([v0] : List Value).toArray W (fun e W' => ∃ (O0q : Frag), e = .returned (.int .i64 r0q) ∧ Ptr k79 79 b w0 R v0 p0 O0q ∧ St b w0 W' R (O0q :: Fs)) := by
  unfold dyntable_Table_Len.f at H
  refine calls_enter Tryd.func52 rfl 10 rfl (by kernel_rfl) (fun a h => ?_)
  refine wp_seq ?_
  refine WL.start ?_
  refine WL.block (c := 1) (m' := 1) h rfl [(2, .int .i64 0)] (by kernel_rfl) (fun a31q h32q => ?_)
  refine WL.done (by kernel_rfl) ?_
  refine wp_seq ?_
  refine wp_seq ?_
  refine WL.start ?_
  refine WL.block (c := 1) (m' := 1) h32q rfl [(3, v0)] (by kernel_rfl) (fun a33q h34q => ?_)
  clear h32q a31q
  obtain ⟨g35q, cs36q, M37q, hv_, hM_, hr38q⟩ := hp0
  obtain ⟨v39q, M40q, rfl, hM2q, hr41q⟩ := k79qrep hr38q
  subst hM2q
  subst hM_
  subst hv_
  replace hr41q : Row k52 52 b w0 R v39q p0.f0 M37q := hr41q
  obtain ⟨A42q, c43q, rfl⟩ := hr41q.form
  have hS44q : St b w0 W R ([(g35q, .cells ([.slice A42q p0.f0.length c43q, .int .i64 p0.f1, .int .i64 p0.f2] : List Value).toArray 79 (0, 0))] :: M37q :: Fs) := hS.assoc (by simp only [List.flatten_cons, List.append_assoc, List.cons_append, List.nil_append, List.append_nil])
  refine WL.block (c := 1) (m' := 2) h34q rfl [(4, .bool false)] (by kernel_rfl) (fun a45q h46q => ?_)
  clear h34q a33q
  refine WL.done (by kernel_rfl) ?_
  refine wp_else h46q rfl ?_
  refine wp_skip ?_
  refine wp_seq ?_
  refine WL.start ?_
  refine WL.block (c := 3) (m' := 3) h46q rfl [(7, .pointer (some ⟨g35q, 0, none⟩)), (6, .pointer (some ⟨g35q, 0, none⟩)), (5, .pointer (some ⟨g35q, 0, none⟩))] (by kernel_rfl) (fun a47q h48q => ?_)
  clear h46q a45q
  refine WL.op' (m := 3) h48q rfl rfl ?_
  refine owp_run (v := .slice A42q p0.f0.length c43q) h48q rfl (by kernel_rfl) (run_load1 rfl rfl Tryd.underlying23 rfl (hS44q.cell (i := 0) rfl)) (fun a49q h50q => ?_)
  clear h48q a47q
  refine WL.block (c := 2) (m' := 6) h50q rfl [(2, .int .i64 (p0.f0.length : Int)), (9, .int .i64 (p0.f0.length : Int))] (by kernel_rfl) (fun a51q h52q => ?_)
  clear h50q a49q
  refine WL.done (by kernel_rfl) ?_
  refine wp_ret ?_
  have hS53q : St b w0 W R (M37q :: [(g35q, .cells ([.slice A42q p0.f0.length c43q, .int .i64 p0.f1, .int .i64 p0.f2] : List Value).toArray 79 (0, 0))] :: Fs) := hS44q.bring 1 rfl rfl
  have hS54q : St b w0 W R ([(g35q, .cells ([.slice A42q p0.f0.length c43q, .int .i64 p0.f1, .int .i64 p0.f2] : List Value).toArray 79 (0, 0))] :: M37q :: Fs) := hS53q.bring 1 rfl rfl
  obtain ⟨M56q, hr55q, hM_⟩ := k79qmk (b := b) (w0 := w0) (R := R) (x := p0) (gvf0 := hr41q)
  have hp57q : Ptr k79 79 b w0 R (.pointer (some ⟨g35q, 0, none⟩)) p0 ((g35q, .cells ([.slice A42q p0.f0.length c43q, .int .i64 p0.f1, .int .i64 p0.f2] : List Value).toArray 79 (0, 0)) :: M56q) := ⟨_, _, _, rfl, rfl, hr55q⟩
  rw [hM_] at hp57q
  have hS59q : St b w0 W R (((g35q, .cells ([.slice A42q p0.f0.length c43q, .int .i64 p0.f1, .int .i64 p0.f2] : List Value).toArray 79 (0, 0)) :: (M37q)) :: Fs) := hS54q.assoc (by simp only [List.flatten_cons, List.append_assoc, List.cons_append, List.nil_append, List.append_nil])
  obtain ⟨M60q, hM_⟩ : ∃ y : Frag, y = ((g35q, .cells ([.slice A42q p0.f0.length c43q, .int .i64 p0.f1, .int .i64 p0.f2] : List Value).toArray 79 (0, 0)) :: (M37q)) := ⟨_, rfl⟩
  rw [← hM_] at hp57q hS59q
  clear hM_
  obtain rfl := Option.some.inj H
  repeat (first | refine then_ret ?_ | refine inBlock_ret ?_ | refine inBlock_go ?_)
  refine body_ret (v := .int .i64 (p0.f0.length : Int)) h52q (by kernel_rfl) (by kernel_rfl) ?_
  exact ⟨M60q, rfl, hp57q, hS59q⟩
end Go.Proofs.YtinebjcfgmoniaaDoor.Sl
