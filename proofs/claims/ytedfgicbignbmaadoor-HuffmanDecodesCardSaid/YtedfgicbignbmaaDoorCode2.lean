/- What the functions of this program compute, told as plain functions, and that the calls come to just that. Printed by this session's program; part 2. -/
import Derived.Test.YtedfgicbignbmaaDoorCode1
set_option linter.unusedVariables false
set_option linter.unusedSimpArgs false
set_option linter.unnecessarySimpa false
namespace Go.Proofs.YtedfgicbignbmaaDoor.Sl
open Go Go.RowKit Go.Proofs.Sl
/-! ### louver/huffman.Decode -/
mutual
def huffman_Decode.l0 : Nat → (List (S45 × Int)) → Int → (List S45) → (List Int) → Option ((List UInt8) × Int)
  | 0, _, _, _, _ => none
  | k + 1, x1323q, x1326q, r1308q, p0 => if x1326q < 257 then (if 0 ≤ x1326q then (if x1326q < (257 : Int) then (if mget x1323q (⟨(gt z45 r1308q x1326q).f0, (gt z45 r1308q x1326q).f1⟩ : S45) = none then (huffman_Decode.l0 k (x1323q ++ [((⟨(gt z45 r1308q x1326q).f0, (gt z45 r1308q x1326q).f1⟩ : S45), x1326q)]) (IntKind.i64.wrap (x1326q + 1)) r1308q p0) else (none)) else (none)) else (none)) else (huffman_Decode.l1 k ([] : List Int) 0 0 0 p0 x1323q)
def huffman_Decode.l1 : Nat → (List Int) → Int → Int → Int → (List Int) → (List (S45 × Int)) → Option ((List UInt8) × Int)
  | 0, _, _, _, _, _, _ => none
  | k + 1, x1383q, x1388q, x1389q, x1390q, p0, x1323q => if x1390q < (p0.length : Int) then (if 0 ≤ x1390q then (huffman_Decode.l2 k x1383q x1388q x1389q 7 p0 x1323q x1390q) else (none)) else (if x1389q > 7 then (some (([] : List UInt8), 3)) else (if 0 ≤ x1389q then (if x1388q = (IntKind.u32.wrap ((shlI .u32 1 x1389q) - 1)) then (some (toS x1383q, 0)) else (some (([] : List UInt8), 3))) else (none)))
def huffman_Decode.l2 : Nat → (List Int) → Int → Int → Int → (List Int) → (List (S45 × Int)) → Int → Option ((List UInt8) × Int)
  | 0, _, _, _, _, _, _, _ => none
  | k + 1, x1422q, x1427q, x1428q, x1429q, p0, x1323q, x1390q => if x1429q ≥ 0 then (if 0 ≤ x1429q then (if (mget x1323q (⟨bOr .u32 (shlI .u32 x1427q 1) (bAnd .u32 (IntKind.u32.wrap (shrI .u8 (gt (0 : Int) p0 x1390q) x1429q)) 1), IntKind.u8.wrap (x1428q + 1)⟩ : S45)).isSome = true then (if ((mget x1323q (⟨bOr .u32 (shlI .u32 x1427q 1) (bAnd .u32 (IntKind.u32.wrap (shrI .u8 (gt (0 : Int) p0 x1390q) x1429q)) 1), IntKind.u8.wrap (x1428q + 1)⟩ : S45)).getD 0) = 256 then (some (([] : List UInt8), 3)) else (if x1422q.length + 1 ≤ 140737488355328 then (lt1 (x1422q ++ ([IntKind.u8.wrap ((mget x1323q (⟨bOr .u32 (shlI .u32 x1427q 1) (bAnd .u32 (IntKind.u32.wrap (shrI .u8 (gt (0 : Int) p0 x1390q) x1429q)) 1), IntKind.u8.wrap (x1428q + 1)⟩ : S45)).getD 0)] : List Int) : List Int) fun y1566q => (huffman_Decode.l2 k y1566q 0 0 (IntKind.i64.wrap (x1429q - 1)) p0 x1323q x1390q)) else (none))) else (huffman_Decode.l2 k x1422q (bOr .u32 (shlI .u32 x1427q 1) (bAnd .u32 (IntKind.u32.wrap (shrI .u8 (gt (0 : Int) p0 x1390q) x1429q)) 1)) (IntKind.u8.wrap (x1428q + 1)) (IntKind.i64.wrap (x1429q - 1)) p0 x1323q x1390q)) else (none)) else (huffman_Decode.l1 k x1422q x1427q x1428q (IntKind.i64.wrap (x1390q + 1)) p0 x1323q)
end
def huffman_Decode.f (k : Nat) (p0 : (List Int)) : Option ((List UInt8) × Int) := bnd1 (huffman_codes.f k) fun r1308q => (huffman_Decode.l0 k ([] : List (S45 × Int)) 0 r1308q p0)
set_option maxHeartbeats 2000000 in
set_option maxRecDepth 100000 in
theorem huffman_Decode.calls (k : Nat) {b : Nat} {w0 W : World} {R : Frag} {Fs : List Frag} {p0 : (List Int)} {v0 : Value} {r0q : (List UInt8)} {r1q : Int} (hp0 : Rds (kInt .u8) b w0 R v0 p0) (hg0 : Rds (kInt .u8) b w0 [] (.slice (some ⟨0, 0, none⟩) 257 257) G0) (H : huffman_Decode.f k p0 = some (r0q, r1q)) (hS : St b w0 W R (Fs)) :
    Calls Tryd.prog 14 ([v0] : List Value).toArray W (fun e W' => e = .returned (.tuple #[.string (mkS r0q), .int .i64 r1q]) ∧ St b w0 W' R (Fs)) := by
  obtain ⟨A0, c0, rfl⟩ := hp0.form
  unfold huffman_Decode.f at H
  refine calls_enter Tryd.func14 rfl 83 rfl (by kernel_rfl) (fun a h => ?_)
  refine wp_seq ?_
  refine WL.start ?_
  refine WL.block (c := 2) (m' := 2) h rfl [(3, .int .i64 0), (2, .string (mkS ([] : List UInt8)))] (by kernel_rfl) (fun a1296q h1297q => ?_)
  refine WL.done (by kernel_rfl) ?_
  refine wp_seq ?_
  refine WL.start ?_
  refine WL.op' (m := 0) h1297q rfl rfl ?_
  refine owp_makemap (fk := (fun x : S45 => (.agg #[.int .u32 x.f0, .int .u8 x.f1] : Value))) (fv := (fun x : Int => (.int .i64 x : Value))) h1297q rfl (by kernel_rfl) rfl hS (fun a1298q W1300q g1301q M1302q h1299q hm1303q hS1304q => ?_)
  clear h1297q a1296q
  refine WL.block (c := 1) (m' := 2) h1299q rfl [(4, .map (some g1301q))] (by kernel_rfl) (fun a1305q h1306q => ?_)
  clear h1299q a1298q
  refine WL.done (by kernel_rfl) ?_
  refine wp_seq ?_
  refine wp_seq ?_
  refine WL.start ?_
  obtain ⟨r1308q, A1307q, H⟩ := bind1 H
  refine WL.op' (m := 0) h1306q rfl rfl ?_
  refine owp_call [] h1306q rfl (by kernel_rfl) rfl Tryd.func17 (by kernel_rfl) rfl (by kernel_rfl) (huffman_codes.calls k hg0 A1307q hS1304q) (fun e1310q W1309q hp1311q => ?_)
  obtain ⟨rfl, hl1314q, hS1315q⟩ := hp1311q
  refine ⟨_, rfl, fun a1312q h1313q => ?_⟩
  clear h1306q a1305q
  refine WL.block (c := 1) (m' := 2) h1313q rfl [(16, .int .i64 0)] (by kernel_rfl) (fun a1316q h1317q => ?_)
  clear h1313q a1312q
  refine WL.done (by kernel_rfl) ?_
  refine wp_block ?_
  refine wp_loop_ghost (fun kq_ a_ W_ => ∃ (x1323q : (List (S45 × Int))), ∃ (M1324q : Frag), ∃ (x1326q : Int), Hd a_ 83 [(0, .slice A0 p0.length c0), (4, .map (some g1301q)), (15, .agg (r1308q.flatMap (fun x : S45 => ([.int .u32 x.f0, .int .u8 x.f1] : List Value))).toArray), (16, .int .i64 x1326q)] ∧ Asd (huffman_Decode.l0 kq_ x1323q x1326q r1308q p0 = some (r0q, r1q)) ∧ Asd (kq_ ≤ k) ∧ Asd (St b w0 W_ R (M1324q :: Fs)) ∧ Asd (MapF (fun x : S45 => (.agg #[.int .u32 x.f0, .int .u8 x.f1] : Value)) (fun x : Int => (.int .i64 x : Value)) g1301q x1323q M1324q)) k ⟨([] : List (S45 × Int)), M1302q, 0, h1317q.keep ⟨rfl, rfl, rfl, rfl, trivial⟩, ⟨H⟩, ⟨Nat.le_refl _⟩, ⟨hS1315q⟩, ⟨hm1303q⟩⟩ ?_
  clear H hS1315q
  rintro k1322q a1319q W1320q ⟨x1323q, M1324q, x1326q, h1318q, ⟨H⟩, ⟨hkk1322q⟩, ⟨hS1321q⟩, ⟨hm1325q⟩⟩
  obtain _ | k1327q := k1322q
  · exact absurd H (by simp [huffman_Decode.l0])
  simp only [huffman_Decode.l0] at H
  refine wp_seq ?_
  refine WL.start ?_
  refine WL.block (c := 1) (m' := 1) h1318q rfl [(17, .bool (decide (x1326q < 257)))] (by kernel_rfl) (fun a1328q h1329q => ?_)
  clear h1318q a1319q
  refine WL.done (by kernel_rfl) ?_
  refine wp_seq ?_
  by_cases c1330q : x1326q < 257
  · rw [if_pos c1330q] at H
    have hb_ : (decide (x1326q < 257)) = true := decide_eq_true c1330q
    try rw [hb_] at h1329q
    clear hb_
    refine wp_then h1329q rfl ?_
    refine wp_skip ?_
    refine wp_seq ?_
    refine wp_block ?_
    refine wp_seq ?_
    refine WL.start ?_
    refine WL.block (c := 1) (m' := 1) h1329q rfl [(18, .int .i64 x1326q)] (by kernel_rfl) (fun a1331q h1332q => ?_)
    clear h1329q a1328q
    by_cases c1333q : 0 ≤ x1326q
    · rw [if_pos c1333q] at H
      by_cases c1334q : x1326q < (257 : Int)
      · rw [if_pos c1334q] at H
        have hi1335q : 0 ≤ x1326q := by first | assumption | omega
        have hi1337q : x1326q < ((257 : Nat) : Int) := by omega
        have hi1336q : x1326q < (r1308q.length : Int) := by rw [hl1314q]; exact hi1337q
        refine WL.op' (m := 1) h1332q rfl rfl ?_
        refine owp_run (v := .agg #[.int .u32 ((gt z45 r1308q x1326q).f0), .int .u8 ((gt z45 r1308q x1326q).f1)]) h1332q rfl (by kernel_rfl) (run_index_st rfl rfl rfl Tryd.underlying46 Tryd.underlying45 rfl (by kernel_rfl) hi1335q hi1337q (sz := 2) (cs' := ([.int .u32 ((gt z45 r1308q x1326q).f0), .int .u8 ((gt z45 r1308q x1326q).f1)] : List Value)) (flat_at (f := (fun x : S45 => ([.int .u32 x.f0, .int .u8 x.f1] : List Value))) (sz := 2) (fun _ => rfl) r1308q _ _ (gt_get (z := z45) hi1335q hi1336q))) (fun a1338q h1339q => ?_)
        clear h1332q a1331q
        refine WL.op' (m := 2) h1339q rfl rfl ?_
        refine owp_new (fun g_ => .pointer (some ⟨g_, 0, none⟩)) (.cells ([.int .u32 0, .int .u8 0] : List Value).toArray 45 (0, 0)) h1339q rfl (by kernel_rfl) (by kernel_rfl) hS1321q (fun a1340q W1342q g1343q h1341q hS1344q => ?_)
        clear h1339q a1338q
        refine WL.block (c := 1) (m' := 4) h1341q rfl [(5, .int .i64 x1326q)] (by kernel_rfl) (fun a1345q h1346q => ?_)
        clear h1341q a1340q
        refine WL.op' (m := 4) h1346q rfl rfl ?_
        refine owp_store (i := 0) (vs := ([.int .u32 ((gt z45 r1308q x1326q).f0), .int .u8 ((gt z45 r1308q x1326q).f1)] : List Value)) h1346q rfl (by kernel_rfl) rfl rfl rfl rfl (by simp [Value.oneCell']) (by kernel_rfl) hS1344q (by simp) (cs' := ([.int .u32 ((gt z45 r1308q x1326q).f0), .int .u8 ((gt z45 r1308q x1326q).f1)] : List Value)) rfl (fun a1347q W1349q h1348q hS1350q => ?_)
        clear h1346q a1345q
        refine WL.done (by kernel_rfl) ?_
        refine WL.start ?_
        refine WL.block (c := 1) (m' := 1) h1348q rfl [(20, .map (some g1301q))] (by kernel_rfl) (fun a1351q h1352q => ?_)
        clear h1348q a1347q
        refine WL.op' (m := 1) h1352q rfl rfl ?_
        refine owp_run (v := .agg #[.int .u32 ((gt z45 r1308q x1326q).f0), .int .u8 ((gt z45 r1308q x1326q).f1)]) h1352q rfl (by kernel_rfl) (run_loadN rfl rfl Tryd.underlying45 rfl (cs := ([.int .u32 ((gt z45 r1308q x1326q).f0), .int .u8 ((gt z45 r1308q x1326q).f1)] : List Value)) (by kernel_rfl) (hS1350q.cells (vs := ([.int .u32 ((gt z45 r1308q x1326q).f0), .int .u8 ((gt z45 r1308q x1326q).f1)] : List Value)) rfl)) (fun a1353q h1354q => ?_)
        clear h1352q a1351q
        refine WL.block (c := 1) (m' := 3) h1354q rfl [(22, .int .i64 x1326q)] (by kernel_rfl) (fun a1355q h1356q => ?_)
        clear h1354q a1353q
        by_cases c1357q : mget x1323q (⟨(gt z45 r1308q x1326q).f0, (gt z45 r1308q x1326q).f1⟩ : S45) = none
        · rw [if_pos c1357q] at H
          have hS1358q : St b w0 W1349q R (M1324q :: [(g1343q, .cells ([.int .u32 ((gt z45 r1308q x1326q).f0), .int .u8 ((gt z45 r1308q x1326q).f1)] : List Value).toArray 45 (0, 0))] :: Fs) := hS1350q.bring 1 rfl rfl
          refine WL.op' (m := 3) h1356q rfl rfl ?_
          refine owp_mapput (fk := (fun x : S45 => (.agg #[.int .u32 x.f0, .int .u8 x.f1] : Value))) (fv := (fun x : Int => (.int .i64 x : Value))) (kk := (⟨(gt z45 r1308q x1326q).f0, (gt z45 r1308q x1326q).f1⟩ : S45)) (vv := x1326q) h1356q rfl (by kernel_rfl) rfl rfl rfl rfl Tryd.underlying52 Tryd.underlying45 (fun _ _ => by kernel_rfl) (fun x_ y_ w_ => eq_dec (eqs_of (xs := [.int .u32 x_.f0, .int .u8 x_.f1]) (ys := [.int .u32 y_.f0, .int .u8 y_.f1]) Tryd.underlying45 (by kernel_rfl) (eqf_cons rfl (by kernel_rfl) rfl rfl (eqi_int Tryd.underlying22) (eqf_last rfl (by kernel_rfl) rfl rfl (eqi_int Tryd.underlying5)))) (by cases x_; cases y_; simp)) (by assumption) hm1325q hS1358q (fun a1359q W1361q M1362q h1360q hm1363q hS1364q => ?_)
          clear h1356q a1355q
          refine WL.done (by kernel_rfl) ?_
          refine WL.start ?_
          refine WL.block (c := 2) (m' := 2) h1360q rfl [(16, .int .i64 (IntKind.i64.wrap (x1326q + 1))), (23, .int .i64 (IntKind.i64.wrap (x1326q + 1)))] (by kernel_rfl) (fun a1365q h1366q => ?_)
          clear h1360q a1359q
          refine WL.done (by kernel_rfl) ?_
          have hS1367q : St b w0 W1361q R ([(g1343q, .cells ([.int .u32 ((gt z45 r1308q x1326q).f0), .int .u8 ((gt z45 r1308q x1326q).f1)] : List Value).toArray 45 (0, 0))] :: M1362q :: Fs) := hS1364q.bring 1 rfl rfl
          have hS1368q : St b w0 W1361q R (M1362q :: Fs) := hS1367q.drop_
          exact ⟨k1327q, by omega, x1323q ++ [((⟨(gt z45 r1308q x1326q).f0, (gt z45 r1308q x1326q).f1⟩ : S45), x1326q)], M1362q, IntKind.i64.wrap (x1326q + 1), h1366q.keep ⟨rfl, rfl, rfl, rfl, trivial⟩, ⟨H⟩, ⟨by omega⟩, ⟨hS1368q⟩, ⟨hm1363q⟩⟩
        · rw [if_neg c1357q] at H
          cases H
      · rw [if_neg c1334q] at H
        cases H
    · rw [if_neg c1333q] at H
      cases H
  · rw [if_neg c1330q] at H
    have hb_ : (decide (x1326q < 257)) = false := decide_eq_false c1330q
    try rw [hb_] at h1329q
    clear hb_
    refine wp_else h1329q rfl ?_
    refine wp_exit ?_
    refine wp_seq ?_
    refine WL.start ?_
    refine WL.block (c := 1) (m' := 1) h1329q rfl [(7, .slice none 0 0)] (by kernel_rfl) (fun a1369q h1370q => ?_)
    clear h1329q a1328q
    refine WL.done (by kernel_rfl) ?_
    refine wp_seq ?_
    refine WL.start ?_
    refine WL.op' (m := 0) h1370q rfl rfl ?_
    refine owp_new (fun g_ => .pointer (some ⟨g_, 0, none⟩)) (.cells ([.int .u32 0, .int .u8 0] : List Value).toArray 45 (0, 0)) h1370q rfl (by kernel_rfl) (by kernel_rfl) hS1321q (fun a1371q W1373q g1374q h1372q hS1375q => ?_)
    clear h1370q a1369q
    refine WL.done (by kernel_rfl) ?_
    refine wp_seq ?_
    refine wp_seq ?_
    refine WL.start ?_
    refine WL.block (c := 3) (m' := 3) h1372q rfl [(26, .int .i64 0), (25, .int .i64 (p0.length : Int)), (24, .slice A0 p0.length c0)] (by kernel_rfl) (fun a1376q h1377q => ?_)
    clear h1372q a1371q
    refine WL.done (by kernel_rfl) ?_
    refine wp_block ?_
    have hS1391q : St b w0 W1373q R (([] : Frag) :: [(g1374q, .cells ([.int .u32 0, .int .u8 0] : List Value).toArray 45 (0, 0))] :: M1324q :: Fs) := hS1375q.nil_
    have hS1392q : St b w0 W1373q R ([(g1374q, .cells ([.int .u32 0, .int .u8 0] : List Value).toArray 45 (0, 0))] :: ([] : Frag) :: M1324q :: Fs) := hS1391q.bring 1 rfl rfl
    have hS1393q : St b w0 W1373q R (([] : Frag) :: [(g1374q, .cells ([.int .u32 0, .int .u8 0] : List Value).toArray 45 (0, 0))] :: M1324q :: Fs) := hS1392q.bring 1 rfl rfl
    have hS1394q : St b w0 W1373q R (M1324q :: ([] : Frag) :: [(g1374q, .cells ([.int .u32 0, .int .u8 0] : List Value).toArray 45 (0, 0))] :: Fs) := hS1393q.bring 2 rfl rfl
    refine wp_loop_ghost (fun kq_ a_ W_ => ∃ (x1383q : (List Int)), ∃ (A1384q : Option Addr), ∃ (c1385q : Nat), ∃ (M1386q : Frag), ∃ (x1388q : Int), ∃ (x1389q : Int), ∃ (x1390q : Int), Hd a_ 83 [(4, .map (some g1301q)), (7, .slice A1384q x1383q.length c1385q), (8, .pointer (some ⟨g1374q, 0, none⟩)), (24, .slice A0 p0.length c0), (25, .int .i64 (p0.length : Int)), (26, .int .i64 x1390q)] ∧ Asd (huffman_Decode.l1 kq_ x1383q x1388q x1389q x1390q p0 x1323q = some (r0q, r1q)) ∧ Asd (kq_ ≤ k1327q) ∧ Asd (St b w0 W_ R (M1324q :: M1386q :: [(g1374q, .cells ([.int .u32 x1388q, .int .u8 x1389q] : List Value).toArray 45 (0, 0))] :: Fs)) ∧ Asd (Row (kInt .u8) 5 b w0 R (.slice A1384q x1383q.length c1385q) x1383q M1386q)) k1327q ⟨([] : List Int), none, 0, ([] : Frag), 0, 0, 0, h1377q.keep ⟨rfl, rfl, rfl, rfl, rfl, rfl, trivial⟩, ⟨H⟩, ⟨Nat.le_refl _⟩, ⟨hS1394q⟩, ⟨Row.nil⟩⟩ ?_
    clear H hS1394q
    rintro k1382q a1379q W1380q ⟨x1383q, A1384q, c1385q, M1386q, x1388q, x1389q, x1390q, h1378q, ⟨H⟩, ⟨hkk1382q⟩, ⟨hS1381q⟩, ⟨hr1387q⟩⟩
    obtain _ | k1395q := k1382q
    · exact absurd H (by simp [huffman_Decode.l1])
    simp only [huffman_Decode.l1] at H
    refine wp_seq ?_
    refine WL.start ?_
    refine WL.block (c := 1) (m' := 1) h1378q rfl [(27, .bool (decide (x1390q < (p0.length : Int))))] (by kernel_rfl) (fun a1396q h1397q => ?_)
    clear h1378q a1379q
    refine WL.done (by kernel_rfl) ?_
    refine wp_seq ?_
    by_cases c1398q : x1390q < (p0.length : Int)
    · rw [if_pos c1398q] at H
      have hb_ : (decide (x1390q < (p0.length : Int))) = true := decide_eq_true c1398q
      try rw [hb_] at h1397q
      clear hb_
      refine wp_then h1397q rfl ?_
      refine wp_skip ?_
      refine wp_seq ?_
      refine wp_block ?_
      refine wp_seq ?_
      refine WL.start ?_
      by_cases c1399q : 0 ≤ x1390q
      · rw [if_pos c1399q] at H
        have hi1402q : 0 ≤ x1390q := by first | assumption | omega
        have hi1403q : x1390q < (p0.length : Int) := by first | assumption | omega
        obtain ⟨ad1400q, _, ha1401q, -, -⟩ := Rds.elemAny hp0 hi1402q (gt_get (z := (0 : Int)) hi1402q hi1403q)
        refine WL.op' (m := 0) h1397q rfl rfl ?_
        refine owp_run (v := .pointer (some (ad1400q.add (x1390q.toNat * 1)))) h1397q rfl (by kernel_rfl) (run_idx (ad := ad1400q) (sz := 1) rfl (by rw [← ha1401q]; rfl) rfl Tryd.underlying33 (by kernel_rfl) hi1402q hi1403q) (fun a1404q h1405q => ?_)
        clear h1397q a1396q
        obtain ⟨ad1406q, cs1407q, ha1408q, hr1410q, hc1409q⟩ := Rds.elemAny hp0 hi1402q (gt_get (z := (0 : Int)) hi1402q hi1403q)
        rw [ha1401q] at ha1408q; obtain rfl := Option.some.inj ha1408q
        obtain rfl : cs1407q = [.int .u8 (gt (0 : Int) p0 x1390q)] := hr1410q
        refine WL.op' (m := 1) h1405q rfl rfl ?_
        refine owp_run (v := .int .u8 (gt (0 : Int) p0 x1390q)) h1405q rfl (by kernel_rfl) (run_load1 rfl rfl Tryd.underlying5 rfl (cell0 (hc1409q _ (fun _ _ hk_ => hS1381q.kn hk_)))) (fun a1411q h1412q => ?_)
        clear h1405q a1404q
        refine WL.block (c := 1) (m' := 3) h1412q rfl [(10, .int .u8 (gt (0 : Int) p0 x1390q))] (by kernel_rfl) (fun a1413q h1414q => ?_)
        clear h1412q a1411q
        refine WL.done (by kernel_rfl) ?_
        refine wp_seq ?_
        refine WL.start ?_
        refine WL.block (c := 1) (m' := 1) h1414q rfl [(11, .int .i64 7)] (by kernel_rfl) (fun a1415q h1416q => ?_)
        clear h1414q a1413q
        refine WL.done (by kernel_rfl) ?_
        refine wp_block ?_
        refine wp_loop_ghost (fun kq_ a_ W_ => ∃ (x1422q : (List Int)), ∃ (A1423q : Option Addr), ∃ (c1424q : Nat), ∃ (M1425q : Frag), ∃ (x1427q : Int), ∃ (x1428q : Int), ∃ (x1429q : Int), Hd a_ 83 [(4, .map (some g1301q)), (7, .slice A1423q x1422q.length c1424q), (8, .pointer (some ⟨g1374q, 0, none⟩)), (10, .int .u8 (gt (0 : Int) p0 x1390q)), (11, .int .i64 x1429q), (24, .slice A0 p0.length c0), (25, .int .i64 (p0.length : Int)), (26, .int .i64 x1390q)] ∧ Asd (huffman_Decode.l2 kq_ x1422q x1427q x1428q x1429q p0 x1323q x1390q = some (r0q, r1q)) ∧ Asd (kq_ ≤ k1395q) ∧ Asd (St b w0 W_ R (M1324q :: M1425q :: [(g1374q, .cells ([.int .u32 x1427q, .int .u8 x1428q] : List Value).toArray 45 (0, 0))] :: Fs)) ∧ Asd (Row (kInt .u8) 5 b w0 R (.slice A1423q x1422q.length c1424q) x1422q M1425q)) k1395q ⟨x1383q, A1384q, c1385q, M1386q, x1388q, x1389q, 7, h1416q.keep ⟨rfl, rfl, rfl, rfl, rfl, rfl, rfl, rfl, trivial⟩, ⟨H⟩, ⟨Nat.le_refl _⟩, ⟨hS1381q⟩, ⟨hr1387q⟩⟩ ?_
        clear H hS1381q
        rintro k1421q a1418q W1419q ⟨x1422q, A1423q, c1424q, M1425q, x1427q, x1428q, x1429q, h1417q, ⟨H⟩, ⟨hkk1421q⟩, ⟨hS1420q⟩, ⟨hr1426q⟩⟩
        obtain _ | k1430q := k1421q
        · exact absurd H (by simp [huffman_Decode.l2])
        simp only [huffman_Decode.l2] at H
        refine wp_seq ?_
        refine wp_seq ?_
        refine WL.start ?_
        refine WL.block (c := 2) (m' := 2) h1417q rfl [(31, .bool (decide (x1429q ≥ 0))), (30, .int .i64 x1429q)] (by kernel_rfl) (fun a1431q h1432q => ?_)
        clear h1417q a1418q
        refine WL.done (by kernel_rfl) ?_
        by_cases c1433q : x1429q ≥ 0
        · rw [if_pos c1433q] at H
          have hb_ : (decide (x1429q ≥ 0)) = true := decide_eq_true c1433q
          try rw [hb_] at h1432q
          clear hb_
          refine wp_then h1432q rfl ?_
          refine wp_skip ?_
          refine wp_seq ?_
          refine wp_block ?_
          refine wp_seq ?_
          refine WT.start 10 (fun w_ => (w_.cell? ⟨g1374q, 0, none⟩ = some (.int .u32 x1427q)) ∧ True) (by kernel_rfl) #[false, false, false, false, false, false, false, false, false, false, false] 11 rfl rfl ?_
          have hS1486q := hS1420q.drew
          refine WT.take 0 (listed' := #[true, false, false, false, false, false, false, false, false, false, false]) h1432q rfl rfl (by kernel_rfl) rfl rfl (.pointer (some ⟨g1374q, 0, none⟩)) (fun _ _ => by kernel_rfl) ⟨((hS1486q.bring 2 rfl rfl).cell (i := 0) rfl), trivial⟩ (fun _ _ _ h_ => h_) (fun a1487q h1488q => ?_)
          clear h1432q a1431q
          refine WT.take 3 (listed' := #[true, false, false, true, false, false, false, false, false, false, false]) h1488q rfl rfl (by kernel_rfl) rfl rfl (.int .u8 (gt (0 : Int) p0 x1390q)) (fun _ _ => by kernel_rfl) ⟨((hS1486q.bring 2 rfl rfl).cell (i := 0) rfl), trivial⟩ (fun _ _ _ h_ => h_) (fun a1489q h1490q => ?_)
          clear h1488q a1487q
          refine WT.take 4 (listed' := #[true, false, false, true, true, false, false, false, false, false, false]) h1490q rfl rfl (by kernel_rfl) rfl rfl (.int .i64 x1429q) (fun _ _ => by kernel_rfl) ⟨((hS1486q.bring 2 rfl rfl).cell (i := 0) rfl), trivial⟩ (fun _ _ _ h_ => h_) (fun a1491q h1492q => ?_)
          clear h1490q a1489q
          refine WT.take 1 (listed' := #[true, true, false, true, true, false, false, false, false, false, false]) h1492q rfl rfl (by kernel_rfl) rfl rfl (.int .u32 x1427q) (fun w_ hs_ => (run_load1 rfl rfl Tryd.underlying22 rfl hs_.1)) ⟨((hS1486q.bring 2 rfl rfl).cell (i := 0) rfl), trivial⟩ (fun _ _ _ h_ => h_) (fun a1493q h1494q => ?_)
          clear h1492q a1491q
          refine WT.take 2 (listed' := #[true, true, true, true, true, false, false, false, false, false, false]) h1494q rfl rfl (by kernel_rfl) rfl rfl (.int .u32 (shlI .u32 x1427q 1)) (fun _ _ => by kernel_rfl) ⟨((hS1486q.bring 2 rfl rfl).cell (i := 0) rfl), trivial⟩ (fun _ _ _ h_ => h_) (fun a1495q h1496q => ?_)
          clear h1494q a1493q
          by_cases c1497q : 0 ≤ x1429q
          · rw [if_pos c1497q] at H
            refine WT.take 5 (listed' := #[true, true, true, true, true, true, false, false, false, false, false]) h1496q rfl rfl (by kernel_rfl) rfl rfl (.int .u8 (shrI .u8 (gt (0 : Int) p0 x1390q) x1429q)) (fun w_ hs_ => (run_shr rfl rfl rfl (by assumption))) ⟨((hS1486q.bring 2 rfl rfl).cell (i := 0) rfl), trivial⟩ (fun _ _ _ h_ => h_) (fun a1498q h1499q => ?_)
            clear h1496q a1495q
            refine WT.take 6 (listed' := #[true, true, true, true, true, true, true, false, false, false, false]) h1499q rfl rfl (by kernel_rfl) rfl rfl (.int .u32 (IntKind.u32.wrap (shrI .u8 (gt (0 : Int) p0 x1390q) x1429q))) (fun _ _ => by kernel_rfl) ⟨((hS1486q.bring 2 rfl rfl).cell (i := 0) rfl), trivial⟩ (fun _ _ _ h_ => h_) (fun a1500q h1501q => ?_)
            clear h1499q a1498q
            refine WT.take 7 (listed' := #[true, true, true, true, true, true, true, true, false, false, false]) h1501q rfl rfl (by kernel_rfl) rfl rfl (.int .u32 (bAnd .u32 (IntKind.u32.wrap (shrI .u8 (gt (0 : Int) p0 x1390q) x1429q)) 1)) (fun _ _ => by kernel_rfl) ⟨((hS1486q.bring 2 rfl rfl).cell (i := 0) rfl), trivial⟩ (fun _ _ _ h_ => h_) (fun a1502q h1503q => ?_)
            clear h1501q a1500q
            refine WT.take 8 (listed' := #[true, true, true, true, true, true, true, true, true, false, false]) h1503q rfl rfl (by kernel_rfl) rfl rfl (.int .u32 (bOr .u32 (shlI .u32 x1427q 1) (bAnd .u32 (IntKind.u32.wrap (shrI .u8 (gt (0 : Int) p0 x1390q) x1429q)) 1))) (fun _ _ => by kernel_rfl) ⟨((hS1486q.bring 2 rfl rfl).cell (i := 0) rfl), trivial⟩ (fun _ _ _ h_ => h_) (fun a1504q h1505q => ?_)
            clear h1503q a1502q
            refine WT.take 9 (listed' := #[true, true, true, true, true, true, true, true, true, true, false]) h1505q rfl rfl (by kernel_rfl) rfl rfl (.pointer (some ⟨g1374q, 0, none⟩)) (fun _ _ => by kernel_rfl) ⟨((hS1486q.bring 2 rfl rfl).cell (i := 0) rfl), trivial⟩ (fun _ _ _ h_ => h_) (fun a1506q h1507q => ?_)
            clear h1505q a1504q
            have hS1508q : St b w0 W1419q.drew R ([(g1374q, .cells ([.int .u32 x1427q, .int .u8 x1428q] : List Value).toArray 45 (0, 0))] :: M1324q :: M1425q :: Fs) := hS1486q.bring 2 rfl rfl
            refine WT.op 10 (listed' := #[true, true, true, true, true, true, true, true, true, true, true]) h1507q rfl (by kernel_rfl) rfl rfl ?_
            refine owp_store (i := 0) (vs := ([.int .u32 (bOr .u32 (shlI .u32 x1427q 1) (bAnd .u32 (IntKind.u32.wrap (shrI .u8 (gt (0 : Int) p0 x1390q) x1429q)) 1))] : List Value)) h1507q rfl (by kernel_rfl) rfl rfl rfl rfl (by simp [Value.oneCell']) (by kernel_rfl) hS1508q (by simp) (cs' := ([.int .u32 (bOr .u32 (shlI .u32 x1427q 1) (bAnd .u32 (IntKind.u32.wrap (shrI .u8 (gt (0 : Int) p0 x1390q) x1429q)) 1)), .int .u8 x1428q] : List Value)) rfl (fun a1509q W1511q h1510q hS1512q => ?_)
            clear h1507q a1506q
            refine ⟨.inl (by decide), ?_⟩
            refine WT.done (by kernel_rfl) ?_
            refine wp_seq ?_
            refine WL.start ?_
            refine WL.block (c := 1) (m' := 1) h1510q rfl [(44, .pointer (some ⟨g1374q, 1, none⟩))] (by kernel_rfl) (fun a1513q h1514q => ?_)
            clear h1510q a1509q
            refine WL.op' (m := 1) h1514q rfl rfl ?_
            refine owp_run (v := .int .u8 x1428q) h1514q rfl (by kernel_rfl) (run_load1 rfl rfl Tryd.underlying5 rfl (hS1512q.cell (i := 1) rfl)) (fun a1515q h1516q => ?_)
            clear h1514q a1513q
            refine WL.block (c := 2) (m' := 4) h1516q rfl [(47, .pointer (some ⟨g1374q, 1, none⟩)), (46, .int .u8 (IntKind.u8.wrap (x1428q + 1)))] (by kernel_rfl) (fun a1517q h1518q => ?_)
            clear h1516q a1515q
            refine WL.op' (m := 4) h1518q rfl rfl ?_
            refine owp_store (i := 1) (vs := ([.int .u8 (IntKind.u8.wrap (x1428q + 1))] : List Value)) h1518q rfl (by kernel_rfl) rfl rfl rfl rfl (by simp [Value.oneCell']) (by kernel_rfl) hS1512q (by simp) (cs' := ([.int .u32 (bOr .u32 (shlI .u32 x1427q 1) (bAnd .u32 (IntKind.u32.wrap (shrI .u8 (gt (0 : Int) p0 x1390q) x1429q)) 1)), .int .u8 (IntKind.u8.wrap (x1428q + 1))] : List Value)) rfl (fun a1519q W1521q h1520q hS1522q => ?_)
            clear h1518q a1517q
            refine WL.done (by kernel_rfl) ?_
            refine wp_seq ?_
            refine WL.start ?_
            refine WL.block (c := 1) (m' := 1) h1520q rfl [(49, .map (some g1301q))] (by kernel_rfl) (fun a1523q h1524q => ?_)
            clear h1520q a1519q
            refine WL.op' (m := 1) h1524q rfl rfl ?_
            refine owp_run (v := .agg #[.int .u32 (bOr .u32 (shlI .u32 x1427q 1) (bAnd .u32 (IntKind.u32.wrap (shrI .u8 (gt (0 : Int) p0 x1390q) x1429q)) 1)), .int .u8 (IntKind.u8.wrap (x1428q + 1))]) h1524q rfl (by kernel_rfl) (run_loadN rfl rfl Tryd.underlying45 rfl (cs := ([.int .u32 (bOr .u32 (shlI .u32 x1427q 1) (bAnd .u32 (IntKind.u32.wrap (shrI .u8 (gt (0 : Int) p0 x1390q) x1429q)) 1)), .int .u8 (IntKind.u8.wrap (x1428q + 1))] : List Value)) (by kernel_rfl) (hS1522q.cells (vs := ([.int .u32 (bOr .u32 (shlI .u32 x1427q 1) (bAnd .u32 (IntKind.u32.wrap (shrI .u8 (gt (0 : Int) p0 x1390q) x1429q)) 1)), .int .u8 (IntKind.u8.wrap (x1428q + 1))] : List Value)) rfl)) (fun a1525q h1526q => ?_)
            clear h1524q a1523q
            have hS1527q : St b w0 W1521q R (M1324q :: [(g1374q, .cells ([.int .u32 (bOr .u32 (shlI .u32 x1427q 1) (bAnd .u32 (IntKind.u32.wrap (shrI .u8 (gt (0 : Int) p0 x1390q) x1429q)) 1)), .int .u8 (IntKind.u8.wrap (x1428q + 1))] : List Value).toArray 45 (0, 0))] :: M1425q :: Fs) := hS1522q.bring 1 rfl rfl
            refine WL.op' (m := 2) h1526q rfl rfl ?_
            refine owp_run (v := .tuple #[.int .i64 ((mget x1323q (⟨bOr .u32 (shlI .u32 x1427q 1) (bAnd .u32 (IntKind.u32.wrap (shrI .u8 (gt (0 : Int) p0 x1390q) x1429q)) 1), IntKind.u8.wrap (x1428q + 1)⟩ : S45)).getD 0), .bool ((mget x1323q (⟨bOr .u32 (shlI .u32 x1427q 1) (bAnd .u32 (IntKind.u32.wrap (shrI .u8 (gt (0 : Int) p0 x1390q) x1429q)) 1), IntKind.u8.wrap (x1428q + 1)⟩ : S45)).isSome)]) h1526q rfl (by kernel_rfl) (run_mapget (fk := (fun x : S45 => (.agg #[.int .u32 x.f0, .int .u8 x.f1] : Value))) (fv := (fun x : Int => (.int .i64 x : Value))) (kk := (⟨bOr .u32 (shlI .u32 x1427q 1) (bAnd .u32 (IntKind.u32.wrap (shrI .u8 (gt (0 : Int) p0 x1390q) x1429q)) 1), IntKind.u8.wrap (x1428q + 1)⟩ : S45)) (z0 := 0) rfl rfl rfl Tryd.underlying52 Tryd.underlying45 (fun _ _ => by kernel_rfl) (fun x_ y_ w_ => eq_dec (eqs_of (xs := [.int .u32 x_.f0, .int .u8 x_.f1]) (ys := [.int .u32 y_.f0, .int .u8 y_.f1]) Tryd.underlying45 (by kernel_rfl) (eqf_cons rfl (by kernel_rfl) rfl rfl (eqi_int Tryd.underlying22) (eqf_last rfl (by kernel_rfl) rfl rfl (eqi_int Tryd.underlying5)))) (by cases x_; cases y_; simp)) (fun _ => by kernel_rfl) hm1325q hS1527q) (fun a1528q h1529q => ?_)
            clear h1526q a1525q
            refine WL.block (c := 5) (m' := 8) h1529q rfl [(13, .bool ((mget x1323q (⟨bOr .u32 (shlI .u32 x1427q 1) (bAnd .u32 (IntKind.u32.wrap (shrI .u8 (gt (0 : Int) p0 x1390q) x1429q)) 1), IntKind.u8.wrap (x1428q + 1)⟩ : S45)).isSome)), (12, .int .i64 ((mget x1323q (⟨bOr .u32 (shlI .u32 x1427q 1) (bAnd .u32 (IntKind.u32.wrap (shrI .u8 (gt (0 : Int) p0 x1390q) x1429q)) 1), IntKind.u8.wrap (x1428q + 1)⟩ : S45)).getD 0)), (53, .bool ((mget x1323q (⟨bOr .u32 (shlI .u32 x1427q 1) (bAnd .u32 (IntKind.u32.wrap (shrI .u8 (gt (0 : Int) p0 x1390q) x1429q)) 1), IntKind.u8.wrap (x1428q + 1)⟩ : S45)).isSome)), (52, .int .i64 ((mget x1323q (⟨bOr .u32 (shlI .u32 x1427q 1) (bAnd .u32 (IntKind.u32.wrap (shrI .u8 (gt (0 : Int) p0 x1390q) x1429q)) 1), IntKind.u8.wrap (x1428q + 1)⟩ : S45)).getD 0)), (48, .tuple #[.int .i64 ((mget x1323q (⟨bOr .u32 (shlI .u32 x1427q 1) (bAnd .u32 (IntKind.u32.wrap (shrI .u8 (gt (0 : Int) p0 x1390q) x1429q)) 1), IntKind.u8.wrap (x1428q + 1)⟩ : S45)).getD 0), .bool ((mget x1323q (⟨bOr .u32 (shlI .u32 x1427q 1) (bAnd .u32 (IntKind.u32.wrap (shrI .u8 (gt (0 : Int) p0 x1390q) x1429q)) 1), IntKind.u8.wrap (x1428q + 1)⟩ : S45)).isSome)])] (by kernel_rfl) (fun a1530q h1531q => ?_)
            clear h1529q a1528q
            refine WL.done (by kernel_rfl) ?_
            refine wp_block ?_
            refine wp_seq ?_
            refine WL.start ?_
            refine WL.block (c := 2) (m' := 2) h1531q rfl [(56, .bool ((mget x1323q (⟨bOr .u32 (shlI .u32 x1427q 1) (bAnd .u32 (IntKind.u32.wrap (shrI .u8 (gt (0 : Int) p0 x1390q) x1429q)) 1), IntKind.u8.wrap (x1428q + 1)⟩ : S45)).isSome)), (55, .bool ((mget x1323q (⟨bOr .u32 (shlI .u32 x1427q 1) (bAnd .u32 (IntKind.u32.wrap (shrI .u8 (gt (0 : Int) p0 x1390q) x1429q)) 1), IntKind.u8.wrap (x1428q + 1)⟩ : S45)).isSome))] (by kernel_rfl) (fun a1532q h1533q => ?_)
            clear h1531q a1530q
            by_cases c1534q : (mget x1323q (⟨bOr .u32 (shlI .u32 x1427q 1) (bAnd .u32 (IntKind.u32.wrap (shrI .u8 (gt (0 : Int) p0 x1390q) x1429q)) 1), IntKind.u8.wrap (x1428q + 1)⟩ : S45)).isSome = true
            · rw [if_pos c1534q] at H
              have hb_ : ((mget x1323q (⟨bOr .u32 (shlI .u32 x1427q 1) (bAnd .u32 (IntKind.u32.wrap (shrI .u8 (gt (0 : Int) p0 x1390q) x1429q)) 1), IntKind.u8.wrap (x1428q + 1)⟩ : S45)).isSome) = true := c1534q
              try rw [hb_] at h1533q
              clear hb_
              refine WL.op' (m := 2) h1533q rfl rfl (owp_run h1533q rfl (by kernel_rfl) (v := .int .i64 ((mget x1323q (⟨bOr .u32 (shlI .u32 x1427q 1) (bAnd .u32 (IntKind.u32.wrap (shrI .u8 (gt (0 : Int) p0 x1390q) x1429q)) 1), IntKind.u8.wrap (x1428q + 1)⟩ : S45)).getD 0)) (by kernel_rfl) (fun a1535q h1536q => ?_))
              clear h1533q a1532q
              refine WL.op' (m := 3) h1536q rfl rfl (owp_run h1536q rfl (by kernel_rfl) (v := .bool (decide (((mget x1323q (⟨bOr .u32 (shlI .u32 x1427q 1) (bAnd .u32 (IntKind.u32.wrap (shrI .u8 (gt (0 : Int) p0 x1390q) x1429q)) 1), IntKind.u8.wrap (x1428q + 1)⟩ : S45)).getD 0) = 256))) (by kernel_rfl) (fun a1537q h1538q => ?_))
              clear h1536q a1535q
              refine WL.block (c := 2) (m' := 6) h1538q rfl [(54, .bool (decide (((mget x1323q (⟨bOr .u32 (shlI .u32 x1427q 1) (bAnd .u32 (IntKind.u32.wrap (shrI .u8 (gt (0 : Int) p0 x1390q) x1429q)) 1), IntKind.u8.wrap (x1428q + 1)⟩ : S45)).getD 0) = 256))), (59, .bool (decide (((mget x1323q (⟨bOr .u32 (shlI .u32 x1427q 1) (bAnd .u32 (IntKind.u32.wrap (shrI .u8 (gt (0 : Int) p0 x1390q) x1429q)) 1), IntKind.u8.wrap (x1428q + 1)⟩ : S45)).getD 0) = 256)))] (by kernel_rfl) (fun a1539q h1540q => ?_)
              clear h1538q a1537q
              refine WL.done (by kernel_rfl) ?_
              by_cases c1541q : ((mget x1323q (⟨bOr .u32 (shlI .u32 x1427q 1) (bAnd .u32 (IntKind.u32.wrap (shrI .u8 (gt (0 : Int) p0 x1390q) x1429q)) 1), IntKind.u8.wrap (x1428q + 1)⟩ : S45)).getD 0) = 256
              · rw [if_pos c1541q] at H
                have hb_ : (decide (((mget x1323q (⟨bOr .u32 (shlI .u32 x1427q 1) (bAnd .u32 (IntKind.u32.wrap (shrI .u8 (gt (0 : Int) p0 x1390q) x1429q)) 1), IntKind.u8.wrap (x1428q + 1)⟩ : S45)).getD 0) = 256)) = true := decide_eq_true c1541q
                try rw [hb_] at h1540q
                clear hb_
                refine wp_then h1540q rfl ?_
                refine wp_seq ?_
                refine WL.start ?_
                refine WL.block (c := 2) (m' := 2) h1540q rfl [(3, .int .i64 3), (2, .string (mkS ([] : List UInt8)))] (by kernel_rfl) (fun a1542q h1543q => ?_)
                clear h1540q a1539q
                refine WL.done (by kernel_rfl) ?_
                refine wp_ret ?_
                have hS1544q : St b w0 W1521q R ([(g1374q, .cells ([.int .u32 (bOr .u32 (shlI .u32 x1427q 1) (bAnd .u32 (IntKind.u32.wrap (shrI .u8 (gt (0 : Int) p0 x1390q) x1429q)) 1)), .int .u8 (IntKind.u8.wrap (x1428q + 1))] : List Value).toArray 45 (0, 0))] :: M1425q :: Fs) := hS1527q.drop_
                have hS1545q : St b w0 W1521q R (M1425q :: Fs) := hS1544q.drop_
                have hS1546q : St b w0 W1521q R (Fs) := hS1545q.drop_
                obtain ⟨rfl, rfl⟩ := ret2 H
                repeat (first | refine then_ret ?_ | refine inBlock_ret ?_ | refine inBlock_go ?_)
                refine body_ret (v := .tuple #[.string (mkS ([] : List UInt8)), .int .i64 3]) h1543q (by kernel_rfl) (by kernel_rfl) ?_
                exact ⟨rfl, hS1546q⟩
              · rw [if_neg c1541q] at H
                have hb_ : (decide (((mget x1323q (⟨bOr .u32 (shlI .u32 x1427q 1) (bAnd .u32 (IntKind.u32.wrap (shrI .u8 (gt (0 : Int) p0 x1390q) x1429q)) 1), IntKind.u8.wrap (x1428q + 1)⟩ : S45)).getD 0) = 256)) = false := decide_eq_false c1541q
                try rw [hb_] at h1540q
                clear hb_
                refine wp_else h1540q rfl ?_
                refine wp_seq ?_
                refine WL.start ?_
                refine WL.block (c := 2) (m' := 2) h1540q rfl [(60, .bool true), (61, .bool true)] (by kernel_rfl) (fun a1547q h1548q => ?_)
                clear h1540q a1539q
                refine WL.done (by kernel_rfl) ?_
                refine wp_then h1548q rfl ?_
                refine wp_seq ?_
                refine WL.start ?_
                refine WL.block (c := 3) (m' := 3) h1548q rfl [(64, .int .u8 (IntKind.u8.wrap ((mget x1323q (⟨bOr .u32 (shlI .u32 x1427q 1) (bAnd .u32 (IntKind.u32.wrap (shrI .u8 (gt (0 : Int) p0 x1390q) x1429q)) 1), IntKind.u8.wrap (x1428q + 1)⟩ : S45)).getD 0))), (63, .int .i64 ((mget x1323q (⟨bOr .u32 (shlI .u32 x1427q 1) (bAnd .u32 (IntKind.u32.wrap (shrI .u8 (gt (0 : Int) p0 x1390q) x1429q)) 1), IntKind.u8.wrap (x1428q + 1)⟩ : S45)).getD 0)), (62, .slice A1423q x1422q.length c1424q)] (by kernel_rfl) (fun a1549q h1550q => ?_)
                clear h1548q a1547q
                refine WL.op' (m := 3) h1550q rfl rfl ?_
                refine owp_new (fun g_ => .slice (some ⟨g_, 0, none⟩) 1 1) (.cells ([.int .u8 (IntKind.u8.wrap ((mget x1323q (⟨bOr .u32 (shlI .u32 x1427q 1) (bAnd .u32 (IntKind.u32.wrap (shrI .u8 (gt (0 : Int) p0 x1390q) x1429q)) 1), IntKind.u8.wrap (x1428q + 1)⟩ : S45)).getD 0))] : List Value).toArray 5 (0, 0)) h1550q rfl (by kernel_rfl) (by kernel_rfl) hS1527q (fun a1551q W1553q g1554q h1552q hS1555q => ?_)
                clear h1550q a1549q
                have hr1556q : Row (kInt .u8) 5 b w0 R (.slice (some ⟨g1554q, 0, none⟩) 1 1) ([IntKind.u8.wrap ((mget x1323q (⟨bOr .u32 (shlI .u32 x1427q 1) (bAnd .u32 (IntKind.u32.wrap (shrI .u8 (gt (0 : Int) p0 x1390q) x1429q)) 1), IntKind.u8.wrap (x1428q + 1)⟩ : S45)).getD 0)] : List Int) [(g1554q, .cells ([.int .u8 (IntKind.u8.wrap ((mget x1323q (⟨bOr .u32 (shlI .u32 x1427q 1) (bAnd .u32 (IntKind.u32.wrap (shrI .u8 (gt (0 : Int) p0 x1390q) x1429q)) 1), IntKind.u8.wrap (x1428q + 1)⟩ : S45)).getD 0))] : List Value).toArray 5 (0, 0))] := Row.lit (xs := ([IntKind.u8.wrap ((mget x1323q (⟨bOr .u32 (shlI .u32 x1427q 1) (bAnd .u32 (IntKind.u32.wrap (shrI .u8 (gt (0 : Int) p0 x1390q) x1429q)) 1), IntKind.u8.wrap (x1428q + 1)⟩ : S45)).getD 0)] : List Int)) (Mi := []) ⟨_, _, [], _, rfl, rfl, ⟨rfl, rfl⟩, ⟨rfl, rfl⟩⟩ (by simp [maxLen])
                by_cases c1557q : x1422q.length + 1 ≤ 140737488355328
                · rw [if_pos c1557q] at H
                  have hS1558q : St b w0 W1553q R (M1425q :: [(g1554q, .cells ([.int .u8 (IntKind.u8.wrap ((mget x1323q (⟨bOr .u32 (shlI .u32 x1427q 1) (bAnd .u32 (IntKind.u32.wrap (shrI .u8 (gt (0 : Int) p0 x1390q) x1429q)) 1), IntKind.u8.wrap (x1428q + 1)⟩ : S45)).getD 0))] : List Value).toArray 5 (0, 0))] :: M1324q :: [(g1374q, .cells ([.int .u32 (bOr .u32 (shlI .u32 x1427q 1) (bAnd .u32 (IntKind.u32.wrap (shrI .u8 (gt (0 : Int) p0 x1390q) x1429q)) 1)), .int .u8 (IntKind.u8.wrap (x1428q + 1))] : List Value).toArray 45 (0, 0))] :: Fs) := hS1555q.bring 3 rfl rfl
                  refine WL.op' (m := 4) h1552q rfl rfl ?_
                  refine owp_app_take (z := .int .u8 0) (bytes := 1) (dk := (kInt .u8)) h1552q rfl (by kernel_rfl) rfl rfl rfl hr1426q hr1556q hS1558q Tryd.underlying33 (by kernel_rfl) rfl (by decide) (by decide) (by first | omega | (simp only [List.length_cons, List.length_nil] at *; omega)) (fun a1559q W1561q v1562q M1563q h1560q hr1564q hS1565q => ?_)
                  clear h1552q a1551q
                  obtain ⟨y1566q, hy1567q, H⟩ := lete H
                  have hr1568q : Row (kInt .u8) 5 b w0 R v1562q y1566q M1563q := by rw [hy1567q]; exact hr1564q
                  clear hr1564q
                  obtain ⟨A1569q, c1570q, rfl⟩ := hr1568q.form
                  refine WL.block (c := 1) (m' := 6) h1560q rfl [(7, .slice A1569q y1566q.length c1570q)] (by kernel_rfl) (fun a1571q h1572q => ?_)
                  clear h1560q a1559q
                  refine WL.done (by kernel_rfl) ?_
                  refine WL.start ?_
                  refine WL.block (c := 1) (m' := 1) h1572q rfl [(67, .agg #[.int .u32 0, .int .u8 0])] (by kernel_rfl) (fun a1573q h1574q => ?_)
                  clear h1572q a1571q
                  have hS1575q : St b w0 W1561q R ([(g1374q, .cells ([.int .u32 (bOr .u32 (shlI .u32 x1427q 1) (bAnd .u32 (IntKind.u32.wrap (shrI .u8 (gt (0 : Int) p0 x1390q) x1429q)) 1)), .int .u8 (IntKind.u8.wrap (x1428q + 1))] : List Value).toArray 45 (0, 0))] :: M1563q :: M1324q :: Fs) := hS1565q.bring 2 rfl rfl
                  refine WL.op' (m := 1) h1574q rfl rfl ?_
                  refine owp_store (i := 0) (vs := ([.int .u32 0, .int .u8 0] : List Value)) h1574q rfl (by kernel_rfl) rfl rfl rfl rfl (by simp [Value.oneCell']) (by kernel_rfl) hS1575q (by simp) (cs' := ([.int .u32 0, .int .u8 0] : List Value)) rfl (fun a1576q W1578q h1577q hS1579q => ?_)
                  clear h1574q a1573q
                  refine WL.done (by kernel_rfl) ?_
                  refine WL.start ?_
                  refine WL.block (c := 3) (m' := 3) h1577q rfl [(11, .int .i64 (IntKind.i64.wrap (x1429q - 1))), (33, .int .i64 (IntKind.i64.wrap (x1429q - 1))), (32, .int .i64 x1429q)] (by kernel_rfl) (fun a1580q h1581q => ?_)
                  clear h1577q a1576q
                  refine WL.done (by kernel_rfl) ?_
                  have hS1582q : St b w0 W1578q R (M1563q :: [(g1374q, .cells ([.int .u32 0, .int .u8 0] : List Value).toArray 45 (0, 0))] :: M1324q :: Fs) := hS1579q.bring 1 rfl rfl
                  have hS1583q : St b w0 W1578q R (M1324q :: M1563q :: [(g1374q, .cells ([.int .u32 0, .int .u8 0] : List Value).toArray 45 (0, 0))] :: Fs) := hS1582q.bring 2 rfl rfl
                  exact ⟨k1430q, by omega, y1566q, A1569q, c1570q, M1563q, 0, 0, IntKind.i64.wrap (x1429q - 1), h1581q.keep ⟨rfl, rfl, rfl, rfl, rfl, rfl, rfl, rfl, trivial⟩, ⟨H⟩, ⟨by omega⟩, ⟨hS1583q⟩, ⟨hr1568q⟩⟩
                · rw [if_neg c1557q] at H
                  cases H
            · rw [if_neg c1534q] at H
              have hb_ : ((mget x1323q (⟨bOr .u32 (shlI .u32 x1427q 1) (bAnd .u32 (IntKind.u32.wrap (shrI .u8 (gt (0 : Int) p0 x1390q) x1429q)) 1), IntKind.u8.wrap (x1428q + 1)⟩ : S45)).isSome) = false := (Bool.eq_false_iff.2 c1534q)
              try rw [hb_] at h1533q
              clear hb_
              refine WL.skipped (m := 2) h1533q rfl rfl (by kernel_rfl) rfl (fun a1584q h1585q => ?_)
              clear h1533q a1532q
              refine WL.skipped (m := 3) h1585q rfl rfl (by kernel_rfl) rfl (fun a1586q h1587q => ?_)
              clear h1585q a1584q
              refine WL.block (c := 2) (m' := 6) h1587q rfl [(54, .bool false), (59, .bool false)] (by kernel_rfl) (fun a1588q h1589q => ?_)
              clear h1587q a1586q
              refine WL.done (by kernel_rfl) ?_
              refine wp_else h1589q rfl ?_
              refine wp_seq ?_
              refine WL.start ?_
              refine WL.block (c := 2) (m' := 2) h1589q rfl [(60, .bool false), (61, .bool false)] (by kernel_rfl) (fun a1590q h1591q => ?_)
              clear h1589q a1588q
              refine WL.done (by kernel_rfl) ?_
              refine wp_else h1591q rfl ?_
              refine wp_skip ?_
              refine WL.start ?_
              refine WL.block (c := 3) (m' := 3) h1591q rfl [(11, .int .i64 (IntKind.i64.wrap (x1429q - 1))), (33, .int .i64 (IntKind.i64.wrap (x1429q - 1))), (32, .int .i64 x1429q)] (by kernel_rfl) (fun a1592q h1593q => ?_)
              clear h1591q a1590q
              refine WL.done (by kernel_rfl) ?_
              have hS1594q : St b w0 W1521q R ([(g1374q, .cells ([.int .u32 (bOr .u32 (shlI .u32 x1427q 1) (bAnd .u32 (IntKind.u32.wrap (shrI .u8 (gt (0 : Int) p0 x1390q) x1429q)) 1)), .int .u8 (IntKind.u8.wrap (x1428q + 1))] : List Value).toArray 45 (0, 0))] :: M1324q :: M1425q :: Fs) := hS1527q.bring 1 rfl rfl
              have hS1595q : St b w0 W1521q R (M1425q :: [(g1374q, .cells ([.int .u32 (bOr .u32 (shlI .u32 x1427q 1) (bAnd .u32 (IntKind.u32.wrap (shrI .u8 (gt (0 : Int) p0 x1390q) x1429q)) 1)), .int .u8 (IntKind.u8.wrap (x1428q + 1))] : List Value).toArray 45 (0, 0))] :: M1324q :: Fs) := hS1594q.bring 2 rfl rfl
              have hS1596q : St b w0 W1521q R (M1324q :: M1425q :: [(g1374q, .cells ([.int .u32 (bOr .u32 (shlI .u32 x1427q 1) (bAnd .u32 (IntKind.u32.wrap (shrI .u8 (gt (0 : Int) p0 x1390q) x1429q)) 1)), .int .u8 (IntKind.u8.wrap (x1428q + 1))] : List Value).toArray 45 (0, 0))] :: Fs) := hS1595q.bring 2 rfl rfl
              exact ⟨k1430q, by omega, x1422q, A1423q, c1424q, M1425q, bOr .u32 (shlI .u32 x1427q 1) (bAnd .u32 (IntKind.u32.wrap (shrI .u8 (gt (0 : Int) p0 x1390q) x1429q)) 1), IntKind.u8.wrap (x1428q + 1), IntKind.i64.wrap (x1429q - 1), h1593q.keep ⟨rfl, rfl, rfl, rfl, rfl, rfl, rfl, rfl, trivial⟩, ⟨H⟩, ⟨by omega⟩, ⟨hS1596q⟩, ⟨hr1426q⟩⟩
          · rw [if_neg c1497q] at H
            cases H
        · rw [if_neg c1433q] at H
          have hb_ : (decide (x1429q ≥ 0)) = false := decide_eq_false c1433q
          try rw [hb_] at h1432q
          clear hb_
          refine wp_else h1432q rfl ?_
          refine wp_exit ?_
          refine WL.start ?_
          refine WL.block (c := 2) (m' := 2) h1432q rfl [(26, .int .i64 (IntKind.i64.wrap (x1390q + 1))), (68, .int .i64 (IntKind.i64.wrap (x1390q + 1)))] (by kernel_rfl) (fun a1597q h1598q => ?_)
          clear h1432q a1431q
          refine WL.done (by kernel_rfl) ?_
          exact ⟨k1430q, by omega, x1422q, A1423q, c1424q, M1425q, x1427q, x1428q, IntKind.i64.wrap (x1390q + 1), h1598q.keep ⟨rfl, rfl, rfl, rfl, rfl, rfl, trivial⟩, ⟨H⟩, ⟨by omega⟩, ⟨hS1420q⟩, ⟨hr1426q⟩⟩
      · rw [if_neg c1399q] at H
        cases H
    · rw [if_neg c1398q] at H
      have hb_ : (decide (x1390q < (p0.length : Int))) = false := decide_eq_false c1398q
      try rw [hb_] at h1397q
      clear hb_
      refine wp_else h1397q rfl ?_
      refine wp_exit ?_
      refine wp_seq ?_
      refine wp_seq ?_
      refine WL.start ?_
      refine WL.block (c := 1) (m' := 1) h1397q rfl [(69, .pointer (some ⟨g1374q, 1, none⟩))] (by kernel_rfl) (fun a1599q h1600q => ?_)
      clear h1397q a1396q
      have hS1601q : St b w0 W1380q R ([(g1374q, .cells ([.int .u32 x1388q, .int .u8 x1389q] : List Value).toArray 45 (0, 0))] :: M1324q :: M1386q :: Fs) := hS1381q.bring 2 rfl rfl
      refine WL.op' (m := 1) h1600q rfl rfl ?_
      refine owp_run (v := .int .u8 x1389q) h1600q rfl (by kernel_rfl) (run_load1 rfl rfl Tryd.underlying5 rfl (hS1601q.cell (i := 1) rfl)) (fun a1602q h1603q => ?_)
      clear h1600q a1599q
      refine WL.block (c := 2) (m' := 4) h1603q rfl [(72, .bool (decide (x1389q > 7))), (71, .bool (decide (x1389q > 7)))] (by kernel_rfl) (fun a1604q h1605q => ?_)
      clear h1603q a1602q
      by_cases c1606q : x1389q > 7
      · rw [if_pos c1606q] at H
        have hb_ : (decide (x1389q > 7)) = true := decide_eq_true c1606q
        try rw [hb_] at h1605q
        clear hb_
        refine WL.skipped (m := 4) h1605q rfl rfl (by kernel_rfl) rfl (fun a1607q h1608q => ?_)
        clear h1605q a1604q
        refine WL.skipped (m := 5) h1608q rfl rfl (by kernel_rfl) rfl (fun a1609q h1610q => ?_)
        clear h1608q a1607q
        refine WL.skipped (m := 6) h1610q rfl rfl (by kernel_rfl) rfl (fun a1611q h1612q => ?_)
        clear h1610q a1609q
        refine WL.skipped (m := 7) h1612q rfl rfl (by kernel_rfl) rfl (fun a1613q h1614q => ?_)
        clear h1612q a1611q
        refine WL.skipped (m := 8) h1614q rfl rfl (by kernel_rfl) rfl (fun a1615q h1616q => ?_)
        clear h1614q a1613q
        refine WL.skipped (m := 9) h1616q rfl rfl (by kernel_rfl) rfl (fun a1617q h1618q => ?_)
        clear h1616q a1615q
        refine WL.skipped (m := 10) h1618q rfl rfl (by kernel_rfl) rfl (fun a1619q h1620q => ?_)
        clear h1618q a1617q
        refine WL.block (c := 1) (m' := 12) h1620q rfl [(80, .bool true)] (by kernel_rfl) (fun a1621q h1622q => ?_)
        clear h1620q a1619q
        refine WL.done (by kernel_rfl) ?_
        refine wp_then h1622q rfl ?_
        refine wp_seq ?_
        refine WL.start ?_
        refine WL.block (c := 2) (m' := 2) h1622q rfl [(3, .int .i64 3), (2, .string (mkS ([] : List UInt8)))] (by kernel_rfl) (fun a1623q h1624q => ?_)
        clear h1622q a1621q
        refine WL.done (by kernel_rfl) ?_
        refine wp_ret ?_
        have hS1625q : St b w0 W1380q R (M1324q :: M1386q :: Fs) := hS1601q.drop_
        have hS1626q : St b w0 W1380q R (M1386q :: Fs) := hS1625q.drop_
        have hS1627q : St b w0 W1380q R (Fs) := hS1626q.drop_
        obtain ⟨rfl, rfl⟩ := ret2 H
        repeat (first | refine then_ret ?_ | refine inBlock_ret ?_ | refine inBlock_go ?_)
        refine body_ret (v := .tuple #[.string (mkS ([] : List UInt8)), .int .i64 3]) h1624q (by kernel_rfl) (by kernel_rfl) ?_
        exact ⟨rfl, hS1627q⟩
      · rw [if_neg c1606q] at H
        have hb_ : (decide (x1389q > 7)) = false := decide_eq_false c1606q
        try rw [hb_] at h1605q
        clear hb_
        refine WL.op' (m := 4) h1605q rfl rfl (owp_run h1605q rfl (by kernel_rfl) (v := .pointer (some ⟨g1374q, 0, none⟩)) (by kernel_rfl) (fun a1628q h1629q => ?_))
        clear h1605q a1604q
        refine WL.op' (m := 5) h1629q rfl rfl ?_
        refine owp_run (v := .int .u32 x1388q) h1629q rfl (by kernel_rfl) (run_load1 rfl rfl Tryd.underlying22 rfl (hS1601q.cell (i := 0) rfl)) (fun a1630q h1631q => ?_)
        clear h1629q a1628q
        refine WL.op' (m := 6) h1631q rfl rfl (owp_run h1631q rfl (by kernel_rfl) (v := .pointer (some ⟨g1374q, 1, none⟩)) (by kernel_rfl) (fun a1632q h1633q => ?_))
        clear h1631q a1630q
        refine WL.op' (m := 7) h1633q rfl rfl ?_
        refine owp_run (v := .int .u8 x1389q) h1633q rfl (by kernel_rfl) (run_load1 rfl rfl Tryd.underlying5 rfl (hS1601q.cell (i := 1) rfl)) (fun a1634q h1635q => ?_)
        clear h1633q a1632q
        by_cases c1636q : 0 ≤ x1389q
        · rw [if_pos c1636q] at H
          refine WL.op' (m := 8) h1635q rfl rfl ?_
          refine owp_run (v := .int .u32 (shlI .u32 1 x1389q)) h1635q rfl (by kernel_rfl) (run_shl rfl rfl rfl (by assumption)) (fun a1637q h1638q => ?_)
          clear h1635q a1634q
          refine WL.op' (m := 9) h1638q rfl rfl (owp_run h1638q rfl (by kernel_rfl) (v := .int .u32 (IntKind.u32.wrap ((shlI .u32 1 x1389q) - 1))) (by kernel_rfl) (fun a1639q h1640q => ?_))
          clear h1638q a1637q
          refine WL.op' (m := 10) h1640q rfl rfl (owp_run h1640q rfl (by kernel_rfl) (v := .bool (!decide (x1388q = (IntKind.u32.wrap ((shlI .u32 1 x1389q) - 1))))) (by kernel_rfl) (fun a1641q h1642q => ?_))
          clear h1640q a1639q
          refine WL.block (c := 1) (m' := 12) h1642q rfl [(80, .bool (!decide (x1388q = (IntKind.u32.wrap ((shlI .u32 1 x1389q) - 1)))))] (by kernel_rfl) (fun a1643q h1644q => ?_)
          clear h1642q a1641q
          refine WL.done (by kernel_rfl) ?_
          by_cases c1645q : x1388q = (IntKind.u32.wrap ((shlI .u32 1 x1389q) - 1))
          · rw [if_pos c1645q] at H
            have hb_ : (decide (x1388q = (IntKind.u32.wrap ((shlI .u32 1 x1389q) - 1)))) = true := decide_eq_true c1645q
            try rw [hb_] at h1644q
            clear hb_
            refine wp_else h1644q rfl ?_
            refine wp_skip ?_
            refine wp_seq ?_
            refine WL.start ?_
            refine WL.block (c := 1) (m' := 1) h1644q rfl [(81, .slice A1384q x1383q.length c1385q)] (by kernel_rfl) (fun a1646q h1647q => ?_)
            clear h1644q a1643q
            have hS1648q : St b w0 W1380q R (M1386q :: [(g1374q, .cells ([.int .u32 x1388q, .int .u8 x1389q] : List Value).toArray 45 (0, 0))] :: M1324q :: Fs) := hS1601q.bring 2 rfl rfl
            refine WL.op' (m := 1) h1647q rfl rfl ?_
            refine owp_run (v := .string (mkS (toS x1383q))) h1647q rfl (by kernel_rfl) (run_tostr rfl rfl hr1387q.rds (fun _ _ hk_ => (hS1648q).pool.kn hk_) Tryd.underlying33 Tryd.underlying5 Tryd.underlying9) (fun a1649q h1650q => ?_)
            clear h1647q a1646q
            refine WL.block (c := 2) (m' := 4) h1650q rfl [(3, .int .i64 0), (2, .string (mkS (toS x1383q)))] (by kernel_rfl) (fun a1651q h1652q => ?_)
            clear h1650q a1649q
            refine WL.done (by kernel_rfl) ?_
            refine wp_ret ?_
            have hS1653q : St b w0 W1380q R ([(g1374q, .cells ([.int .u32 x1388q, .int .u8 x1389q] : List Value).toArray 45 (0, 0))] :: M1324q :: Fs) := hS1648q.drop_
            have hS1654q : St b w0 W1380q R (M1324q :: Fs) := hS1653q.drop_
            have hS1655q : St b w0 W1380q R (Fs) := hS1654q.drop_
            obtain ⟨rfl, rfl⟩ := ret2 H
            repeat (first | refine then_ret ?_ | refine inBlock_ret ?_ | refine inBlock_go ?_)
            refine body_ret (v := .tuple #[.string (mkS (toS x1383q)), .int .i64 0]) h1652q (by kernel_rfl) (by kernel_rfl) ?_
            exact ⟨rfl, hS1655q⟩
          · rw [if_neg c1645q] at H
            have hb_ : (decide (x1388q = (IntKind.u32.wrap ((shlI .u32 1 x1389q) - 1)))) = false := decide_eq_false c1645q
            try rw [hb_] at h1644q
            clear hb_
            refine wp_then h1644q rfl ?_
            refine wp_seq ?_
            refine WL.start ?_
            refine WL.block (c := 2) (m' := 2) h1644q rfl [(3, .int .i64 3), (2, .string (mkS ([] : List UInt8)))] (by kernel_rfl) (fun a1656q h1657q => ?_)
            clear h1644q a1643q
            refine WL.done (by kernel_rfl) ?_
            refine wp_ret ?_
            have hS1658q : St b w0 W1380q R (M1324q :: M1386q :: Fs) := hS1601q.drop_
            have hS1659q : St b w0 W1380q R (M1386q :: Fs) := hS1658q.drop_
            have hS1660q : St b w0 W1380q R (Fs) := hS1659q.drop_
            obtain ⟨rfl, rfl⟩ := ret2 H
            repeat (first | refine then_ret ?_ | refine inBlock_ret ?_ | refine inBlock_go ?_)
            refine body_ret (v := .tuple #[.string (mkS ([] : List UInt8)), .int .i64 3]) h1657q (by kernel_rfl) (by kernel_rfl) ?_
            exact ⟨rfl, hS1660q⟩
        · rw [if_neg c1636q] at H
          cases H

/-! ### louver/louverref03.bytes -/
mutual
def louverref03qbytes.l0 : Nat → (List UInt8) → Option ((List Int))
  | 0, _ => none
  | k + 1, x381q => if (Int.tmod (x381q.length : Int) 8) = 0 then (louverref03qbytes.l1 k ([] : List Int) 0 x381q) else (if x381q.length + ([49] : List UInt8).length ≤ 9223372036854775807 then (louverref03qbytes.l0 k (x381q ++ ([49] : List UInt8))) else (none))
def louverref03qbytes.l1 : Nat → (List Int) → Int → (List UInt8) → Option ((List Int))
  | 0, _, _, _ => none
  | k + 1, x393q, x398q, x381q => if x398q < (x381q.length : Int) then (louverref03qbytes.l2 k 0 x398q x381q x393q x398q) else (some x393q)
def louverref03qbytes.l2 : Nat → Int → Int → (List UInt8) → (List Int) → Int → Option ((List Int))
  | 0, _, _, _, _, _ => none
  | k + 1, x412q, x413q, x381q, x393q, x398q => if x413q < (IntKind.i64.wrap (x398q + 8)) then (if 0 ≤ x413q then (if x413q < (x381q.length : Int) then (louverref03qbytes.l2 k (IntKind.u8.wrap ((IntKind.u8.wrap ((IntKind.u8.wrap (2 * x412q)) + (btI x381q x413q))) - 48)) (IntKind.i64.wrap (x413q + 1)) x381q x393q x398q) else (none)) else (none)) else (if x393q.length + 1 ≤ 140737488355328 then (lt1 (x393q ++ ([x412q] : List Int) : List Int) fun y445q => (louverref03qbytes.l1 k y445q (IntKind.i64.wrap (x398q + 8)) x381q)) else (none))
end
def louverref03qbytes.f (k : Nat) (p0 : (List UInt8)) : Option ((List Int)) := louverref03qbytes.l0 k p0
set_option maxHeartbeats 2000000 in
set_option maxRecDepth 100000 in
theorem louverref03qbytes.calls (k : Nat) {b : Nat} {w0 W : World} {R : Frag} {Fs : List Frag} {p0 : (List UInt8)}  {r0q : (List Int)}  (H : louverref03qbytes.f k p0 = some r0q) (hS : St b w0 W R (Fs)) :
    Calls Tryd.prog 20 ([.string (mkS p0)] : List Value).toArray W (fun e W' => ∃ (u0q : Value) (N0q : Frag), e = .returned (u0q) ∧ Row (kInt .u8) 5 b w0 R u0q r0q N0q ∧ St b w0 W' R (N0q :: Fs)) := by
  unfold louverref03qbytes.f at H
  refine calls_enter Tryd.func20 rfl 39 rfl (by kernel_rfl) (fun a h => ?_)
  refine wp_seq ?_
  refine WL.start ?_
  refine WL.block (c := 1) (m' := 1) h rfl [(2, .slice none 0 0)] (by kernel_rfl) (fun a366q h367q => ?_)
  refine WL.done (by kernel_rfl) ?_
  refine wp_seq ?_
  refine WL.start ?_
  refine WL.op' (m := 0) h367q rfl rfl ?_
  refine owp_new (fun g_ => .slice (some ⟨g_, 0, none⟩) 0 0) (.cells ([] : List Value).toArray 5 (0, 0)) h367q rfl (by kernel_rfl) (by kernel_rfl) hS (fun a368q W370q g371q h369q hS372q => ?_)
  clear h367q a366q
  have hr373q : Row (kInt .u8) 5 b w0 R (.slice (some ⟨g371q, 0, none⟩) 0 0) ([] : List Int) [(g371q, .cells ([] : List Value).toArray 5 (0, 0))] := Row.lit (xs := ([] : List Int)) (Mi := []) ⟨rfl, rfl⟩ (by simp [maxLen])
  refine WL.block (c := 1) (m' := 2) h369q rfl [(3, .slice (some ⟨g371q, 0, none⟩) 0 0)] (by kernel_rfl) (fun a374q h375q => ?_)
  clear h369q a368q
  refine WL.done (by kernel_rfl) ?_
  refine wp_seq ?_
  refine wp_block ?_
  refine wp_loop_ghost (fun kq_ a_ W_ => ∃ (x381q : (List UInt8)), Hd a_ 39 [(0, .string (mkS x381q)), (3, .slice (some ⟨g371q, 0, none⟩) 0 0)] ∧ Asd (louverref03qbytes.l0 kq_ x381q = some r0q) ∧ Asd (kq_ ≤ k) ∧ Asd (St b w0 W_ R ([(g371q, .cells ([] : List Value).toArray 5 (0, 0))] :: Fs))) k ⟨p0, h375q.keep ⟨rfl, rfl, trivial⟩, ⟨H⟩, ⟨Nat.le_refl _⟩, ⟨hS372q⟩⟩ ?_
  clear H hS372q
  rintro k380q a377q W378q ⟨x381q, h376q, ⟨H⟩, ⟨hkk380q⟩, ⟨hS379q⟩⟩
  obtain _ | k382q := k380q
  · exact absurd H (by simp [louverref03qbytes.l0])
  simp only [louverref03qbytes.l0] at H
  refine wp_seq ?_
  refine wp_seq ?_
  refine WL.start ?_
  refine WL.block (c := 4) (m' := 4) h376q rfl [(11, .bool (!decide ((Int.tmod (x381q.length : Int) 8) = 0))), (10, .int .i64 (Int.tmod (x381q.length : Int) 8)), (9, .int .i64 (x381q.length : Int)), (8, .string (mkS x381q))] (by kernel_rfl) (fun a383q h384q => ?_)
  clear h376q a377q
  refine WL.done (by kernel_rfl) ?_
  by_cases c385q : (Int.tmod (x381q.length : Int) 8) = 0
  · rw [if_pos c385q] at H
    have hb_ : (decide ((Int.tmod (x381q.length : Int) 8) = 0)) = true := decide_eq_true c385q
    try rw [hb_] at h384q
    clear hb_
    refine wp_else h384q rfl ?_
    refine wp_exit ?_
    refine wp_seq ?_
    refine wp_seq ?_
    refine WL.start ?_
    refine WL.block (c := 1) (m' := 1) h384q rfl [(4, .int .i64 0)] (by kernel_rfl) (fun a386q h387q => ?_)
    clear h384q a383q
    refine WL.done (by kernel_rfl) ?_
    refine wp_block ?_
    refine wp_loop_ghost (fun kq_ a_ W_ => ∃ (x393q : (List Int)), ∃ (A394q : Option Addr), ∃ (c395q : Nat), ∃ (M396q : Frag), ∃ (x398q : Int), Hd a_ 39 [(0, .string (mkS x381q)), (3, .slice A394q x393q.length c395q), (4, .int .i64 x398q)] ∧ Asd (louverref03qbytes.l1 kq_ x393q x398q x381q = some r0q) ∧ Asd (kq_ ≤ k382q) ∧ Asd (St b w0 W_ R (M396q :: Fs)) ∧ Asd (Row (kInt .u8) 5 b w0 R (.slice A394q x393q.length c395q) x393q M396q)) k382q ⟨([] : List Int), (some ⟨g371q, 0, none⟩), 0, [(g371q, .cells ([] : List Value).toArray 5 (0, 0))], 0, h387q.keep ⟨rfl, rfl, rfl, trivial⟩, ⟨H⟩, ⟨Nat.le_refl _⟩, ⟨hS379q⟩, ⟨hr373q⟩⟩ ?_
    clear H hS379q
    rintro k392q a389q W390q ⟨x393q, A394q, c395q, M396q, x398q, h388q, ⟨H⟩, ⟨hkk392q⟩, ⟨hS391q⟩, ⟨hr397q⟩⟩
    obtain _ | k399q := k392q
    · exact absurd H (by simp [louverref03qbytes.l1])
    simp only [louverref03qbytes.l1] at H
    refine wp_seq ?_
    refine wp_seq ?_
    refine WL.start ?_
    refine WL.block (c := 4) (m' := 4) h388q rfl [(17, .bool (decide (x398q < (x381q.length : Int)))), (16, .int .i64 (x381q.length : Int)), (15, .string (mkS x381q)), (14, .int .i64 x398q)] (by kernel_rfl) (fun a400q h401q => ?_)
    clear h388q a389q
    refine WL.done (by kernel_rfl) ?_
    by_cases c402q : x398q < (x381q.length : Int)
    · rw [if_pos c402q] at H
      have hb_ : (decide (x398q < (x381q.length : Int))) = true := decide_eq_true c402q
      try rw [hb_] at h401q
      clear hb_
      refine wp_then h401q rfl ?_
      refine wp_skip ?_
      refine wp_seq ?_
      refine wp_block ?_
      refine wp_seq ?_
      refine WL.start ?_
      refine WL.block (c := 1) (m' := 1) h401q rfl [(5, .int .u8 0)] (by kernel_rfl) (fun a403q h404q => ?_)
      clear h401q a400q
      refine WL.done (by kernel_rfl) ?_
      refine wp_seq ?_
      refine wp_seq ?_
      refine WL.start ?_
      refine WL.block (c := 2) (m' := 2) h404q rfl [(6, .int .i64 x398q), (20, .int .i64 x398q)] (by kernel_rfl) (fun a405q h406q => ?_)
      clear h404q a403q
      refine WL.done (by kernel_rfl) ?_
      refine wp_block ?_
      refine wp_loop_ghost (fun kq_ a_ W_ => ∃ (x412q : Int), ∃ (x413q : Int), Hd a_ 39 [(0, .string (mkS x381q)), (3, .slice A394q x393q.length c395q), (4, .int .i64 x398q), (5, .int .u8 x412q), (6, .int .i64 x413q)] ∧ Asd (louverref03qbytes.l2 kq_ x412q x413q x381q x393q x398q = some r0q) ∧ Asd (kq_ ≤ k399q) ∧ Asd (St b w0 W_ R (M396q :: Fs))) k399q ⟨0, x398q, h406q.keep ⟨rfl, rfl, rfl, rfl, rfl, trivial⟩, ⟨H⟩, ⟨Nat.le_refl _⟩, ⟨hS391q⟩⟩ ?_
      clear H hS391q
      rintro k411q a408q W409q ⟨x412q, x413q, h407q, ⟨H⟩, ⟨hkk411q⟩, ⟨hS410q⟩⟩
      obtain _ | k414q := k411q
      · exact absurd H (by simp [louverref03qbytes.l2])
      simp only [louverref03qbytes.l2] at H
      refine wp_seq ?_
      refine wp_seq ?_
      refine WL.start ?_
      refine WL.block (c := 4) (m' := 4) h407q rfl [(24, .bool (decide (x413q < (IntKind.i64.wrap (x398q + 8))))), (23, .int .i64 (IntKind.i64.wrap (x398q + 8))), (22, .int .i64 x398q), (21, .int .i64 x413q)] (by kernel_rfl) (fun a415q h416q => ?_)
      clear h407q a408q
      refine WL.done (by kernel_rfl) ?_
      by_cases c417q : x413q < (IntKind.i64.wrap (x398q + 8))
      · rw [if_pos c417q] at H
        have hb_ : (decide (x413q < (IntKind.i64.wrap (x398q + 8)))) = true := decide_eq_true c417q
        try rw [hb_] at h416q
        clear hb_
        refine wp_then h416q rfl ?_
        refine wp_skip ?_
        refine wp_seq ?_
        refine wp_block ?_
        refine WL.start ?_
        refine WL.block (c := 4) (m' := 4) h416q rfl [(30, .int .i64 x413q), (29, .string (mkS x381q)), (28, .int .u8 (IntKind.u8.wrap (2 * x412q))), (27, .int .u8 x412q)] (by kernel_rfl) (fun a418q h419q => ?_)
        clear h416q a415q
        by_cases c420q : 0 ≤ x413q
        · rw [if_pos c420q] at H
          by_cases c421q : x413q < (x381q.length : Int)
          · rw [if_pos c421q] at H
            refine WL.op' (m := 4) h419q rfl rfl ?_
            refine owp_run (v := .int .u8 (btI x381q x413q)) h419q rfl (by kernel_rfl) (run_stridx rfl rfl rfl Tryd.underlying9 (by first | assumption | omega) (by first | assumption | omega)) (fun a422q h423q => ?_)
            clear h419q a418q
            refine WL.block (c := 3) (m' := 8) h423q rfl [(5, .int .u8 (IntKind.u8.wrap ((IntKind.u8.wrap ((IntKind.u8.wrap (2 * x412q)) + (btI x381q x413q))) - 48))), (33, .int .u8 (IntKind.u8.wrap ((IntKind.u8.wrap ((IntKind.u8.wrap (2 * x412q)) + (btI x381q x413q))) - 48))), (32, .int .u8 (IntKind.u8.wrap ((IntKind.u8.wrap (2 * x412q)) + (btI x381q x413q))))] (by kernel_rfl) (fun a424q h425q => ?_)
            clear h423q a422q
            refine WL.done (by kernel_rfl) ?_
            refine WL.start ?_
            refine WL.block (c := 3) (m' := 3) h425q rfl [(6, .int .i64 (IntKind.i64.wrap (x413q + 1))), (26, .int .i64 (IntKind.i64.wrap (x413q + 1))), (25, .int .i64 x413q)] (by kernel_rfl) (fun a426q h427q => ?_)
            clear h425q a424q
            refine WL.done (by kernel_rfl) ?_
            exact ⟨k414q, by omega, IntKind.u8.wrap ((IntKind.u8.wrap ((IntKind.u8.wrap (2 * x412q)) + (btI x381q x413q))) - 48), IntKind.i64.wrap (x413q + 1), h427q.keep ⟨rfl, rfl, rfl, rfl, rfl, trivial⟩, ⟨H⟩, ⟨by omega⟩, ⟨hS410q⟩⟩
          · rw [if_neg c421q] at H
            cases H
        · rw [if_neg c420q] at H
          cases H
      · rw [if_neg c417q] at H
        have hb_ : (decide (x413q < (IntKind.i64.wrap (x398q + 8)))) = false := decide_eq_false c417q
        try rw [hb_] at h416q
        clear hb_
        refine wp_else h416q rfl ?_
        refine wp_exit ?_
        refine WL.start ?_
        refine WL.block (c := 2) (m' := 2) h416q rfl [(35, .int .u8 x412q), (34, .slice A394q x393q.length c395q)] (by kernel_rfl) (fun a428q h429q => ?_)
        clear h416q a415q
        refine WL.op' (m := 2) h429q rfl rfl ?_
        refine owp_new (fun g_ => .slice (some ⟨g_, 0, none⟩) 1 1) (.cells ([.int .u8 x412q] : List Value).toArray 5 (0, 0)) h429q rfl (by kernel_rfl) (by kernel_rfl) hS410q (fun a430q W432q g433q h431q hS434q => ?_)
        clear h429q a428q
        have hr435q : Row (kInt .u8) 5 b w0 R (.slice (some ⟨g433q, 0, none⟩) 1 1) ([x412q] : List Int) [(g433q, .cells ([.int .u8 x412q] : List Value).toArray 5 (0, 0))] := Row.lit (xs := ([x412q] : List Int)) (Mi := []) ⟨_, _, [], _, rfl, rfl, ⟨rfl, rfl⟩, ⟨rfl, rfl⟩⟩ (by simp [maxLen])
        by_cases c436q : x393q.length + 1 ≤ 140737488355328
        · rw [if_pos c436q] at H
          have hS437q : St b w0 W432q R (M396q :: [(g433q, .cells ([.int .u8 x412q] : List Value).toArray 5 (0, 0))] :: Fs) := hS434q.bring 1 rfl rfl
          refine WL.op' (m := 3) h431q rfl rfl ?_
          refine owp_app_take (z := .int .u8 0) (bytes := 1) (dk := (kInt .u8)) h431q rfl (by kernel_rfl) rfl rfl rfl hr397q hr435q hS437q Tryd.underlying33 (by kernel_rfl) rfl (by decide) (by decide) (by first | omega | (simp only [List.length_cons, List.length_nil] at *; omega)) (fun a438q W440q v441q M442q h439q hr443q hS444q => ?_)
          clear h431q a430q
          obtain ⟨y445q, hy446q, H⟩ := lete H
          have hr447q : Row (kInt .u8) 5 b w0 R v441q y445q M442q := by rw [hy446q]; exact hr443q
          clear hr443q
          obtain ⟨A448q, c449q, rfl⟩ := hr447q.form
          refine WL.block (c := 1) (m' := 5) h439q rfl [(3, .slice A448q y445q.length c449q)] (by kernel_rfl) (fun a450q h451q => ?_)
          clear h439q a438q
          refine WL.done (by kernel_rfl) ?_
          refine WL.start ?_
          refine WL.block (c := 3) (m' := 3) h451q rfl [(4, .int .i64 (IntKind.i64.wrap (x398q + 8))), (19, .int .i64 (IntKind.i64.wrap (x398q + 8))), (18, .int .i64 x398q)] (by kernel_rfl) (fun a452q h453q => ?_)
          clear h451q a450q
          refine WL.done (by kernel_rfl) ?_
          exact ⟨k414q, by omega, y445q, A448q, c449q, M442q, IntKind.i64.wrap (x398q + 8), h453q.keep ⟨rfl, rfl, rfl, trivial⟩, ⟨H⟩, ⟨by omega⟩, ⟨hS444q⟩, ⟨hr447q⟩⟩
        · rw [if_neg c436q] at H
          cases H
    · rw [if_neg c402q] at H
      have hb_ : (decide (x398q < (x381q.length : Int))) = false := decide_eq_false c402q
      try rw [hb_] at h401q
      clear hb_
      refine wp_else h401q rfl ?_
      refine wp_exit ?_
      refine wp_seq ?_
      refine WL.start ?_
      refine WL.block (c := 2) (m' := 2) h401q rfl [(2, .slice A394q x393q.length c395q), (38, .slice A394q x393q.length c395q)] (by kernel_rfl) (fun a454q h455q => ?_)
      clear h401q a400q
      refine WL.done (by kernel_rfl) ?_
      refine wp_ret ?_
      obtain rfl := Option.some.inj H
      repeat (first | refine then_ret ?_ | refine inBlock_ret ?_ | refine inBlock_go ?_)
      refine body_ret (v := .slice A394q x393q.length c395q) h455q (by kernel_rfl) (by kernel_rfl) ?_
      exact ⟨.slice A394q x393q.length c395q, M396q, rfl, hr397q, hS391q⟩
  · rw [if_neg c385q] at H
    have hb_ : (decide ((Int.tmod (x381q.length : Int) 8) = 0)) = false := decide_eq_false c385q
    try rw [hb_] at h384q
    clear hb_
    refine wp_then h384q rfl ?_
    refine wp_skip ?_
    refine wp_block ?_
    refine WL.start ?_
    refine WL.block (c := 1) (m' := 1) h384q rfl [(12, .string (mkS x381q))] (by kernel_rfl) (fun a456q h457q => ?_)
    clear h384q a383q
    by_cases c458q : x381q.length + ([49] : List UInt8).length ≤ 9223372036854775807
    · rw [if_pos c458q] at H
      refine WL.op' (m := 1) h457q rfl rfl ?_
      refine owp_run (v := .string (mkS (x381q ++ ([49] : List UInt8)))) h457q rfl (by kernel_rfl) (run_concat rfl rfl rfl (by assumption)) (fun a459q h460q => ?_)
      clear h457q a456q
      refine WL.block (c := 1) (m' := 3) h460q rfl [(0, .string (mkS (x381q ++ ([49] : List UInt8))))] (by kernel_rfl) (fun a461q h462q => ?_)
      clear h460q a459q
      refine WL.done (by kernel_rfl) ?_
      exact ⟨k382q, by omega, x381q ++ ([49] : List UInt8), h462q.keep ⟨rfl, rfl, trivial⟩, ⟨H⟩, ⟨by omega⟩, ⟨hS379q⟩⟩
    · rw [if_neg c458q] at H
      cases H

/-! ### louver/louverref03.Encode -/
def louverref03qEncode.l0 : Nat → (List UInt8) → Int → (List UInt8) → (List (List UInt8)) → Option ((List Int))
  | 0, _, _, _, _ => none
  | k + 1, x183q, x184q, p0, r160q => if x184q < (p0.length : Int) then (if 0 ≤ x184q then (if 0 ≤ (btI p0 x184q) then (if (btI p0 x184q) < (r160q.length : Int) then (if x183q.length + (gt [] r160q (btI p0 x184q)).length ≤ 9223372036854775807 then (louverref03qEncode.l0 k (x183q ++ (gt [] r160q (btI p0 x184q))) (IntKind.i64.wrap (x184q + 1)) p0 r160q) else (none)) else (none)) else (none)) else (none)) else (bnd1 (louverref03qbytes.f k x183q) fun r219q => (some r219q))
def louverref03qEncode.f (k : Nat) (p0 : (List UInt8)) : Option ((List Int)) := bnd1 (louverref03qCodes.f k) fun r160q => (louverref03qEncode.l0 k ([] : List UInt8) 0 p0 r160q)
set_option maxHeartbeats 2000000 in
set_option maxRecDepth 100000 in
theorem louverref03qEncode.calls (k : Nat) {b : Nat} {w0 W : World} {R : Frag} {Fs : List Frag} {p0 : (List UInt8)}  {r0q : (List Int)}  (H : louverref03qEncode.f k p0 = some r0q) (hS : St b w0 W R (Fs)) :
    Calls Tryd.prog 15 ([.string (mkS p0)] : List Value).toArray W (fun e W' => ∃ (u0q : Value) (N0q : Frag), e = .returned (u0q) ∧ Row (kInt .u8) 5 b w0 R u0q r0q N0q ∧ St b w0 W' R (N0q :: Fs)) := by
  unfold louverref03qEncode.f at H
  refine calls_enter Tryd.func15 rfl 23 rfl (by kernel_rfl) (fun a h => ?_)
  refine wp_seq ?_
  refine WL.start ?_
  refine WL.block (c := 1) (m' := 1) h rfl [(2, .slice none 0 0)] (by kernel_rfl) (fun a157q h158q => ?_)
  refine WL.done (by kernel_rfl) ?_
  refine wp_seq ?_
  refine WL.start ?_
  obtain ⟨r160q, A159q, H⟩ := bind1 H
  refine WL.op' (m := 0) h158q rfl rfl ?_
  refine owp_call [] h158q rfl (by kernel_rfl) rfl Tryd.func11 (by kernel_rfl) rfl (by kernel_rfl) (louverref03qCodes.calls k  A159q hS) (fun e162q W161q hp163q => ?_)
  obtain ⟨v166q, M167q, rfl, hr168q, hS169q⟩ := hp163q
  refine ⟨_, rfl, fun a164q h165q => ?_⟩
  clear h158q a157q
  obtain ⟨A170q, c171q, rfl⟩ := hr168q.form
  refine WL.block (c := 1) (m' := 2) h165q rfl [(3, .slice A170q r160q.length c171q)] (by kernel_rfl) (fun a172q h173q => ?_)
  clear h165q a164q
  refine WL.done (by kernel_rfl) ?_
  refine wp_seq ?_
  refine WL.start ?_
  refine WL.block (c := 1) (m' := 1) h173q rfl [(4, .string (mkS ([] : List UInt8)))] (by kernel_rfl) (fun a174q h175q => ?_)
  clear h173q a172q
  refine WL.done (by kernel_rfl) ?_
  refine wp_seq ?_
  refine wp_seq ?_
  refine WL.start ?_
  refine WL.block (c := 1) (m' := 1) h175q rfl [(5, .int .i64 0)] (by kernel_rfl) (fun a176q h177q => ?_)
  clear h175q a174q
  refine WL.done (by kernel_rfl) ?_
  refine wp_block ?_
  refine wp_loop_ghost (fun kq_ a_ W_ => ∃ (x183q : (List UInt8)), ∃ (x184q : Int), Hd a_ 23 [(0, .string (mkS p0)), (3, .slice A170q r160q.length c171q), (4, .string (mkS x183q)), (5, .int .i64 x184q)] ∧ Asd (louverref03qEncode.l0 kq_ x183q x184q p0 r160q = some r0q) ∧ Asd (kq_ ≤ k) ∧ Asd (St b w0 W_ R (M167q :: Fs))) k ⟨([] : List UInt8), 0, h177q.keep ⟨rfl, rfl, rfl, rfl, trivial⟩, ⟨H⟩, ⟨Nat.le_refl _⟩, ⟨hS169q⟩⟩ ?_
  clear H hS169q
  rintro k182q a179q W180q ⟨x183q, x184q, h178q, ⟨H⟩, ⟨hkk182q⟩, ⟨hS181q⟩⟩
  obtain _ | k185q := k182q
  · exact absurd H (by simp [louverref03qEncode.l0])
  simp only [louverref03qEncode.l0] at H
  refine wp_seq ?_
  refine wp_seq ?_
  refine WL.start ?_
  refine WL.block (c := 4) (m' := 4) h178q rfl [(10, .bool (decide (x184q < (p0.length : Int)))), (9, .int .i64 (p0.length : Int)), (8, .string (mkS p0)), (7, .int .i64 x184q)] (by kernel_rfl) (fun a186q h187q => ?_)
  clear h178q a179q
  refine WL.done (by kernel_rfl) ?_
  by_cases c188q : x184q < (p0.length : Int)
  · rw [if_pos c188q] at H
    have hb_ : (decide (x184q < (p0.length : Int))) = true := decide_eq_true c188q
    try rw [hb_] at h187q
    clear hb_
    refine wp_then h187q rfl ?_
    refine wp_skip ?_
    refine wp_seq ?_
    refine wp_block ?_
    refine WL.start ?_
    refine WL.block (c := 4) (m' := 4) h187q rfl [(16, .int .i64 x184q), (15, .string (mkS p0)), (14, .slice A170q r160q.length c171q), (13, .string (mkS x183q))] (by kernel_rfl) (fun a189q h190q => ?_)
    clear h187q a186q
    by_cases c191q : 0 ≤ x184q
    · rw [if_pos c191q] at H
      refine WL.op' (m := 4) h190q rfl rfl ?_
      refine owp_run (v := .int .u8 (btI p0 x184q)) h190q rfl (by kernel_rfl) (run_stridx rfl rfl rfl Tryd.underlying9 (by first | assumption | omega) (by first | assumption | omega)) (fun a192q h193q => ?_)
      clear h190q a189q
      by_cases c194q : 0 ≤ (btI p0 x184q)
      · rw [if_pos c194q] at H
        by_cases c195q : (btI p0 x184q) < (r160q.length : Int)
        · rw [if_pos c195q] at H
          have hi198q : 0 ≤ btI p0 x184q := by first | assumption | omega
          have hi199q : (btI p0 x184q) < (r160q.length : Int) := by first | assumption | omega
          obtain ⟨ad196q, _, ha197q, -, -⟩ := Rds.elemAny hr168q.rds hi198q (gt_get (z := []) hi198q hi199q)
          refine WL.op' (m := 5) h193q rfl rfl ?_
          refine owp_run (v := .pointer (some (ad196q.add ((btI p0 x184q).toNat * 1)))) h193q rfl (by kernel_rfl) (run_idx (ad := ad196q) (sz := 1) rfl (by rw [← ha197q]; rfl) rfl Tryd.underlying26 (by kernel_rfl) hi198q hi199q) (fun a200q h201q => ?_)
          clear h193q a192q
          obtain ⟨ad202q, cs203q, ha204q, hr206q, hc205q⟩ := Rds.elemAny hr168q.rds hi198q (gt_get (z := []) hi198q hi199q)
          rw [ha197q] at ha204q; obtain rfl := Option.some.inj ha204q
          obtain rfl : cs203q = [.string (mkS (gt [] r160q (btI p0 x184q)))] := hr206q
          refine WL.op' (m := 6) h201q rfl rfl ?_
          refine owp_run (v := .string (mkS (gt [] r160q (btI p0 x184q)))) h201q rfl (by kernel_rfl) (run_load1 rfl rfl Tryd.underlying9 rfl (cell0 (hc205q _ (fun _ _ hk_ => (hS181q).pool.kn hk_)))) (fun a207q h208q => ?_)
          clear h201q a200q
          by_cases c209q : x183q.length + (gt [] r160q (btI p0 x184q)).length ≤ 9223372036854775807
          · rw [if_pos c209q] at H
            refine WL.op' (m := 7) h208q rfl rfl ?_
            refine owp_run (v := .string (mkS (x183q ++ (gt [] r160q (btI p0 x184q))))) h208q rfl (by kernel_rfl) (run_concat rfl rfl rfl (by assumption)) (fun a210q h211q => ?_)
            clear h208q a207q
            refine WL.block (c := 1) (m' := 9) h211q rfl [(4, .string (mkS (x183q ++ (gt [] r160q (btI p0 x184q)))))] (by kernel_rfl) (fun a212q h213q => ?_)
            clear h211q a210q
            refine WL.done (by kernel_rfl) ?_
            refine WL.start ?_
            refine WL.block (c := 3) (m' := 3) h213q rfl [(5, .int .i64 (IntKind.i64.wrap (x184q + 1))), (12, .int .i64 (IntKind.i64.wrap (x184q + 1))), (11, .int .i64 x184q)] (by kernel_rfl) (fun a214q h215q => ?_)
            clear h213q a212q
            refine WL.done (by kernel_rfl) ?_
            exact ⟨k185q, by omega, x183q ++ (gt [] r160q (btI p0 x184q)), IntKind.i64.wrap (x184q + 1), h215q.keep ⟨rfl, rfl, rfl, rfl, trivial⟩, ⟨H⟩, ⟨by omega⟩, ⟨hS181q⟩⟩
          · rw [if_neg c209q] at H
            cases H
        · rw [if_neg c195q] at H
          cases H
      · rw [if_neg c194q] at H
        cases H
    · rw [if_neg c191q] at H
      cases H
  · rw [if_neg c188q] at H
    have hb_ : (decide (x184q < (p0.length : Int))) = false := decide_eq_false c188q
    try rw [hb_] at h187q
    clear hb_
    refine wp_else h187q rfl ?_
    refine wp_exit ?_
    refine wp_seq ?_
    refine WL.start ?_
    refine WL.block (c := 1) (m' := 1) h187q rfl [(21, .string (mkS x183q))] (by kernel_rfl) (fun a216q h217q => ?_)
    clear h187q a186q
    obtain ⟨r219q, A218q, H⟩ := bind1 H
    refine WL.op' (m := 1) h217q rfl rfl ?_
    refine owp_call [.string (mkS x183q)] h217q rfl (by kernel_rfl) rfl Tryd.func20 (by kernel_rfl) rfl (by kernel_rfl) (louverref03qbytes.calls k185q  A218q hS181q) (fun e221q W220q hp222q => ?_)
    obtain ⟨v225q, M226q, rfl, hr227q, hS228q⟩ := hp222q
    refine ⟨_, rfl, fun a223q h224q => ?_⟩
    clear h217q a216q
    obtain ⟨A229q, c230q, rfl⟩ := hr227q.form
    refine WL.block (c := 1) (m' := 3) h224q rfl [(2, .slice A229q r219q.length c230q)] (by kernel_rfl) (fun a231q h232q => ?_)
    clear h224q a223q
    refine WL.done (by kernel_rfl) ?_
    refine wp_ret ?_
    have hS233q : St b w0 W220q R (M167q :: M226q :: Fs) := hS228q.bring 1 rfl rfl
    have hS234q : St b w0 W220q R (M226q :: Fs) := hS233q.drop_
    obtain rfl := Option.some.inj H
    repeat (first | refine then_ret ?_ | refine inBlock_ret ?_ | refine inBlock_go ?_)
    refine body_ret (v := .slice A229q r219q.length c230q) h232q (by kernel_rfl) (by kernel_rfl) ?_
    exact ⟨.slice A229q r219q.length c230q, M226q, rfl, hr227q, hS234q⟩

/-! ### louver/louverlaw03.HuffmanEncodes -/
def louverlaw03qHuffmanEncodes.f (k : Nat) (p0 : (List UInt8)) : Option (Bool) := if (p0.length : Int) > 600 then (bnd1 (louverlaw03qfixed.f k) fun r618q => (some r618q)) else (bnd1 (huffman_Encode.f k p0) fun r630q => (bnd2 (huffman_Decode.f k r630q) fun r647q r648q => (bnd1 (louverlaw03qfixed.f k) fun r1030q => (if r1030q = true then (bnd1 (louverref03qEncode.f k p0) fun r1047q => (if (toS r630q) = (toS r1047q) then (bnd1 (huffman_Size.f k p0) fun r1075q => (if r1075q = (r630q.length : Int) then (if r647q = p0 then (some (decide (r648q = 0))) else (some false)) else (some false))) else (some false))) else (some false)))))
set_option maxHeartbeats 2000000 in
set_option maxRecDepth 100000 in
theorem louverlaw03qHuffmanEncodes.calls (k : Nat) {b : Nat} {w0 W : World} {R : Frag} {Fs : List Frag} {p0 : (List UInt8)}  {r0q : Bool} (hg0 : Rds (kInt .u8) b w0 [] (.slice (some ⟨0, 0, none⟩) 257 257) G0) (H : louverlaw03qHuffmanEncodes.f k p0 = some r0q) (hS : St b w0 W R (Fs)) :
    Calls Tryd.prog 6 ([.string (mkS p0)] : List Value).toArray W (fun e W' => e = .returned (.bool r0q) ∧ St b w0 W' R (Fs)) := by
  unfold louverlaw03qHuffmanEncodes.f at H
  refine calls_enter Tryd.func6 rfl 42 rfl (by kernel_rfl) (fun a h => ?_)
  refine wp_seq ?_
  refine WL.start ?_
  refine WL.block (c := 1) (m' := 1) h rfl [(2, .bool false)] (by kernel_rfl) (fun a612q h613q => ?_)
  refine WL.done (by kernel_rfl) ?_
  refine wp_seq ?_
  refine wp_seq ?_
  refine WL.start ?_
  refine WL.block (c := 3) (m' := 3) h613q rfl [(8, .bool (decide ((p0.length : Int) > 600))), (7, .int .i64 (p0.length : Int)), (6, .string (mkS p0))] (by kernel_rfl) (fun a614q h615q => ?_)
  clear h613q a612q
  refine WL.done (by kernel_rfl) ?_
  by_cases c616q : (p0.length : Int) > 600
  · rw [if_pos c616q] at H
    have hb_ : (decide ((p0.length : Int) > 600)) = true := decide_eq_true c616q
    try rw [hb_] at h615q
    clear hb_
    refine wp_then h615q rfl ?_
    refine wp_seq ?_
    refine WL.start ?_
    obtain ⟨r618q, A617q, H⟩ := bind1 H
    refine WL.op' (m := 0) h615q rfl rfl ?_
    refine owp_call [] h615q rfl (by kernel_rfl) rfl Tryd.func10 (by kernel_rfl) rfl (by kernel_rfl) (louverlaw03qfixed.calls k hg0 A617q hS) (fun e620q W619q hp621q => ?_)
    obtain ⟨rfl, hS624q⟩ := hp621q
    refine ⟨_, rfl, fun a622q h623q => ?_⟩
    clear h615q a614q
    refine WL.block (c := 1) (m' := 2) h623q rfl [(2, .bool r618q)] (by kernel_rfl) (fun a625q h626q => ?_)
    clear h623q a622q
    refine WL.done (by kernel_rfl) ?_
    refine wp_ret ?_
    obtain rfl := Option.some.inj H
    repeat (first | refine then_ret ?_ | refine inBlock_ret ?_ | refine inBlock_go ?_)
    refine body_ret (v := .bool r618q) h626q (by kernel_rfl) (by kernel_rfl) ?_
    exact ⟨rfl, hS624q⟩
  · rw [if_neg c616q] at H
    have hb_ : (decide ((p0.length : Int) > 600)) = false := decide_eq_false c616q
    try rw [hb_] at h615q
    clear hb_
    refine wp_else h615q rfl ?_
    refine wp_skip ?_
    refine wp_seq ?_
    refine WL.start ?_
    refine WL.block (c := 1) (m' := 1) h615q rfl [(10, .string (mkS p0))] (by kernel_rfl) (fun a627q h628q => ?_)
    clear h615q a614q
    obtain ⟨r630q, A629q, H⟩ := bind1 H
    refine WL.op' (m := 1) h628q rfl rfl ?_
    refine owp_call [.string (mkS p0)] h628q rfl (by kernel_rfl) rfl Tryd.func13 (by kernel_rfl) rfl (by kernel_rfl) (huffman_Encode.calls k hg0 A629q hS) (fun e632q W631q hp633q => ?_)
    obtain ⟨v636q, M637q, rfl, hr638q, hS639q⟩ := hp633q
    refine ⟨_, rfl, fun a634q h635q => ?_⟩
    clear h628q a627q
    obtain ⟨A640q, c641q, rfl⟩ := hr638q.form
    refine WL.block (c := 1) (m' := 3) h635q rfl [(3, .slice A640q r630q.length c641q)] (by kernel_rfl) (fun a642q h643q => ?_)
    clear h635q a634q
    refine WL.done (by kernel_rfl) ?_
    refine wp_seq ?_
    refine WL.start ?_
    refine WL.block (c := 1) (m' := 1) h643q rfl [(13, .slice A640q r630q.length c641q)] (by kernel_rfl) (fun a644q h645q => ?_)
    clear h643q a642q
    obtain ⟨r647q, r648q, A646q, H⟩ := bind2 H
    refine WL.op' (m := 1) h645q rfl rfl ?_
    refine owp_call [.slice A640q r630q.length c641q] h645q rfl (by kernel_rfl) rfl Tryd.func14 (by kernel_rfl) rfl (by kernel_rfl) (huffman_Decode.calls k hr638q.rds hg0 A646q (hS639q.pool)) (fun e650q W649q hp651q => ?_)
    obtain ⟨rfl, hS654q⟩ := hp651q
    have hS655q : St b w0 W649q R (M637q :: Fs) := hS654q.unpool
    refine ⟨_, rfl, fun a652q h653q => ?_⟩
    clear h645q a644q
    refine WL.block (c := 5) (m' := 7) h653q rfl [(5, .int .i64 r648q), (4, .string (mkS r647q)), (16, .int .i64 r648q), (15, .string (mkS r647q)), (12, .tuple #[.string (mkS r647q), .int .i64 r648q])] (by kernel_rfl) (fun a656q h657q => ?_)
    clear h653q a652q
    refine WL.done (by kernel_rfl) ?_
    refine wp_seq ?_
    refine WT.start 26 (fun w_ => (∀ a_ u_, Kn b w0 (M637q ++ R) a_ u_ → w_.cell? a_ = some u_) ∧ True) (by kernel_rfl) #[false, false, false, false, false, false, false, false, false, false, false, false, false, false, false, false, false, false, false, false, false, false, false, false, false, false] 26 rfl rfl ?_
    have hS1028q := hS655q.drew
    obtain ⟨r1030q, A1029q, H⟩ := bind1 H
    refine WT.op 0 (listed' := #[true, false, false, false, false, false, false, false, false, false, false, false, false, false, false, false, false, false, false, false, false, false, false, false, false, false]) h657q rfl (by kernel_rfl) rfl rfl ?_
    refine owp_call [] h657q rfl (by kernel_rfl) rfl Tryd.func10 (by kernel_rfl) rfl (by kernel_rfl) (louverlaw03qfixed.calls k hg0 A1029q hS1028q) (fun e1032q W1031q hp1033q => ?_)
    obtain ⟨rfl, hS1036q⟩ := hp1033q
    refine ⟨_, rfl, fun a1034q h1035q => ?_⟩
    clear h657q a656q
    refine ⟨.inr ⟨(fun _ _ hk_ => (hS1036q).pool.kn hk_), trivial⟩, ?_⟩
    refine WT.take 1 (listed' := #[true, true, false, false, false, false, false, false, false, false, false, false, false, false, false, false, false, false, false, false, false, false, false, false, false, false]) h1035q rfl rfl (by kernel_rfl) rfl rfl (.bool r1030q) (fun _ _ => by kernel_rfl) ⟨(fun _ _ hk_ => (hS1036q).pool.kn hk_), trivial⟩ (fun _ _ _ h_ => h_) (fun a1037q h1038q => ?_)
    clear h1035q a1034q
    by_cases c1039q : r1030q = true
    · rw [if_pos c1039q] at H
      have hb_ : r1030q = true := c1039q
      try rw [hb_] at h1038q
      clear hb_
      refine WT.take 2 (listed' := #[true, true, true, false, false, false, false, false, false, false, false, false, false, false, false, false, false, false, false, false, false, false, false, false, false, false]) h1038q rfl rfl (by kernel_rfl) rfl rfl (.slice A640q r630q.length c641q) (fun _ _ => by kernel_rfl) ⟨(fun _ _ hk_ => (hS1036q).pool.kn hk_), trivial⟩ (fun _ _ _ h_ => h_) (fun a1040q h1041q => ?_)
      clear h1038q a1037q
      refine WT.take 4 (listed' := #[true, true, true, false, true, false, false, false, false, false, false, false, false, false, false, false, false, false, false, false, false, false, false, false, false, false]) h1041q rfl rfl (by kernel_rfl) rfl rfl (.string (mkS p0)) (fun _ _ => by kernel_rfl) ⟨(fun _ _ hk_ => (hS1036q).pool.kn hk_), trivial⟩ (fun _ _ _ h_ => h_) (fun a1042q h1043q => ?_)
      clear h1041q a1040q
      refine WT.take 3 (listed' := #[true, true, true, true, true, false, false, false, false, false, false, false, false, false, false, false, false, false, false, false, false, false, false, false, false, false]) h1043q rfl rfl (by kernel_rfl) rfl rfl (.string (mkS (toS r630q))) (fun w_ hs_ => (run_tostr rfl rfl hr638q.rds hs_.1 Tryd.underlying33 Tryd.underlying5 Tryd.underlying9)) ⟨(fun _ _ hk_ => (hS1036q).pool.kn hk_), trivial⟩ (fun _ _ _ h_ => h_) (fun a1044q h1045q => ?_)
      clear h1043q a1042q
      obtain ⟨r1047q, A1046q, H⟩ := bind1 H
      refine WT.op 5 (listed' := #[true, true, true, true, true, true, false, false, false, false, false, false, false, false, false, false, false, false, false, false, false, false, false, false, false, false]) h1045q rfl (by kernel_rfl) rfl rfl ?_
      refine owp_call [.string (mkS p0)] h1045q rfl (by kernel_rfl) rfl Tryd.func15 (by kernel_rfl) rfl (by kernel_rfl) (louverref03qEncode.calls k  A1046q hS1036q) (fun e1049q W1048q hp1050q => ?_)
      obtain ⟨v1053q, M1054q, rfl, hr1055q, hS1056q⟩ := hp1050q
      refine ⟨_, rfl, fun a1051q h1052q => ?_⟩
      clear h1045q a1044q
      obtain ⟨A1057q, c1058q, rfl⟩ := hr1055q.form
      refine ⟨.inr ⟨(fun _ _ hk_ => (hS1056q.bring 1 rfl rfl).pool.kn hk_), trivial⟩, ?_⟩
      refine WT.op 6 (listed' := #[true, true, true, true, true, true, true, false, false, false, false, false, false, false, false, false, false, false, false, false, false, false, false, false, false, false]) h1052q rfl (by kernel_rfl) rfl rfl ?_
      refine owp_run (v := .string (mkS (toS r1047q))) h1052q rfl (by kernel_rfl) (run_tostr rfl rfl hr1055q.rds (fun _ _ hk_ => (hS1056q).pool.kn hk_) Tryd.underlying33 Tryd.underlying5 Tryd.underlying9) (fun a1059q h1060q => ?_)
      clear h1052q a1051q
      refine ⟨.inr ⟨(fun _ _ hk_ => (hS1056q.bring 1 rfl rfl).pool.kn hk_), trivial⟩, ?_⟩
      refine WT.take 7 (listed' := #[true, true, true, true, true, true, true, true, false, false, false, false, false, false, false, false, false, false, false, false, false, false, false, false, false, false]) h1060q rfl rfl (by kernel_rfl) rfl rfl (.bool (decide ((toS r630q) = (toS r1047q)))) (fun w_ hs_ => (run_streq rfl rfl rfl)) ⟨(fun _ _ hk_ => (hS1056q.bring 1 rfl rfl).pool.kn hk_), trivial⟩ (fun _ _ _ h_ => h_) (fun a1061q h1062q => ?_)
      clear h1060q a1059q
      refine WT.take 8 (listed' := #[true, true, true, true, true, true, true, true, true, false, false, false, false, false, false, false, false, false, false, false, false, false, false, false, false, false]) h1062q rfl rfl (by kernel_rfl) rfl rfl (.bool (decide ((toS r630q) = (toS r1047q)))) (fun _ _ => by kernel_rfl) ⟨(fun _ _ hk_ => (hS1056q.bring 1 rfl rfl).pool.kn hk_), trivial⟩ (fun _ _ _ h_ => h_) (fun a1063q h1064q => ?_)
      clear h1062q a1061q
      refine WT.take 9 (listed' := #[true, true, true, true, true, true, true, true, true, true, false, false, false, false, false, false, false, false, false, false, false, false, false, false, false, false]) h1064q rfl rfl (by kernel_rfl) rfl rfl (.bool (decide ((toS r630q) = (toS r1047q)))) (fun _ _ => by kernel_rfl) ⟨(fun _ _ hk_ => (hS1056q.bring 1 rfl rfl).pool.kn hk_), trivial⟩ (fun _ _ _ h_ => h_) (fun a1065q h1066q => ?_)
      clear h1064q a1063q
      by_cases c1067q : (toS r630q) = (toS r1047q)
      · rw [if_pos c1067q] at H
        have hb_ : (decide ((toS r630q) = (toS r1047q))) = true := decide_eq_true c1067q
        try rw [hb_] at h1066q
        clear hb_
        refine WT.take 10 (listed' := #[true, true, true, true, true, true, true, true, true, true, true, false, false, false, false, false, false, false, false, false, false, false, false, false, false, false]) h1066q rfl rfl (by kernel_rfl) rfl rfl (.string (mkS p0)) (fun _ _ => by kernel_rfl) ⟨(fun _ _ hk_ => (hS1056q.bring 1 rfl rfl).pool.kn hk_), trivial⟩ (fun _ _ _ h_ => h_) (fun a1068q h1069q => ?_)
        clear h1066q a1065q
        refine WT.take 12 (listed' := #[true, true, true, true, true, true, true, true, true, true, true, false, true, false, false, false, false, false, false, false, false, false, false, false, false, false]) h1069q rfl rfl (by kernel_rfl) rfl rfl (.slice A640q r630q.length c641q) (fun _ _ => by kernel_rfl) ⟨(fun _ _ hk_ => (hS1056q.bring 1 rfl rfl).pool.kn hk_), trivial⟩ (fun _ _ _ h_ => h_) (fun a1070q h1071q => ?_)
        clear h1069q a1068q
        refine WT.take 13 (listed' := #[true, true, true, true, true, true, true, true, true, true, true, false, true, true, false, false, false, false, false, false, false, false, false, false, false, false]) h1071q rfl rfl (by kernel_rfl) rfl rfl (.int .i64 (r630q.length : Int)) (fun _ _ => by kernel_rfl) ⟨(fun _ _ hk_ => (hS1056q.bring 1 rfl rfl).pool.kn hk_), trivial⟩ (fun _ _ _ h_ => h_) (fun a1072q h1073q => ?_)
        clear h1071q a1070q
        obtain ⟨r1075q, A1074q, H⟩ := bind1 H
        refine WT.op 11 (listed' := #[true, true, true, true, true, true, true, true, true, true, true, true, true, true, false, false, false, false, false, false, false, false, false, false, false, false]) h1073q rfl (by kernel_rfl) rfl rfl ?_
        refine owp_call [.string (mkS p0)] h1073q rfl (by kernel_rfl) rfl Tryd.func12 (by kernel_rfl) rfl (by kernel_rfl) (huffman_Size.calls k hg0 A1074q hS1056q) (fun e1077q W1076q hp1078q => ?_)
        obtain ⟨rfl, hS1081q⟩ := hp1078q
        refine ⟨_, rfl, fun a1079q h1080q => ?_⟩
        clear h1073q a1072q
        refine ⟨.inr ⟨(fun _ _ hk_ => (hS1081q.bring 1 rfl rfl).pool.kn hk_), trivial⟩, ?_⟩
        refine WT.take 14 (listed' := #[true, true, true, true, true, true, true, true, true, true, true, true, true, true, true, false, false, false, false, false, false, false, false, false, false, false]) h1080q rfl rfl (by kernel_rfl) rfl rfl (.bool (decide (r1075q = (r630q.length : Int)))) (fun _ _ => by kernel_rfl) ⟨(fun _ _ hk_ => (hS1081q.bring 1 rfl rfl).pool.kn hk_), trivial⟩ (fun _ _ _ h_ => h_) (fun a1082q h1083q => ?_)
        clear h1080q a1079q
        refine WT.take 15 (listed' := #[true, true, true, true, true, true, true, true, true, true, true, true, true, true, true, true, false, false, false, false, false, false, false, false, false, false]) h1083q rfl rfl (by kernel_rfl) rfl rfl (.bool (decide (r1075q = (r630q.length : Int)))) (fun _ _ => by kernel_rfl) ⟨(fun _ _ hk_ => (hS1081q.bring 1 rfl rfl).pool.kn hk_), trivial⟩ (fun _ _ _ h_ => h_) (fun a1084q h1085q => ?_)
        clear h1083q a1082q
        refine WT.take 16 (listed' := #[true, true, true, true, true, true, true, true, true, true, true, true, true, true, true, true, true, false, false, false, false, false, false, false, false, false]) h1085q rfl rfl (by kernel_rfl) rfl rfl (.bool (decide (r1075q = (r630q.length : Int)))) (fun _ _ => by kernel_rfl) ⟨(fun _ _ hk_ => (hS1081q.bring 1 rfl rfl).pool.kn hk_), trivial⟩ (fun _ _ _ h_ => h_) (fun a1086q h1087q => ?_)
        clear h1085q a1084q
        by_cases c1088q : r1075q = (r630q.length : Int)
        · rw [if_pos c1088q] at H
          have hb_ : (decide (r1075q = (r630q.length : Int))) = true := decide_eq_true c1088q
          try rw [hb_] at h1087q
          clear hb_
          refine WT.take 17 (listed' := #[true, true, true, true, true, true, true, true, true, true, true, true, true, true, true, true, true, true, false, false, false, false, false, false, false, false]) h1087q rfl rfl (by kernel_rfl) rfl rfl (.string (mkS r647q)) (fun _ _ => by kernel_rfl) ⟨(fun _ _ hk_ => (hS1081q.bring 1 rfl rfl).pool.kn hk_), trivial⟩ (fun _ _ _ h_ => h_) (fun a1089q h1090q => ?_)
          clear h1087q a1086q
          refine WT.take 18 (listed' := #[true, true, true, true, true, true, true, true, true, true, true, true, true, true, true, true, true, true, true, false, false, false, false, false, false, false]) h1090q rfl rfl (by kernel_rfl) rfl rfl (.string (mkS p0)) (fun _ _ => by kernel_rfl) ⟨(fun _ _ hk_ => (hS1081q.bring 1 rfl rfl).pool.kn hk_), trivial⟩ (fun _ _ _ h_ => h_) (fun a1091q h1092q => ?_)
          clear h1090q a1089q
          refine WT.take 19 (listed' := #[true, true, true, true, true, true, true, true, true, true, true, true, true, true, true, true, true, true, true, true, false, false, false, false, false, false]) h1092q rfl rfl (by kernel_rfl) rfl rfl (.bool (decide (r647q = p0))) (fun w_ hs_ => (run_streq rfl rfl rfl)) ⟨(fun _ _ hk_ => (hS1081q.bring 1 rfl rfl).pool.kn hk_), trivial⟩ (fun _ _ _ h_ => h_) (fun a1093q h1094q => ?_)
          clear h1092q a1091q
          refine WT.take 20 (listed' := #[true, true, true, true, true, true, true, true, true, true, true, true, true, true, true, true, true, true, true, true, true, false, false, false, false, false]) h1094q rfl rfl (by kernel_rfl) rfl rfl (.bool (decide (r647q = p0))) (fun _ _ => by kernel_rfl) ⟨(fun _ _ hk_ => (hS1081q.bring 1 rfl rfl).pool.kn hk_), trivial⟩ (fun _ _ _ h_ => h_) (fun a1095q h1096q => ?_)
          clear h1094q a1093q
          refine WT.take 21 (listed' := #[true, true, true, true, true, true, true, true, true, true, true, true, true, true, true, true, true, true, true, true, true, true, false, false, false, false]) h1096q rfl rfl (by kernel_rfl) rfl rfl (.bool (decide (r647q = p0))) (fun _ _ => by kernel_rfl) ⟨(fun _ _ hk_ => (hS1081q.bring 1 rfl rfl).pool.kn hk_), trivial⟩ (fun _ _ _ h_ => h_) (fun a1097q h1098q => ?_)
          clear h1096q a1095q
          by_cases c1099q : r647q = p0
          · rw [if_pos c1099q] at H
            have hb_ : (decide (r647q = p0)) = true := decide_eq_true c1099q
            try rw [hb_] at h1098q
            clear hb_
            refine WT.take 22 (listed' := #[true, true, true, true, true, true, true, true, true, true, true, true, true, true, true, true, true, true, true, true, true, true, true, false, false, false]) h1098q rfl rfl (by kernel_rfl) rfl rfl (.int .i64 r648q) (fun _ _ => by kernel_rfl) ⟨(fun _ _ hk_ => (hS1081q.bring 1 rfl rfl).pool.kn hk_), trivial⟩ (fun _ _ _ h_ => h_) (fun a1100q h1101q => ?_)
            clear h1098q a1097q
            refine WT.take 23 (listed' := #[true, true, true, true, true, true, true, true, true, true, true, true, true, true, true, true, true, true, true, true, true, true, true, true, false, false]) h1101q rfl rfl (by kernel_rfl) rfl rfl (.bool (decide (r648q = 0))) (fun _ _ => by kernel_rfl) ⟨(fun _ _ hk_ => (hS1081q.bring 1 rfl rfl).pool.kn hk_), trivial⟩ (fun _ _ _ h_ => h_) (fun a1102q h1103q => ?_)
            clear h1101q a1100q
            refine WT.take 24 (listed' := #[true, true, true, true, true, true, true, true, true, true, true, true, true, true, true, true, true, true, true, true, true, true, true, true, true, false]) h1103q rfl rfl (by kernel_rfl) rfl rfl (.bool (decide (r648q = 0))) (fun _ _ => by kernel_rfl) ⟨(fun _ _ hk_ => (hS1081q.bring 1 rfl rfl).pool.kn hk_), trivial⟩ (fun _ _ _ h_ => h_) (fun a1104q h1105q => ?_)
            clear h1103q a1102q
            refine WT.take 25 (listed' := #[true, true, true, true, true, true, true, true, true, true, true, true, true, true, true, true, true, true, true, true, true, true, true, true, true, true]) h1105q rfl rfl (by kernel_rfl) rfl rfl (.bool (decide (r648q = 0))) (fun _ _ => by kernel_rfl) ⟨(fun _ _ hk_ => (hS1081q.bring 1 rfl rfl).pool.kn hk_), trivial⟩ (fun _ _ _ h_ => h_) (fun a1106q h1107q => ?_)
            clear h1105q a1104q
            refine WT.done (by kernel_rfl) ?_
            refine wp_ret ?_
            have hS1108q : St b w0 W1076q R (M637q :: Fs) := hS1081q.drop_
            have hS1109q : St b w0 W1076q R (Fs) := hS1108q.drop_
            obtain rfl := Option.some.inj H
            repeat (first | refine then_ret ?_ | refine inBlock_ret ?_ | refine inBlock_go ?_)
            refine body_ret (v := .bool (decide (r648q = 0))) h1107q (by kernel_rfl) (by kernel_rfl) ?_
            exact ⟨rfl, hS1109q⟩
          · rw [if_neg c1099q] at H
            have hb_ : (decide (r647q = p0)) = false := decide_eq_false c1099q
            try rw [hb_] at h1098q
            clear hb_
            refine WT.skip 22 (listed' := #[true, true, true, true, true, true, true, true, true, true, true, true, true, true, true, true, true, true, true, true, true, true, true, false, false, false]) h1098q rfl rfl (by kernel_rfl) rfl rfl ⟨(fun _ _ hk_ => (hS1081q.bring 1 rfl rfl).pool.kn hk_), trivial⟩ (fun _ _ _ h_ => h_) (fun a1110q h1111q => ?_)
            clear h1098q a1097q
            refine WT.skip 23 (listed' := #[true, true, true, true, true, true, true, true, true, true, true, true, true, true, true, true, true, true, true, true, true, true, true, true, false, false]) h1111q rfl rfl (by kernel_rfl) rfl rfl ⟨(fun _ _ hk_ => (hS1081q.bring 1 rfl rfl).pool.kn hk_), trivial⟩ (fun _ _ _ h_ => h_) (fun a1112q h1113q => ?_)
            clear h1111q a1110q
            refine WT.take 24 (listed' := #[true, true, true, true, true, true, true, true, true, true, true, true, true, true, true, true, true, true, true, true, true, true, true, true, true, false]) h1113q rfl rfl (by kernel_rfl) rfl rfl (.bool false) (fun _ _ => by kernel_rfl) ⟨(fun _ _ hk_ => (hS1081q.bring 1 rfl rfl).pool.kn hk_), trivial⟩ (fun _ _ _ h_ => h_) (fun a1114q h1115q => ?_)
            clear h1113q a1112q
            refine WT.take 25 (listed' := #[true, true, true, true, true, true, true, true, true, true, true, true, true, true, true, true, true, true, true, true, true, true, true, true, true, true]) h1115q rfl rfl (by kernel_rfl) rfl rfl (.bool false) (fun _ _ => by kernel_rfl) ⟨(fun _ _ hk_ => (hS1081q.bring 1 rfl rfl).pool.kn hk_), trivial⟩ (fun _ _ _ h_ => h_) (fun a1116q h1117q => ?_)
            clear h1115q a1114q
            refine WT.done (by kernel_rfl) ?_
            refine wp_ret ?_
            have hS1118q : St b w0 W1076q R (M637q :: Fs) := hS1081q.drop_
            have hS1119q : St b w0 W1076q R (Fs) := hS1118q.drop_
            obtain rfl := Option.some.inj H
            repeat (first | refine then_ret ?_ | refine inBlock_ret ?_ | refine inBlock_go ?_)
            refine body_ret (v := .bool false) h1117q (by kernel_rfl) (by kernel_rfl) ?_
            exact ⟨rfl, hS1119q⟩
        · rw [if_neg c1088q] at H
          have hb_ : (decide (r1075q = (r630q.length : Int))) = false := decide_eq_false c1088q
          try rw [hb_] at h1087q
          clear hb_
          refine WT.skip 17 (listed' := #[true, true, true, true, true, true, true, true, true, true, true, true, true, true, true, true, true, true, false, false, false, false, false, false, false, false]) h1087q rfl rfl (by kernel_rfl) rfl rfl ⟨(fun _ _ hk_ => (hS1081q.bring 1 rfl rfl).pool.kn hk_), trivial⟩ (fun _ _ _ h_ => h_) (fun a1120q h1121q => ?_)
          clear h1087q a1086q
          refine WT.skip 18 (listed' := #[true, true, true, true, true, true, true, true, true, true, true, true, true, true, true, true, true, true, true, false, false, false, false, false, false, false]) h1121q rfl rfl (by kernel_rfl) rfl rfl ⟨(fun _ _ hk_ => (hS1081q.bring 1 rfl rfl).pool.kn hk_), trivial⟩ (fun _ _ _ h_ => h_) (fun a1122q h1123q => ?_)
          clear h1121q a1120q
          refine WT.skip 19 (listed' := #[true, true, true, true, true, true, true, true, true, true, true, true, true, true, true, true, true, true, true, true, false, false, false, false, false, false]) h1123q rfl rfl (by kernel_rfl) rfl rfl ⟨(fun _ _ hk_ => (hS1081q.bring 1 rfl rfl).pool.kn hk_), trivial⟩ (fun _ _ _ h_ => h_) (fun a1124q h1125q => ?_)
          clear h1123q a1122q
          refine WT.take 20 (listed' := #[true, true, true, true, true, true, true, true, true, true, true, true, true, true, true, true, true, true, true, true, true, false, false, false, false, false]) h1125q rfl rfl (by kernel_rfl) rfl rfl (.bool false) (fun _ _ => by kernel_rfl) ⟨(fun _ _ hk_ => (hS1081q.bring 1 rfl rfl).pool.kn hk_), trivial⟩ (fun _ _ _ h_ => h_) (fun a1126q h1127q => ?_)
          clear h1125q a1124q
          refine WT.take 21 (listed' := #[true, true, true, true, true, true, true, true, true, true, true, true, true, true, true, true, true, true, true, true, true, true, false, false, false, false]) h1127q rfl rfl (by kernel_rfl) rfl rfl (.bool false) (fun _ _ => by kernel_rfl) ⟨(fun _ _ hk_ => (hS1081q.bring 1 rfl rfl).pool.kn hk_), trivial⟩ (fun _ _ _ h_ => h_) (fun a1128q h1129q => ?_)
          clear h1127q a1126q
          refine WT.skip 22 (listed' := #[true, true, true, true, true, true, true, true, true, true, true, true, true, true, true, true, true, true, true, true, true, true, true, false, false, false]) h1129q rfl rfl (by kernel_rfl) rfl rfl ⟨(fun _ _ hk_ => (hS1081q.bring 1 rfl rfl).pool.kn hk_), trivial⟩ (fun _ _ _ h_ => h_) (fun a1130q h1131q => ?_)
          clear h1129q a1128q
          refine WT.skip 23 (listed' := #[true, true, true, true, true, true, true, true, true, true, true, true, true, true, true, true, true, true, true, true, true, true, true, true, false, false]) h1131q rfl rfl (by kernel_rfl) rfl rfl ⟨(fun _ _ hk_ => (hS1081q.bring 1 rfl rfl).pool.kn hk_), trivial⟩ (fun _ _ _ h_ => h_) (fun a1132q h1133q => ?_)
          clear h1131q a1130q
          refine WT.take 24 (listed' := #[true, true, true, true, true, true, true, true, true, true, true, true, true, true, true, true, true, true, true, true, true, true, true, true, true, false]) h1133q rfl rfl (by kernel_rfl) rfl rfl (.bool false) (fun _ _ => by kernel_rfl) ⟨(fun _ _ hk_ => (hS1081q.bring 1 rfl rfl).pool.kn hk_), trivial⟩ (fun _ _ _ h_ => h_) (fun a1134q h1135q => ?_)
          clear h1133q a1132q
          refine WT.take 25 (listed' := #[true, true, true, true, true, true, true, true, true, true, true, true, true, true, true, true, true, true, true, true, true, true, true, true, true, true]) h1135q rfl rfl (by kernel_rfl) rfl rfl (.bool false) (fun _ _ => by kernel_rfl) ⟨(fun _ _ hk_ => (hS1081q.bring 1 rfl rfl).pool.kn hk_), trivial⟩ (fun _ _ _ h_ => h_) (fun a1136q h1137q => ?_)
          clear h1135q a1134q
          refine WT.done (by kernel_rfl) ?_
          refine wp_ret ?_
          have hS1138q : St b w0 W1076q R (M637q :: Fs) := hS1081q.drop_
          have hS1139q : St b w0 W1076q R (Fs) := hS1138q.drop_
          obtain rfl := Option.some.inj H
          repeat (first | refine then_ret ?_ | refine inBlock_ret ?_ | refine inBlock_go ?_)
          refine body_ret (v := .bool false) h1137q (by kernel_rfl) (by kernel_rfl) ?_
          exact ⟨rfl, hS1139q⟩
      · rw [if_neg c1067q] at H
        have hb_ : (decide ((toS r630q) = (toS r1047q))) = false := decide_eq_false c1067q
        try rw [hb_] at h1066q
        clear hb_
        refine WT.skip 10 (listed' := #[true, true, true, true, true, true, true, true, true, true, true, false, false, false, false, false, false, false, false, false, false, false, false, false, false, false]) h1066q rfl rfl (by kernel_rfl) rfl rfl ⟨(fun _ _ hk_ => (hS1056q.bring 1 rfl rfl).pool.kn hk_), trivial⟩ (fun _ _ _ h_ => h_) (fun a1140q h1141q => ?_)
        clear h1066q a1065q
        refine WT.skip 11 (listed' := #[true, true, true, true, true, true, true, true, true, true, true, true, false, false, false, false, false, false, false, false, false, false, false, false, false, false]) h1141q rfl rfl (by kernel_rfl) rfl rfl ⟨(fun _ _ hk_ => (hS1056q.bring 1 rfl rfl).pool.kn hk_), trivial⟩ (fun _ _ _ h_ => h_) (fun a1142q h1143q => ?_)
        clear h1141q a1140q
        refine WT.skip 12 (listed' := #[true, true, true, true, true, true, true, true, true, true, true, true, true, false, false, false, false, false, false, false, false, false, false, false, false, false]) h1143q rfl rfl (by kernel_rfl) rfl rfl ⟨(fun _ _ hk_ => (hS1056q.bring 1 rfl rfl).pool.kn hk_), trivial⟩ (fun _ _ _ h_ => h_) (fun a1144q h1145q => ?_)
        clear h1143q a1142q
        refine WT.skip 13 (listed' := #[true, true, true, true, true, true, true, true, true, true, true, true, true, true, false, false, false, false, false, false, false, false, false, false, false, false]) h1145q rfl rfl (by kernel_rfl) rfl rfl ⟨(fun _ _ hk_ => (hS1056q.bring 1 rfl rfl).pool.kn hk_), trivial⟩ (fun _ _ _ h_ => h_) (fun a1146q h1147q => ?_)
        clear h1145q a1144q
        refine WT.skip 14 (listed' := #[true, true, true, true, true, true, true, true, true, true, true, true, true, true, true, false, false, false, false, false, false, false, false, false, false, false]) h1147q rfl rfl (by kernel_rfl) rfl rfl ⟨(fun _ _ hk_ => (hS1056q.bring 1 rfl rfl).pool.kn hk_), trivial⟩ (fun _ _ _ h_ => h_) (fun a1148q h1149q => ?_)
        clear h1147q a1146q
        refine WT.take 15 (listed' := #[true, true, true, true, true, true, true, true, true, true, true, true, true, true, true, true, false, false, false, false, false, false, false, false, false, false]) h1149q rfl rfl (by kernel_rfl) rfl rfl (.bool false) (fun _ _ => by kernel_rfl) ⟨(fun _ _ hk_ => (hS1056q.bring 1 rfl rfl).pool.kn hk_), trivial⟩ (fun _ _ _ h_ => h_) (fun a1150q h1151q => ?_)
        clear h1149q a1148q
        refine WT.take 16 (listed' := #[true, true, true, true, true, true, true, true, true, true, true, true, true, true, true, true, true, false, false, false, false, false, false, false, false, false]) h1151q rfl rfl (by kernel_rfl) rfl rfl (.bool false) (fun _ _ => by kernel_rfl) ⟨(fun _ _ hk_ => (hS1056q.bring 1 rfl rfl).pool.kn hk_), trivial⟩ (fun _ _ _ h_ => h_) (fun a1152q h1153q => ?_)
        clear h1151q a1150q
        refine WT.skip 17 (listed' := #[true, true, true, true, true, true, true, true, true, true, true, true, true, true, true, true, true, true, false, false, false, false, false, false, false, false]) h1153q rfl rfl (by kernel_rfl) rfl rfl ⟨(fun _ _ hk_ => (hS1056q.bring 1 rfl rfl).pool.kn hk_), trivial⟩ (fun _ _ _ h_ => h_) (fun a1154q h1155q => ?_)
        clear h1153q a1152q
        refine WT.skip 18 (listed' := #[true, true, true, true, true, true, true, true, true, true, true, true, true, true, true, true, true, true, true, false, false, false, false, false, false, false]) h1155q rfl rfl (by kernel_rfl) rfl rfl ⟨(fun _ _ hk_ => (hS1056q.bring 1 rfl rfl).pool.kn hk_), trivial⟩ (fun _ _ _ h_ => h_) (fun a1156q h1157q => ?_)
        clear h1155q a1154q
        refine WT.skip 19 (listed' := #[true, true, true, true, true, true, true, true, true, true, true, true, true, true, true, true, true, true, true, true, false, false, false, false, false, false]) h1157q rfl rfl (by kernel_rfl) rfl rfl ⟨(fun _ _ hk_ => (hS1056q.bring 1 rfl rfl).pool.kn hk_), trivial⟩ (fun _ _ _ h_ => h_) (fun a1158q h1159q => ?_)
        clear h1157q a1156q
        refine WT.take 20 (listed' := #[true, true, true, true, true, true, true, true, true, true, true, true, true, true, true, true, true, true, true, true, true, false, false, false, false, false]) h1159q rfl rfl (by kernel_rfl) rfl rfl (.bool false) (fun _ _ => by kernel_rfl) ⟨(fun _ _ hk_ => (hS1056q.bring 1 rfl rfl).pool.kn hk_), trivial⟩ (fun _ _ _ h_ => h_) (fun a1160q h1161q => ?_)
        clear h1159q a1158q
        refine WT.take 21 (listed' := #[true, true, true, true, true, true, true, true, true, true, true, true, true, true, true, true, true, true, true, true, true, true, false, false, false, false]) h1161q rfl rfl (by kernel_rfl) rfl rfl (.bool false) (fun _ _ => by kernel_rfl) ⟨(fun _ _ hk_ => (hS1056q.bring 1 rfl rfl).pool.kn hk_), trivial⟩ (fun _ _ _ h_ => h_) (fun a1162q h1163q => ?_)
        clear h1161q a1160q
        refine WT.skip 22 (listed' := #[true, true, true, true, true, true, true, true, true, true, true, true, true, true, true, true, true, true, true, true, true, true, true, false, false, false]) h1163q rfl rfl (by kernel_rfl) rfl rfl ⟨(fun _ _ hk_ => (hS1056q.bring 1 rfl rfl).pool.kn hk_), trivial⟩ (fun _ _ _ h_ => h_) (fun a1164q h1165q => ?_)
        clear h1163q a1162q
        refine WT.skip 23 (listed' := #[true, true, true, true, true, true, true, true, true, true, true, true, true, true, true, true, true, true, true, true, true, true, true, true, false, false]) h1165q rfl rfl (by kernel_rfl) rfl rfl ⟨(fun _ _ hk_ => (hS1056q.bring 1 rfl rfl).pool.kn hk_), trivial⟩ (fun _ _ _ h_ => h_) (fun a1166q h1167q => ?_)
        clear h1165q a1164q
        refine WT.take 24 (listed' := #[true, true, true, true, true, true, true, true, true, true, true, true, true, true, true, true, true, true, true, true, true, true, true, true, true, false]) h1167q rfl rfl (by kernel_rfl) rfl rfl (.bool false) (fun _ _ => by kernel_rfl) ⟨(fun _ _ hk_ => (hS1056q.bring 1 rfl rfl).pool.kn hk_), trivial⟩ (fun _ _ _ h_ => h_) (fun a1168q h1169q => ?_)
        clear h1167q a1166q
        refine WT.take 25 (listed' := #[true, true, true, true, true, true, true, true, true, true, true, true, true, true, true, true, true, true, true, true, true, true, true, true, true, true]) h1169q rfl rfl (by kernel_rfl) rfl rfl (.bool false) (fun _ _ => by kernel_rfl) ⟨(fun _ _ hk_ => (hS1056q.bring 1 rfl rfl).pool.kn hk_), trivial⟩ (fun _ _ _ h_ => h_) (fun a1170q h1171q => ?_)
        clear h1169q a1168q
        refine WT.done (by kernel_rfl) ?_
        refine wp_ret ?_
        have hS1172q : St b w0 W1048q R (M637q :: Fs) := hS1056q.drop_
        have hS1173q : St b w0 W1048q R (Fs) := hS1172q.drop_
        obtain rfl := Option.some.inj H
        repeat (first | refine then_ret ?_ | refine inBlock_ret ?_ | refine inBlock_go ?_)
        refine body_ret (v := .bool false) h1171q (by kernel_rfl) (by kernel_rfl) ?_
        exact ⟨rfl, hS1173q⟩
    · rw [if_neg c1039q] at H
      have hb_ : r1030q = false := (Bool.eq_false_iff.2 c1039q)
      try rw [hb_] at h1038q
      clear hb_
      refine WT.skip 2 (listed' := #[true, true, true, false, false, false, false, false, false, false, false, false, false, false, false, false, false, false, false, false, false, false, false, false, false, false]) h1038q rfl rfl (by kernel_rfl) rfl rfl ⟨(fun _ _ hk_ => (hS1036q).pool.kn hk_), trivial⟩ (fun _ _ _ h_ => h_) (fun a1174q h1175q => ?_)
      clear h1038q a1037q
      refine WT.skip 3 (listed' := #[true, true, true, true, false, false, false, false, false, false, false, false, false, false, false, false, false, false, false, false, false, false, false, false, false, false]) h1175q rfl rfl (by kernel_rfl) rfl rfl ⟨(fun _ _ hk_ => (hS1036q).pool.kn hk_), trivial⟩ (fun _ _ _ h_ => h_) (fun a1176q h1177q => ?_)
      clear h1175q a1174q
      refine WT.skip 4 (listed' := #[true, true, true, true, true, false, false, false, false, false, false, false, false, false, false, false, false, false, false, false, false, false, false, false, false, false]) h1177q rfl rfl (by kernel_rfl) rfl rfl ⟨(fun _ _ hk_ => (hS1036q).pool.kn hk_), trivial⟩ (fun _ _ _ h_ => h_) (fun a1178q h1179q => ?_)
      clear h1177q a1176q
      refine WT.skip 5 (listed' := #[true, true, true, true, true, true, false, false, false, false, false, false, false, false, false, false, false, false, false, false, false, false, false, false, false, false]) h1179q rfl rfl (by kernel_rfl) rfl rfl ⟨(fun _ _ hk_ => (hS1036q).pool.kn hk_), trivial⟩ (fun _ _ _ h_ => h_) (fun a1180q h1181q => ?_)
      clear h1179q a1178q
      refine WT.skip 6 (listed' := #[true, true, true, true, true, true, true, false, false, false, false, false, false, false, false, false, false, false, false, false, false, false, false, false, false, false]) h1181q rfl rfl (by kernel_rfl) rfl rfl ⟨(fun _ _ hk_ => (hS1036q).pool.kn hk_), trivial⟩ (fun _ _ _ h_ => h_) (fun a1182q h1183q => ?_)
      clear h1181q a1180q
      refine WT.skip 7 (listed' := #[true, true, true, true, true, true, true, true, false, false, false, false, false, false, false, false, false, false, false, false, false, false, false, false, false, false]) h1183q rfl rfl (by kernel_rfl) rfl rfl ⟨(fun _ _ hk_ => (hS1036q).pool.kn hk_), trivial⟩ (fun _ _ _ h_ => h_) (fun a1184q h1185q => ?_)
      clear h1183q a1182q
      refine WT.take 8 (listed' := #[true, true, true, true, true, true, true, true, true, false, false, false, false, false, false, false, false, false, false, false, false, false, false, false, false, false]) h1185q rfl rfl (by kernel_rfl) rfl rfl (.bool false) (fun _ _ => by kernel_rfl) ⟨(fun _ _ hk_ => (hS1036q).pool.kn hk_), trivial⟩ (fun _ _ _ h_ => h_) (fun a1186q h1187q => ?_)
      clear h1185q a1184q
      refine WT.take 9 (listed' := #[true, true, true, true, true, true, true, true, true, true, false, false, false, false, false, false, false, false, false, false, false, false, false, false, false, false]) h1187q rfl rfl (by kernel_rfl) rfl rfl (.bool false) (fun _ _ => by kernel_rfl) ⟨(fun _ _ hk_ => (hS1036q).pool.kn hk_), trivial⟩ (fun _ _ _ h_ => h_) (fun a1188q h1189q => ?_)
      clear h1187q a1186q
      refine WT.skip 10 (listed' := #[true, true, true, true, true, true, true, true, true, true, true, false, false, false, false, false, false, false, false, false, false, false, false, false, false, false]) h1189q rfl rfl (by kernel_rfl) rfl rfl ⟨(fun _ _ hk_ => (hS1036q).pool.kn hk_), trivial⟩ (fun _ _ _ h_ => h_) (fun a1190q h1191q => ?_)
      clear h1189q a1188q
      refine WT.skip 11 (listed' := #[true, true, true, true, true, true, true, true, true, true, true, true, false, false, false, false, false, false, false, false, false, false, false, false, false, false]) h1191q rfl rfl (by kernel_rfl) rfl rfl ⟨(fun _ _ hk_ => (hS1036q).pool.kn hk_), trivial⟩ (fun _ _ _ h_ => h_) (fun a1192q h1193q => ?_)
      clear h1191q a1190q
      refine WT.skip 12 (listed' := #[true, true, true, true, true, true, true, true, true, true, true, true, true, false, false, false, false, false, false, false, false, false, false, false, false, false]) h1193q rfl rfl (by kernel_rfl) rfl rfl ⟨(fun _ _ hk_ => (hS1036q).pool.kn hk_), trivial⟩ (fun _ _ _ h_ => h_) (fun a1194q h1195q => ?_)
      clear h1193q a1192q
      refine WT.skip 13 (listed' := #[true, true, true, true, true, true, true, true, true, true, true, true, true, true, false, false, false, false, false, false, false, false, false, false, false, false]) h1195q rfl rfl (by kernel_rfl) rfl rfl ⟨(fun _ _ hk_ => (hS1036q).pool.kn hk_), trivial⟩ (fun _ _ _ h_ => h_) (fun a1196q h1197q => ?_)
      clear h1195q a1194q
      refine WT.skip 14 (listed' := #[true, true, true, true, true, true, true, true, true, true, true, true, true, true, true, false, false, false, false, false, false, false, false, false, false, false]) h1197q rfl rfl (by kernel_rfl) rfl rfl ⟨(fun _ _ hk_ => (hS1036q).pool.kn hk_), trivial⟩ (fun _ _ _ h_ => h_) (fun a1198q h1199q => ?_)
      clear h1197q a1196q
      refine WT.take 15 (listed' := #[true, true, true, true, true, true, true, true, true, true, true, true, true, true, true, true, false, false, false, false, false, false, false, false, false, false]) h1199q rfl rfl (by kernel_rfl) rfl rfl (.bool false) (fun _ _ => by kernel_rfl) ⟨(fun _ _ hk_ => (hS1036q).pool.kn hk_), trivial⟩ (fun _ _ _ h_ => h_) (fun a1200q h1201q => ?_)
      clear h1199q a1198q
      refine WT.take 16 (listed' := #[true, true, true, true, true, true, true, true, true, true, true, true, true, true, true, true, true, false, false, false, false, false, false, false, false, false]) h1201q rfl rfl (by kernel_rfl) rfl rfl (.bool false) (fun _ _ => by kernel_rfl) ⟨(fun _ _ hk_ => (hS1036q).pool.kn hk_), trivial⟩ (fun _ _ _ h_ => h_) (fun a1202q h1203q => ?_)
      clear h1201q a1200q
      refine WT.skip 17 (listed' := #[true, true, true, true, true, true, true, true, true, true, true, true, true, true, true, true, true, true, false, false, false, false, false, false, false, false]) h1203q rfl rfl (by kernel_rfl) rfl rfl ⟨(fun _ _ hk_ => (hS1036q).pool.kn hk_), trivial⟩ (fun _ _ _ h_ => h_) (fun a1204q h1205q => ?_)
      clear h1203q a1202q
      refine WT.skip 18 (listed' := #[true, true, true, true, true, true, true, true, true, true, true, true, true, true, true, true, true, true, true, false, false, false, false, false, false, false]) h1205q rfl rfl (by kernel_rfl) rfl rfl ⟨(fun _ _ hk_ => (hS1036q).pool.kn hk_), trivial⟩ (fun _ _ _ h_ => h_) (fun a1206q h1207q => ?_)
      clear h1205q a1204q
      refine WT.skip 19 (listed' := #[true, true, true, true, true, true, true, true, true, true, true, true, true, true, true, true, true, true, true, true, false, false, false, false, false, false]) h1207q rfl rfl (by kernel_rfl) rfl rfl ⟨(fun _ _ hk_ => (hS1036q).pool.kn hk_), trivial⟩ (fun _ _ _ h_ => h_) (fun a1208q h1209q => ?_)
      clear h1207q a1206q
      refine WT.take 20 (listed' := #[true, true, true, true, true, true, true, true, true, true, true, true, true, true, true, true, true, true, true, true, true, false, false, false, false, false]) h1209q rfl rfl (by kernel_rfl) rfl rfl (.bool false) (fun _ _ => by kernel_rfl) ⟨(fun _ _ hk_ => (hS1036q).pool.kn hk_), trivial⟩ (fun _ _ _ h_ => h_) (fun a1210q h1211q => ?_)
      clear h1209q a1208q
      refine WT.take 21 (listed' := #[true, true, true, true, true, true, true, true, true, true, true, true, true, true, true, true, true, true, true, true, true, true, false, false, false, false]) h1211q rfl rfl (by kernel_rfl) rfl rfl (.bool false) (fun _ _ => by kernel_rfl) ⟨(fun _ _ hk_ => (hS1036q).pool.kn hk_), trivial⟩ (fun _ _ _ h_ => h_) (fun a1212q h1213q => ?_)
      clear h1211q a1210q
      refine WT.skip 22 (listed' := #[true, true, true, true, true, true, true, true, true, true, true, true, true, true, true, true, true, true, true, true, true, true, true, false, false, false]) h1213q rfl rfl (by kernel_rfl) rfl rfl ⟨(fun _ _ hk_ => (hS1036q).pool.kn hk_), trivial⟩ (fun _ _ _ h_ => h_) (fun a1214q h1215q => ?_)
      clear h1213q a1212q
      refine WT.skip 23 (listed' := #[true, true, true, true, true, true, true, true, true, true, true, true, true, true, true, true, true, true, true, true, true, true, true, true, false, false]) h1215q rfl rfl (by kernel_rfl) rfl rfl ⟨(fun _ _ hk_ => (hS1036q).pool.kn hk_), trivial⟩ (fun _ _ _ h_ => h_) (fun a1216q h1217q => ?_)
      clear h1215q a1214q
      refine WT.take 24 (listed' := #[true, true, true, true, true, true, true, true, true, true, true, true, true, true, true, true, true, true, true, true, true, true, true, true, true, false]) h1217q rfl rfl (by kernel_rfl) rfl rfl (.bool false) (fun _ _ => by kernel_rfl) ⟨(fun _ _ hk_ => (hS1036q).pool.kn hk_), trivial⟩ (fun _ _ _ h_ => h_) (fun a1218q h1219q => ?_)
      clear h1217q a1216q
      refine WT.take 25 (listed' := #[true, true, true, true, true, true, true, true, true, true, true, true, true, true, true, true, true, true, true, true, true, true, true, true, true, true]) h1219q rfl rfl (by kernel_rfl) rfl rfl (.bool false) (fun _ _ => by kernel_rfl) ⟨(fun _ _ hk_ => (hS1036q).pool.kn hk_), trivial⟩ (fun _ _ _ h_ => h_) (fun a1220q h1221q => ?_)
      clear h1219q a1218q
      refine WT.done (by kernel_rfl) ?_
      refine wp_ret ?_
      have hS1222q : St b w0 W1031q R (Fs) := hS1036q.drop_
      obtain rfl := Option.some.inj H
      repeat (first | refine then_ret ?_ | refine inBlock_ret ?_ | refine inBlock_go ?_)
      refine body_ret (v := .bool false) h1221q (by kernel_rfl) (by kernel_rfl) ?_
      exact ⟨rfl, hS1222q⟩

/-! ### louver/louverref03.bits -/
mutual
def louverref03qbits.l0 : Nat → (List UInt8) → Int → (List Int) → Option ((List UInt8))
  | 0, _, _, _ => none
  | k + 1, x176q, x177q, p0 => if x177q < (p0.length : Int) then (if 0 ≤ x177q then (louverref03qbits.l1 k (gt (0 : Int) p0 x177q) ([] : List UInt8) 0 p0 x176q x177q) else (none)) else (some x176q)
def louverref03qbits.l1 : Nat → Int → (List UInt8) → Int → (List Int) → (List UInt8) → Int → Option ((List UInt8))
  | 0, _, _, _, _, _, _ => none
  | k + 1, x211q, x212q, x213q, p0, x176q, x177q => if x213q < 8 then (if 0 ≤ (Int.tmod x211q 2) then (if (Int.tmod x211q 2) ≤ (IntKind.u8.wrap ((Int.tmod x211q 2) + 1)) then (if (IntKind.u8.wrap ((Int.tmod x211q 2) + 1)) ≤ (([48, 49] : List UInt8).length : Int) then (if ((([48, 49] : List UInt8).take (IntKind.u8.wrap ((Int.tmod x211q 2) + 1)).toNat).drop (Int.tmod x211q 2).toNat).length + x212q.length ≤ 9223372036854775807 then (louverref03qbits.l1 k (IntKind.u8.wrap (Int.tdiv x211q 2)) (((([48, 49] : List UInt8).take (IntKind.u8.wrap ((Int.tmod x211q 2) + 1)).toNat).drop (Int.tmod x211q 2).toNat) ++ x212q) (IntKind.i64.wrap (x213q + 1)) p0 x176q x177q) else (none)) else (none)) else (none)) else (none)) else (if x176q.length + x212q.length ≤ 9223372036854775807 then (louverref03qbits.l0 k (x176q ++ x212q) (IntKind.i64.wrap (x177q + 1)) p0) else (none))
end
def louverref03qbits.f (k : Nat) (p0 : (List Int)) : Option ((List UInt8)) := louverref03qbits.l0 k ([] : List UInt8) 0 p0
set_option maxHeartbeats 2000000 in
set_option maxRecDepth 100000 in
theorem louverref03qbits.calls (k : Nat) {b : Nat} {w0 W : World} {R : Frag} {Fs : List Frag} {p0 : (List Int)} {v0 : Value} {r0q : (List UInt8)} (hp0 : Rds (kInt .u8) b w0 R v0 p0) (H : louverref03qbits.f k p0 = some r0q) (hS : St b w0 W R (Fs)) :
    Calls Tryd.prog 21 ([v0] : List Value).toArray W (fun e W' => e = .returned (.string (mkS r0q)) ∧ St b w0 W' R (Fs)) := by
  obtain ⟨A0, c0, rfl⟩ := hp0.form
  unfold louverref03qbits.f at H
  refine calls_enter Tryd.func21 rfl 36 rfl (by kernel_rfl) (fun a h => ?_)
  refine wp_seq ?_
  refine WL.start ?_
  refine WL.block (c := 1) (m' := 1) h rfl [(2, .string (mkS ([] : List UInt8)))] (by kernel_rfl) (fun a165q h166q => ?_)
  refine WL.done (by kernel_rfl) ?_
  refine wp_seq ?_
  refine WL.start ?_
  refine WL.block (c := 1) (m' := 1) h166q rfl [(3, .string (mkS ([] : List UInt8)))] (by kernel_rfl) (fun a167q h168q => ?_)
  clear h166q a165q
  refine WL.done (by kernel_rfl) ?_
  refine wp_seq ?_
  refine wp_seq ?_
  refine WL.start ?_
  refine WL.block (c := 3) (m' := 3) h168q rfl [(10, .int .i64 0), (9, .int .i64 (p0.length : Int)), (8, .slice A0 p0.length c0)] (by kernel_rfl) (fun a169q h170q => ?_)
  clear h168q a167q
  refine WL.done (by kernel_rfl) ?_
  refine wp_block ?_
  refine wp_loop_ghost (fun kq_ a_ W_ => ∃ (x176q : (List UInt8)), ∃ (x177q : Int), Hd a_ 36 [(0, .slice A0 p0.length c0), (3, .string (mkS x176q)), (9, .int .i64 (p0.length : Int)), (10, .int .i64 x177q)] ∧ Asd (louverref03qbits.l0 kq_ x176q x177q p0 = some r0q) ∧ Asd (kq_ ≤ k) ∧ Asd (St b w0 W_ R (Fs))) k ⟨([] : List UInt8), 0, h170q.keep ⟨rfl, rfl, rfl, rfl, trivial⟩, ⟨H⟩, ⟨Nat.le_refl _⟩, ⟨hS⟩⟩ ?_
  clear H hS
  rintro k175q a172q W173q ⟨x176q, x177q, h171q, ⟨H⟩, ⟨hkk175q⟩, ⟨hS174q⟩⟩
  obtain _ | k178q := k175q
  · exact absurd H (by simp [louverref03qbits.l0])
  simp only [louverref03qbits.l0] at H
  refine wp_seq ?_
  refine WL.start ?_
  refine WL.block (c := 1) (m' := 1) h171q rfl [(11, .bool (decide (x177q < (p0.length : Int))))] (by kernel_rfl) (fun a179q h180q => ?_)
  clear h171q a172q
  refine WL.done (by kernel_rfl) ?_
  refine wp_seq ?_
  by_cases c181q : x177q < (p0.length : Int)
  · rw [if_pos c181q] at H
    have hb_ : (decide (x177q < (p0.length : Int))) = true := decide_eq_true c181q
    try rw [hb_] at h180q
    clear hb_
    refine wp_then h180q rfl ?_
    refine wp_skip ?_
    refine wp_seq ?_
    refine wp_block ?_
    refine wp_seq ?_
    refine WL.start ?_
    refine WL.block (c := 2) (m' := 2) h180q rfl [(4, .int .i64 x177q), (12, .int .i64 x177q)] (by kernel_rfl) (fun a182q h183q => ?_)
    clear h180q a179q
    refine WL.done (by kernel_rfl) ?_
    refine wp_seq ?_
    refine WL.start ?_
    refine WL.block (c := 2) (m' := 2) h183q rfl [(14, .int .i64 x177q), (13, .slice A0 p0.length c0)] (by kernel_rfl) (fun a184q h185q => ?_)
    clear h183q a182q
    by_cases c186q : 0 ≤ x177q
    · rw [if_pos c186q] at H
      have hi189q : 0 ≤ x177q := by first | assumption | omega
      have hi190q : x177q < (p0.length : Int) := by first | assumption | omega
      obtain ⟨ad187q, _, ha188q, -, -⟩ := Rds.elemAny hp0 hi189q (gt_get (z := (0 : Int)) hi189q hi190q)
      refine WL.op' (m := 2) h185q rfl rfl ?_
      refine owp_run (v := .pointer (some (ad187q.add (x177q.toNat * 1)))) h185q rfl (by kernel_rfl) (run_idx (ad := ad187q) (sz := 1) rfl (by rw [← ha188q]; rfl) rfl Tryd.underlying33 (by kernel_rfl) hi189q hi190q) (fun a191q h192q => ?_)
      clear h185q a184q
      obtain ⟨ad193q, cs194q, ha195q, hr197q, hc196q⟩ := Rds.elemAny hp0 hi189q (gt_get (z := (0 : Int)) hi189q hi190q)
      rw [ha188q] at ha195q; obtain rfl := Option.some.inj ha195q
      obtain rfl : cs194q = [.int .u8 (gt (0 : Int) p0 x177q)] := hr197q
      refine WL.op' (m := 3) h192q rfl rfl ?_
      refine owp_run (v := .int .u8 (gt (0 : Int) p0 x177q)) h192q rfl (by kernel_rfl) (run_load1 rfl rfl Tryd.underlying5 rfl (cell0 (hc196q _ (fun _ _ hk_ => hS174q.kn hk_)))) (fun a198q h199q => ?_)
      clear h192q a191q
      refine WL.block (c := 1) (m' := 5) h199q rfl [(5, .int .u8 (gt (0 : Int) p0 x177q))] (by kernel_rfl) (fun a200q h201q => ?_)
      clear h199q a198q
      refine WL.done (by kernel_rfl) ?_
      refine wp_seq ?_
      refine WL.start ?_
      refine WL.block (c := 1) (m' := 1) h201q rfl [(6, .string (mkS ([] : List UInt8)))] (by kernel_rfl) (fun a202q h203q => ?_)
      clear h201q a200q
      refine WL.done (by kernel_rfl) ?_
      refine wp_seq ?_
      refine wp_seq ?_
      refine WL.start ?_
      refine WL.block (c := 1) (m' := 1) h203q rfl [(7, .int .i64 0)] (by kernel_rfl) (fun a204q h205q => ?_)
      clear h203q a202q
      refine WL.done (by kernel_rfl) ?_
      refine wp_block ?_
      refine wp_loop_ghost (fun kq_ a_ W_ => ∃ (x211q : Int), ∃ (x212q : (List UInt8)), ∃ (x213q : Int), Hd a_ 36 [(0, .slice A0 p0.length c0), (3, .string (mkS x176q)), (5, .int .u8 x211q), (6, .string (mkS x212q)), (7, .int .i64 x213q), (9, .int .i64 (p0.length : Int)), (10, .int .i64 x177q)] ∧ Asd (louverref03qbits.l1 kq_ x211q x212q x213q p0 x176q x177q = some r0q) ∧ Asd (kq_ ≤ k178q) ∧ Asd (St b w0 W_ R (Fs))) k178q ⟨(gt (0 : Int) p0 x177q), ([] : List UInt8), 0, h205q.keep ⟨rfl, rfl, rfl, rfl, rfl, rfl, rfl, trivial⟩, ⟨H⟩, ⟨Nat.le_refl _⟩, ⟨hS174q⟩⟩ ?_
      clear H hS174q
      rintro k210q a207q W208q ⟨x211q, x212q, x213q, h206q, ⟨H⟩, ⟨hkk210q⟩, ⟨hS209q⟩⟩
      obtain _ | k214q := k210q
      · exact absurd H (by simp [louverref03qbits.l1])
      simp only [louverref03qbits.l1] at H
      refine wp_seq ?_
      refine wp_seq ?_
      refine WL.start ?_
      refine WL.block (c := 2) (m' := 2) h206q rfl [(18, .bool (decide (x213q < 8))), (17, .int .i64 x213q)] (by kernel_rfl) (fun a215q h216q => ?_)
      clear h206q a207q
      refine WL.done (by kernel_rfl) ?_
      by_cases c217q : x213q < 8
      · rw [if_pos c217q] at H
        have hb_ : (decide (x213q < 8)) = true := decide_eq_true c217q
        try rw [hb_] at h216q
        clear hb_
        refine wp_then h216q rfl ?_
        refine wp_skip ?_
        refine wp_seq ?_
        refine wp_block ?_
        refine wp_seq ?_
        refine WL.start ?_
        refine WL.block (c := 5) (m' := 5) h216q rfl [(25, .int .u8 (IntKind.u8.wrap ((Int.tmod x211q 2) + 1))), (24, .int .u8 (Int.tmod x211q 2)), (23, .int .u8 x211q), (22, .int .u8 (Int.tmod x211q 2)), (21, .int .u8 x211q)] (by kernel_rfl) (fun a218q h219q => ?_)
        clear h216q a215q
        by_cases c220q : 0 ≤ (Int.tmod x211q 2)
        · rw [if_pos c220q] at H
          by_cases c221q : (Int.tmod x211q 2) ≤ (IntKind.u8.wrap ((Int.tmod x211q 2) + 1))
          · rw [if_pos c221q] at H
            by_cases c222q : (IntKind.u8.wrap ((Int.tmod x211q 2) + 1)) ≤ (([48, 49] : List UInt8).length : Int)
            · rw [if_pos c222q] at H
              refine WL.op' (m := 5) h219q rfl rfl ?_
              refine owp_run (v := .string (mkS ((([48, 49] : List UInt8).take (IntKind.u8.wrap ((Int.tmod x211q 2) + 1)).toNat).drop (Int.tmod x211q 2).toNat))) h219q rfl (by kernel_rfl) (run_strcut' (l := Int.tmod x211q 2) (h := IntKind.u8.wrap ((Int.tmod x211q 2) + 1)) rfl rfl Tryd.underlying9 ⟨_, rfl⟩ ⟨_, rfl⟩ (by first | assumption | omega) (by first | assumption | omega) (by first | assumption | omega) rfl) (fun a223q h224q => ?_)
              clear h219q a218q
              refine WL.block (c := 1) (m' := 7) h224q rfl [(27, .string (mkS x212q))] (by kernel_rfl) (fun a225q h226q => ?_)
              clear h224q a223q
              by_cases c227q : ((([48, 49] : List UInt8).take (IntKind.u8.wrap ((Int.tmod x211q 2) + 1)).toNat).drop (Int.tmod x211q 2).toNat).length + x212q.length ≤ 9223372036854775807
              · rw [if_pos c227q] at H
                refine WL.op' (m := 7) h226q rfl rfl ?_
                refine owp_run (v := .string (mkS (((([48, 49] : List UInt8).take (IntKind.u8.wrap ((Int.tmod x211q 2) + 1)).toNat).drop (Int.tmod x211q 2).toNat) ++ x212q))) h226q rfl (by kernel_rfl) (run_concat rfl rfl rfl (by assumption)) (fun a228q h229q => ?_)
                clear h226q a225q
                refine WL.block (c := 1) (m' := 9) h229q rfl [(6, .string (mkS (((([48, 49] : List UInt8).take (IntKind.u8.wrap ((Int.tmod x211q 2) + 1)).toNat).drop (Int.tmod x211q 2).toNat) ++ x212q)))] (by kernel_rfl) (fun a230q h231q => ?_)
                clear h229q a228q
                refine WL.done (by kernel_rfl) ?_
                refine WL.start ?_
                refine WL.block (c := 3) (m' := 3) h231q rfl [(5, .int .u8 (IntKind.u8.wrap (Int.tdiv x211q 2))), (30, .int .u8 (IntKind.u8.wrap (Int.tdiv x211q 2))), (29, .int .u8 x211q)] (by kernel_rfl) (fun a232q h233q => ?_)
                clear h231q a230q
                refine WL.done (by kernel_rfl) ?_
                refine WL.start ?_
                refine WL.block (c := 3) (m' := 3) h233q rfl [(7, .int .i64 (IntKind.i64.wrap (x213q + 1))), (20, .int .i64 (IntKind.i64.wrap (x213q + 1))), (19, .int .i64 x213q)] (by kernel_rfl) (fun a234q h235q => ?_)
                clear h233q a232q
                refine WL.done (by kernel_rfl) ?_
                exact ⟨k214q, by omega, IntKind.u8.wrap (Int.tdiv x211q 2), ((([48, 49] : List UInt8).take (IntKind.u8.wrap ((Int.tmod x211q 2) + 1)).toNat).drop (Int.tmod x211q 2).toNat) ++ x212q, IntKind.i64.wrap (x213q + 1), h235q.keep ⟨rfl, rfl, rfl, rfl, rfl, rfl, rfl, trivial⟩, ⟨H⟩, ⟨by omega⟩, ⟨hS209q⟩⟩
              · rw [if_neg c227q] at H
                cases H
            · rw [if_neg c222q] at H
              cases H
          · rw [if_neg c221q] at H
            cases H
        · rw [if_neg c220q] at H
          cases H
      · rw [if_neg c217q] at H
        have hb_ : (decide (x213q < 8)) = false := decide_eq_false c217q
        try rw [hb_] at h216q
        clear hb_
        refine wp_else h216q rfl ?_
        refine wp_exit ?_
        refine WL.start ?_
        refine WL.block (c := 2) (m' := 2) h216q rfl [(32, .string (mkS x212q)), (31, .string (mkS x176q))] (by kernel_rfl) (fun a236q h237q => ?_)
        clear h216q a215q
        by_cases c238q : x176q.length + x212q.length ≤ 9223372036854775807
        · rw [if_pos c238q] at H
          refine WL.op' (m := 2) h237q rfl rfl ?_
          refine owp_run (v := .string (mkS (x176q ++ x212q))) h237q rfl (by kernel_rfl) (run_concat rfl rfl rfl (by assumption)) (fun a239q h240q => ?_)
          clear h237q a236q
          refine WL.block (c := 1) (m' := 4) h240q rfl [(3, .string (mkS (x176q ++ x212q)))] (by kernel_rfl) (fun a241q h242q => ?_)
          clear h240q a239q
          refine WL.done (by kernel_rfl) ?_
          refine WL.start ?_
          refine WL.block (c := 2) (m' := 2) h242q rfl [(10, .int .i64 (IntKind.i64.wrap (x177q + 1))), (34, .int .i64 (IntKind.i64.wrap (x177q + 1)))] (by kernel_rfl) (fun a243q h244q => ?_)
          clear h242q a241q
          refine WL.done (by kernel_rfl) ?_
          exact ⟨k214q, by omega, x176q ++ x212q, IntKind.i64.wrap (x177q + 1), h244q.keep ⟨rfl, rfl, rfl, rfl, trivial⟩, ⟨H⟩, ⟨by omega⟩, ⟨hS209q⟩⟩
        · rw [if_neg c238q] at H
          cases H
    · rw [if_neg c186q] at H
      cases H
  · rw [if_neg c181q] at H
    have hb_ : (decide (x177q < (p0.length : Int))) = false := decide_eq_false c181q
    try rw [hb_] at h180q
    clear hb_
    refine wp_else h180q rfl ?_
    refine wp_exit ?_
    refine wp_seq ?_
    refine WL.start ?_
    refine WL.block (c := 2) (m' := 2) h180q rfl [(2, .string (mkS x176q)), (35, .string (mkS x176q))] (by kernel_rfl) (fun a245q h246q => ?_)
    clear h180q a179q
    refine WL.done (by kernel_rfl) ?_
    refine wp_ret ?_
    obtain rfl := Option.some.inj H
    repeat (first | refine then_ret ?_ | refine inBlock_ret ?_ | refine inBlock_go ?_)
    refine body_ret (v := .string (mkS x176q)) h246q (by kernel_rfl) (by kernel_rfl) ?_
    exact ⟨rfl, hS174q⟩

/-! ### louver/louverref03.begins -/
def louverref03qbegins.f (p0 : (List UInt8)) (p1 : (List UInt8)) (p2 : Int) : Option (Bool) := if (IntKind.i64.wrap (p2 + (p0.length : Int))) ≤ (p1.length : Int) then (if 0 ≤ p2 then (if p2 ≤ (IntKind.i64.wrap (p2 + (p0.length : Int))) then (some (decide (((p1.take (IntKind.i64.wrap (p2 + (p0.length : Int))).toNat).drop p2.toNat) = p0))) else (none)) else (none)) else (some false)
set_option maxHeartbeats 2000000 in
set_option maxRecDepth 100000 in
theorem louverref03qbegins.calls {b : Nat} {w0 W : World} {R : Frag} {Fs : List Frag} {p0 : (List UInt8)} {p1 : (List UInt8)} {p2 : Int}  {r0q : Bool}  (H : louverref03qbegins.f p0 p1 p2 = some r0q) (hS : St b w0 W R (Fs)) :
    Calls Tryd.prog 22 ([.string (mkS p0), .string (mkS p1), .int .i64 p2] : List Value).toArray W (fun e W' => e = .returned (.bool r0q) ∧ St b w0 W' R (Fs)) := by
  unfold louverref03qbegins.f at H
  refine calls_enter Tryd.func22 rfl 25 rfl (by kernel_rfl) (fun a h => ?_)
  refine wp_seq ?_
  refine WL.start ?_
  refine WL.block (c := 1) (m' := 1) h rfl [(6, .bool false)] (by kernel_rfl) (fun a48q h49q => ?_)
  refine WL.done (by kernel_rfl) ?_
  refine wp_seq ?_
  refine WL.start ?_
  refine WL.block (c := 8) (m' := 8) h49q rfl [(14, .bool (decide ((IntKind.i64.wrap (p2 + (p0.length : Int))) ≤ (p1.length : Int)))), (13, .bool (decide ((IntKind.i64.wrap (p2 + (p0.length : Int))) ≤ (p1.length : Int)))), (12, .int .i64 (p1.length : Int)), (11, .string (mkS p1)), (10, .int .i64 (IntKind.i64.wrap (p2 + (p0.length : Int)))), (9, .int .i64 (p0.length : Int)), (8, .string (mkS p0)), (7, .int .i64 p2)] (by kernel_rfl) (fun a50q h51q => ?_)
  clear h49q a48q
  by_cases c52q : (IntKind.i64.wrap (p2 + (p0.length : Int))) ≤ (p1.length : Int)
  · rw [if_pos c52q] at H
    have hb_ : (decide ((IntKind.i64.wrap (p2 + (p0.length : Int))) ≤ (p1.length : Int))) = true := decide_eq_true c52q
    try rw [hb_] at h51q
    clear hb_
    refine WL.op' (m := 8) h51q rfl rfl (owp_run h51q rfl (by kernel_rfl) (v := .string (mkS p1)) (by kernel_rfl) (fun a53q h54q => ?_))
    clear h51q a50q
    refine WL.op' (m := 9) h54q rfl rfl (owp_run h54q rfl (by kernel_rfl) (v := .int .i64 p2) (by kernel_rfl) (fun a55q h56q => ?_))
    clear h54q a53q
    refine WL.op' (m := 10) h56q rfl rfl (owp_run h56q rfl (by kernel_rfl) (v := .int .i64 p2) (by kernel_rfl) (fun a57q h58q => ?_))
    clear h56q a55q
    refine WL.op' (m := 11) h58q rfl rfl (owp_run h58q rfl (by kernel_rfl) (v := .string (mkS p0)) (by kernel_rfl) (fun a59q h60q => ?_))
    clear h58q a57q
    refine WL.op' (m := 12) h60q rfl rfl (owp_run h60q rfl (by kernel_rfl) (v := .int .i64 (p0.length : Int)) (by kernel_rfl) (fun a61q h62q => ?_))
    clear h60q a59q
    refine WL.op' (m := 13) h62q rfl rfl (owp_run h62q rfl (by kernel_rfl) (v := .int .i64 (IntKind.i64.wrap (p2 + (p0.length : Int)))) (by kernel_rfl) (fun a63q h64q => ?_))
    clear h62q a61q
    by_cases c65q : 0 ≤ p2
    · rw [if_pos c65q] at H
      by_cases c66q : p2 ≤ (IntKind.i64.wrap (p2 + (p0.length : Int)))
      · rw [if_pos c66q] at H
        refine WL.op' (m := 14) h64q rfl rfl ?_
        refine owp_run (v := .string (mkS ((p1.take (IntKind.i64.wrap (p2 + (p0.length : Int))).toNat).drop p2.toNat))) h64q rfl (by kernel_rfl) (run_strcut' (l := p2) (h := IntKind.i64.wrap (p2 + (p0.length : Int))) rfl rfl Tryd.underlying9 ⟨_, rfl⟩ ⟨_, rfl⟩ (by first | assumption | omega) (by first | assumption | omega) (by first | assumption | omega) rfl) (fun a67q h68q => ?_)
        clear h64q a63q
        refine WL.op' (m := 15) h68q rfl rfl (owp_run h68q rfl (by kernel_rfl) (v := .string (mkS p0)) (by kernel_rfl) (fun a69q h70q => ?_))
        clear h68q a67q
        refine WL.op' (m := 16) h70q rfl rfl ?_
        refine owp_run (v := .bool (decide (((p1.take (IntKind.i64.wrap (p2 + (p0.length : Int))).toNat).drop p2.toNat) = p0))) h70q rfl (by kernel_rfl) (run_streq rfl rfl rfl) (fun a71q h72q => ?_)
        clear h70q a69q
        refine WL.block (c := 2) (m' := 19) h72q rfl [(6, .bool (decide (((p1.take (IntKind.i64.wrap (p2 + (p0.length : Int))).toNat).drop p2.toNat) = p0))), (24, .bool (decide (((p1.take (IntKind.i64.wrap (p2 + (p0.length : Int))).toNat).drop p2.toNat) = p0)))] (by kernel_rfl) (fun a73q h74q => ?_)
        clear h72q a71q
        refine WL.done (by kernel_rfl) ?_
        refine wp_ret ?_
        obtain rfl := Option.some.inj H
        repeat (first | refine then_ret ?_ | refine inBlock_ret ?_ | refine inBlock_go ?_)
        refine body_ret (v := .bool (decide (((p1.take (IntKind.i64.wrap (p2 + (p0.length : Int))).toNat).drop p2.toNat) = p0))) h74q (by kernel_rfl) (by kernel_rfl) ?_
        exact ⟨rfl, hS⟩
      · rw [if_neg c66q] at H
        cases H
    · rw [if_neg c65q] at H
      cases H
  · rw [if_neg c52q] at H
    have hb_ : (decide ((IntKind.i64.wrap (p2 + (p0.length : Int))) ≤ (p1.length : Int))) = false := decide_eq_false c52q
    try rw [hb_] at h51q
    clear hb_
    refine WL.skipped (m := 8) h51q rfl rfl (by kernel_rfl) rfl (fun a75q h76q => ?_)
    clear h51q a50q
    refine WL.skipped (m := 9) h76q rfl rfl (by kernel_rfl) rfl (fun a77q h78q => ?_)
    clear h76q a75q
    refine WL.skipped (m := 10) h78q rfl rfl (by kernel_rfl) rfl (fun a79q h80q => ?_)
    clear h78q a77q
    refine WL.skipped (m := 11) h80q rfl rfl (by kernel_rfl) rfl (fun a81q h82q => ?_)
    clear h80q a79q
    refine WL.skipped (m := 12) h82q rfl rfl (by kernel_rfl) rfl (fun a83q h84q => ?_)
    clear h82q a81q
    refine WL.skipped (m := 13) h84q rfl rfl (by kernel_rfl) rfl (fun a85q h86q => ?_)
    clear h84q a83q
    refine WL.skipped (m := 14) h86q rfl rfl (by kernel_rfl) rfl (fun a87q h88q => ?_)
    clear h86q a85q
    refine WL.skipped (m := 15) h88q rfl rfl (by kernel_rfl) rfl (fun a89q h90q => ?_)
    clear h88q a87q
    refine WL.skipped (m := 16) h90q rfl rfl (by kernel_rfl) rfl (fun a91q h92q => ?_)
    clear h90q a89q
    refine WL.block (c := 2) (m' := 19) h92q rfl [(6, .bool false), (24, .bool false)] (by kernel_rfl) (fun a93q h94q => ?_)
    clear h92q a91q
    refine WL.done (by kernel_rfl) ?_
    refine wp_ret ?_
    obtain rfl := Option.some.inj H
    repeat (first | refine then_ret ?_ | refine inBlock_ret ?_ | refine inBlock_go ?_)
    refine body_ret (v := .bool false) h94q (by kernel_rfl) (by kernel_rfl) ?_
    exact ⟨rfl, hS⟩

/-! ### louver/louverref03.Decode -/
mutual
def louverref03qDecode.j0 : Nat → (List Int) → Int → (List UInt8) → Option ((List UInt8) × Int)
  | 0, _, _, _ => none
  | k + 1, x1511q, x1516q, r1367q => if (IntKind.i64.wrap ((r1367q.length : Int) - x1516q)) > 7 then (some (([] : List UInt8), 3)) else (louverref03qDecode.l3 k x1516q r1367q x1511q)
def louverref03qDecode.l1 : Nat → (List Int) → Int → (List UInt8) → (List (List UInt8)) → Option ((List UInt8) × Int)
  | 0, _, _, _, _ => none
  | k + 1, x1522q, x1527q, r1367q, r1350q => if x1527q < (r1367q.length : Int) then (louverref03qDecode.l2 k (-1) 0 r1350q r1367q x1522q x1527q) else (louverref03qDecode.j0 k x1522q x1527q r1367q)
def louverref03qDecode.l2 : Nat → Int → Int → (List (List UInt8)) → (List UInt8) → (List Int) → Int → Option ((List UInt8) × Int)
  | 0, _, _, _, _, _, _ => none
  | k + 1, x1542q, x1543q, r1350q, r1367q, x1522q, x1527q => if x1543q < (r1350q.length : Int) then (if 0 ≤ x1543q then (bnd1 (louverref03qbegins.f (gt [] r1350q x1543q) r1367q x1527q) fun r1569q => (if r1569q = true then (louverref03qDecode.l2 k x1543q (IntKind.i64.wrap (x1543q + 1)) r1350q r1367q x1522q x1527q) else (louverref03qDecode.l2 k x1542q (IntKind.i64.wrap (x1543q + 1)) r1350q r1367q x1522q x1527q))) else (none)) else (if x1542q = 256 then (some (([] : List UInt8), 3)) else (if x1542q < 0 then (louverref03qDecode.j0 k x1522q x1527q r1367q) else (if x1522q.length + 1 ≤ 140737488355328 then (lt1 (x1522q ++ ([IntKind.u8.wrap x1542q] : List Int) : List Int) fun y1611q => (if 0 ≤ x1542q then (if x1542q < (r1350q.length : Int) then (louverref03qDecode.l1 k y1611q (IntKind.i64.wrap (x1527q + ((gt [] r1350q x1542q).length : Int))) r1367q r1350q) else (none)) else (none))) else (none))))
def louverref03qDecode.l3 : Nat → Int → (List UInt8) → (List Int) → Option ((List UInt8) × Int)
  | 0, _, _, _ => none
  | k + 1, x1651q, r1367q, x1511q => if x1651q < (r1367q.length : Int) then (if 0 ≤ x1651q then (if (btI r1367q x1651q) = 49 then (louverref03qDecode.l3 k (IntKind.i64.wrap (x1651q + 1)) r1367q x1511q) else (some (([] : List UInt8), 3))) else (none)) else (some (toS x1511q, 0))
end
def louverref03qDecode.f (k : Nat) (p0 : (List Int)) : Option ((List UInt8) × Int) := bnd1 (louverref03qCodes.f k) fun r1350q => (bnd1 (louverref03qbits.f k p0) fun r1367q => (louverref03qDecode.l1 k ([] : List Int) 0 r1367q r1350q))
set_option maxHeartbeats 2000000 in
set_option maxRecDepth 100000 in
theorem louverref03qDecode.calls (k : Nat) {b : Nat} {w0 W : World} {R : Frag} {Fs : List Frag} {p0 : (List Int)} {v0 : Value} {r0q : (List UInt8)} {r1q : Int} (hp0 : Rds (kInt .u8) b w0 R v0 p0) (H : louverref03qDecode.f k p0 = some (r0q, r1q)) (hS : St b w0 W R (Fs)) :
    Calls Tryd.prog 16 ([v0] : List Value).toArray W (fun e W' => e = .returned (.tuple #[.string (mkS r0q), .int .i64 r1q]) ∧ St b w0 W' R (Fs)) := by
  obtain ⟨A0, c0, rfl⟩ := hp0.form
  unfold louverref03qDecode.f at H
  refine calls_enter Tryd.func16 rfl 65 rfl (by kernel_rfl) (fun a h => ?_)
  refine wp_seq ?_
  refine WL.start ?_
  refine WL.block (c := 2) (m' := 2) h rfl [(3, .int .i64 0), (2, .string (mkS ([] : List UInt8)))] (by kernel_rfl) (fun a1347q h1348q => ?_)
  refine WL.done (by kernel_rfl) ?_
  refine wp_seq ?_
  refine WL.start ?_
  obtain ⟨r1350q, A1349q, H⟩ := bind1 H
  refine WL.op' (m := 0) h1348q rfl rfl ?_
  refine owp_call [] h1348q rfl (by kernel_rfl) rfl Tryd.func11 (by kernel_rfl) rfl (by kernel_rfl) (louverref03qCodes.calls k  A1349q hS) (fun e1352q W1351q hp1353q => ?_)
  obtain ⟨v1356q, M1357q, rfl, hr1358q, hS1359q⟩ := hp1353q
  refine ⟨_, rfl, fun a1354q h1355q => ?_⟩
  clear h1348q a1347q
  obtain ⟨A1360q, c1361q, rfl⟩ := hr1358q.form
  refine WL.block (c := 1) (m' := 2) h1355q rfl [(4, .slice A1360q r1350q.length c1361q)] (by kernel_rfl) (fun a1362q h1363q => ?_)
  clear h1355q a1354q
  refine WL.done (by kernel_rfl) ?_
  refine wp_seq ?_
  refine WL.start ?_
  refine WL.block (c := 1) (m' := 1) h1363q rfl [(11, .slice A0 p0.length c0)] (by kernel_rfl) (fun a1364q h1365q => ?_)
  clear h1363q a1362q
  obtain ⟨r1367q, A1366q, H⟩ := bind1 H
  refine WL.op' (m := 1) h1365q rfl rfl ?_
  refine owp_call [.slice A0 p0.length c0] h1365q rfl (by kernel_rfl) rfl Tryd.func21 (by kernel_rfl) rfl (by kernel_rfl) (louverref03qbits.calls k hp0 A1366q hS1359q) (fun e1369q W1368q hp1370q => ?_)
  obtain ⟨rfl, hS1373q⟩ := hp1370q
  refine ⟨_, rfl, fun a1371q h1372q => ?_⟩
  clear h1365q a1364q
  refine WL.block (c := 1) (m' := 3) h1372q rfl [(5, .string (mkS r1367q))] (by kernel_rfl) (fun a1374q h1375q => ?_)
  clear h1372q a1371q
  refine WL.done (by kernel_rfl) ?_
  refine wp_seq ?_
  refine WL.start ?_
  refine WL.op' (m := 0) h1375q rfl rfl ?_
  refine owp_new (fun g_ => .slice (some ⟨g_, 0, none⟩) 0 0) (.cells ([] : List Value).toArray 5 (0, 0)) h1375q rfl (by kernel_rfl) (by kernel_rfl) hS1373q (fun a1376q W1378q g1379q h1377q hS1380q => ?_)
  clear h1375q a1374q
  have hr1381q : Row (kInt .u8) 5 b w0 R (.slice (some ⟨g1379q, 0, none⟩) 0 0) ([] : List Int) [(g1379q, .cells ([] : List Value).toArray 5 (0, 0))] := Row.lit (xs := ([] : List Int)) (Mi := []) ⟨rfl, rfl⟩ (by simp [maxLen])
  refine WL.block (c := 1) (m' := 2) h1377q rfl [(6, .slice (some ⟨g1379q, 0, none⟩) 0 0)] (by kernel_rfl) (fun a1382q h1383q => ?_)
  clear h1377q a1376q
  refine WL.done (by kernel_rfl) ?_
  refine wp_seq ?_
  refine WL.start ?_
  refine WL.block (c := 1) (m' := 1) h1383q rfl [(7, .int .i64 0)] (by kernel_rfl) (fun a1384q h1385q => ?_)
  clear h1383q a1382q
  refine WL.done (by kernel_rfl) ?_
  refine wp_seq ?_
  refine wp_meet (I := fun a_ W_ => ∃ kq_, ∃ (x1511q : (List Int)), ∃ (A1512q : Option Addr), ∃ (c1513q : Nat), ∃ (M1514q : Frag), ∃ (x1516q : Int), Hd a_ 65 [(5, .string (mkS r1367q)), (6, .slice A1512q x1511q.length c1513q), (7, .int .i64 x1516q)] ∧ Asd (louverref03qDecode.j0 kq_ x1511q x1516q r1367q = some (r0q, r1q)) ∧ Asd (kq_ ≤ k) ∧ Asd (St b w0 W_ R (M1514q :: Fs)) ∧ Asd (Row (kInt .u8) 5 b w0 R (.slice A1512q x1511q.length c1513q) x1511q M1514q)) ?_ ?_
  · refine wp_block ?_
    have hS1528q : St b w0 W1378q R (M1357q :: [(g1379q, .cells ([] : List Value).toArray 5 (0, 0))] :: Fs) := hS1380q.bring 1 rfl rfl
    refine wp_loop_ghost (fun kq_ a_ W_ => ∃ (x1522q : (List Int)), ∃ (A1523q : Option Addr), ∃ (c1524q : Nat), ∃ (M1525q : Frag), ∃ (x1527q : Int), Hd a_ 65 [(4, .slice A1360q r1350q.length c1361q), (5, .string (mkS r1367q)), (6, .slice A1523q x1522q.length c1524q), (7, .int .i64 x1527q)] ∧ Asd (louverref03qDecode.l1 kq_ x1522q x1527q r1367q r1350q = some (r0q, r1q)) ∧ Asd (kq_ ≤ k) ∧ Asd (St b w0 W_ R (M1357q :: M1525q :: Fs)) ∧ Asd (Row (kInt .u8) 5 b w0 R (.slice A1523q x1522q.length c1524q) x1522q M1525q)) k ⟨([] : List Int), (some ⟨g1379q, 0, none⟩), 0, [(g1379q, .cells ([] : List Value).toArray 5 (0, 0))], 0, h1385q.keep ⟨rfl, rfl, rfl, rfl, trivial⟩, ⟨H⟩, ⟨Nat.le_refl _⟩, ⟨hS1528q⟩, ⟨hr1381q⟩⟩ ?_
    clear H hS1528q
    rintro k1521q a1518q W1519q ⟨x1522q, A1523q, c1524q, M1525q, x1527q, h1517q, ⟨H⟩, ⟨hkk1521q⟩, ⟨hS1520q⟩, ⟨hr1526q⟩⟩
    obtain _ | k1529q := k1521q
    · exact absurd H (by simp [louverref03qDecode.l1])
    simp only [louverref03qDecode.l1] at H
    refine wp_seq ?_
    refine wp_seq ?_
    refine WL.start ?_
    refine WL.block (c := 4) (m' := 4) h1517q rfl [(17, .bool (decide (x1527q < (r1367q.length : Int)))), (16, .int .i64 (r1367q.length : Int)), (15, .string (mkS r1367q)), (14, .int .i64 x1527q)] (by kernel_rfl) (fun a1530q h1531q => ?_)
    clear h1517q a1518q
    refine WL.done (by kernel_rfl) ?_
    by_cases c1532q : x1527q < (r1367q.length : Int)
    · rw [if_pos c1532q] at H
      have hb_ : (decide (x1527q < (r1367q.length : Int))) = true := decide_eq_true c1532q
      try rw [hb_] at h1531q
      clear hb_
      refine wp_then h1531q rfl ?_
      refine wp_skip ?_
      refine wp_block ?_
      refine wp_seq ?_
      refine WL.start ?_
      refine WL.block (c := 1) (m' := 1) h1531q rfl [(8, .int .i64 (-1))] (by kernel_rfl) (fun a1533q h1534q => ?_)
      clear h1531q a1530q
      refine WL.done (by kernel_rfl) ?_
      refine wp_seq ?_
      refine wp_seq ?_
      refine WL.start ?_
      refine WL.block (c := 3) (m' := 3) h1534q rfl [(20, .int .i64 0), (19, .int .i64 (r1350q.length : Int)), (18, .slice A1360q r1350q.length c1361q)] (by kernel_rfl) (fun a1535q h1536q => ?_)
      clear h1534q a1533q
      refine WL.done (by kernel_rfl) ?_
      refine wp_block ?_
      refine wp_loop_ghost (fun kq_ a_ W_ => ∃ (x1542q : Int), ∃ (x1543q : Int), Hd a_ 65 [(4, .slice A1360q r1350q.length c1361q), (5, .string (mkS r1367q)), (6, .slice A1523q x1522q.length c1524q), (7, .int .i64 x1527q), (8, .int .i64 x1542q), (19, .int .i64 (r1350q.length : Int)), (20, .int .i64 x1543q)] ∧ Asd (louverref03qDecode.l2 kq_ x1542q x1543q r1350q r1367q x1522q x1527q = some (r0q, r1q)) ∧ Asd (kq_ ≤ k1529q) ∧ Asd (St b w0 W_ R (M1357q :: M1525q :: Fs))) k1529q ⟨(-1), 0, h1536q.keep ⟨rfl, rfl, rfl, rfl, rfl, rfl, rfl, trivial⟩, ⟨H⟩, ⟨Nat.le_refl _⟩, ⟨hS1520q⟩⟩ ?_
      clear H hS1520q
      rintro k1541q a1538q W1539q ⟨x1542q, x1543q, h1537q, ⟨H⟩, ⟨hkk1541q⟩, ⟨hS1540q⟩⟩
      obtain _ | k1544q := k1541q
      · exact absurd H (by simp [louverref03qDecode.l2])
      simp only [louverref03qDecode.l2] at H
      refine wp_seq ?_
      refine WL.start ?_
      refine WL.block (c := 1) (m' := 1) h1537q rfl [(21, .bool (decide (x1543q < (r1350q.length : Int))))] (by kernel_rfl) (fun a1545q h1546q => ?_)
      clear h1537q a1538q
      refine WL.done (by kernel_rfl) ?_
      refine wp_seq ?_
      by_cases c1547q : x1543q < (r1350q.length : Int)
      · rw [if_pos c1547q] at H
        have hb_ : (decide (x1543q < (r1350q.length : Int))) = true := decide_eq_true c1547q
        try rw [hb_] at h1546q
        clear hb_
        refine wp_then h1546q rfl ?_
        refine wp_skip ?_
        refine wp_seq ?_
        refine wp_block ?_
        refine wp_seq ?_
        refine WL.start ?_
        refine WL.block (c := 2) (m' := 2) h1546q rfl [(9, .int .i64 x1543q), (22, .int .i64 x1543q)] (by kernel_rfl) (fun a1548q h1549q => ?_)
        clear h1546q a1545q
        refine WL.done (by kernel_rfl) ?_
        refine wp_seq ?_
        refine WL.start ?_
        refine WL.block (c := 2) (m' := 2) h1549q rfl [(24, .int .i64 x1543q), (23, .slice A1360q r1350q.length c1361q)] (by kernel_rfl) (fun a1550q h1551q => ?_)
        clear h1549q a1548q
        by_cases c1552q : 0 ≤ x1543q
        · rw [if_pos c1552q] at H
          have hi1555q : 0 ≤ x1543q := by first | assumption | omega
          have hi1556q : x1543q < (r1350q.length : Int) := by first | assumption | omega
          obtain ⟨ad1553q, _, ha1554q, -, -⟩ := Rds.elemAny hr1358q.rds hi1555q (gt_get (z := []) hi1555q hi1556q)
          refine WL.op' (m := 2) h1551q rfl rfl ?_
          refine owp_run (v := .pointer (some (ad1553q.add (x1543q.toNat * 1)))) h1551q rfl (by kernel_rfl) (run_idx (ad := ad1553q) (sz := 1) rfl (by rw [← ha1554q]; rfl) rfl Tryd.underlying26 (by kernel_rfl) hi1555q hi1556q) (fun a1557q h1558q => ?_)
          clear h1551q a1550q
          obtain ⟨ad1559q, cs1560q, ha1561q, hr1563q, hc1562q⟩ := Rds.elemAny hr1358q.rds hi1555q (gt_get (z := []) hi1555q hi1556q)
          rw [ha1554q] at ha1561q; obtain rfl := Option.some.inj ha1561q
          obtain rfl : cs1560q = [.string (mkS (gt [] r1350q x1543q))] := hr1563q
          refine WL.op' (m := 3) h1558q rfl rfl ?_
          refine owp_run (v := .string (mkS (gt [] r1350q x1543q))) h1558q rfl (by kernel_rfl) (run_load1 rfl rfl Tryd.underlying9 rfl (cell0 (hc1562q _ (fun _ _ hk_ => (hS1540q).pool.kn hk_)))) (fun a1564q h1565q => ?_)
          clear h1558q a1557q
          refine WL.block (c := 2) (m' := 6) h1565q rfl [(28, .int .i64 x1527q), (27, .string (mkS r1367q))] (by kernel_rfl) (fun a1566q h1567q => ?_)
          clear h1565q a1564q
          obtain ⟨r1569q, A1568q, H⟩ := bind1 H
          refine WL.op' (m := 6) h1567q rfl rfl ?_
          refine owp_call [.string (mkS (gt [] r1350q x1543q)), .string (mkS r1367q), .int .i64 x1527q] h1567q rfl (by kernel_rfl) rfl Tryd.func22 (by kernel_rfl) rfl (by kernel_rfl) (louverref03qbegins.calls  A1568q hS1540q) (fun e1571q W1570q hp1572q => ?_)
          obtain ⟨rfl, hS1575q⟩ := hp1572q
          refine ⟨_, rfl, fun a1573q h1574q => ?_⟩
          clear h1567q a1566q
          refine WL.done (by kernel_rfl) ?_
          by_cases c1576q : r1569q = true
          · rw [if_pos c1576q] at H
            have hb_ : r1569q = true := c1576q
            try rw [hb_] at h1574q
            clear hb_
            refine wp_then h1574q rfl ?_
            refine WL.start ?_
            refine WL.block (c := 2) (m' := 2) h1574q rfl [(8, .int .i64 x1543q), (30, .int .i64 x1543q)] (by kernel_rfl) (fun a1577q h1578q => ?_)
            clear h1574q a1573q
            refine WL.done (by kernel_rfl) ?_
            refine WL.start ?_
            refine WL.block (c := 2) (m' := 2) h1578q rfl [(20, .int .i64 (IntKind.i64.wrap (x1543q + 1))), (31, .int .i64 (IntKind.i64.wrap (x1543q + 1)))] (by kernel_rfl) (fun a1579q h1580q => ?_)
            clear h1578q a1577q
            refine WL.done (by kernel_rfl) ?_
            exact ⟨k1544q, by omega, x1543q, IntKind.i64.wrap (x1543q + 1), h1580q.keep ⟨rfl, rfl, rfl, rfl, rfl, rfl, rfl, trivial⟩, ⟨H⟩, ⟨by omega⟩, ⟨hS1575q⟩⟩
          · rw [if_neg c1576q] at H
            have hb_ : r1569q = false := (Bool.eq_false_iff.2 c1576q)
            try rw [hb_] at h1574q
            clear hb_
            refine wp_else h1574q rfl ?_
            refine wp_skip ?_
            refine WL.start ?_
            refine WL.block (c := 2) (m' := 2) h1574q rfl [(20, .int .i64 (IntKind.i64.wrap (x1543q + 1))), (31, .int .i64 (IntKind.i64.wrap (x1543q + 1)))] (by kernel_rfl) (fun a1581q h1582q => ?_)
            clear h1574q a1573q
            refine WL.done (by kernel_rfl) ?_
            exact ⟨k1544q, by omega, x1542q, IntKind.i64.wrap (x1543q + 1), h1582q.keep ⟨rfl, rfl, rfl, rfl, rfl, rfl, rfl, trivial⟩, ⟨H⟩, ⟨by omega⟩, ⟨hS1575q⟩⟩
        · rw [if_neg c1552q] at H
          cases H
      · rw [if_neg c1547q] at H
        have hb_ : (decide (x1543q < (r1350q.length : Int))) = false := decide_eq_false c1547q
        try rw [hb_] at h1546q
        clear hb_
        refine wp_else h1546q rfl ?_
        refine wp_exit ?_
        refine wp_seq ?_
        refine wp_seq ?_
        refine WL.start ?_
        refine WL.block (c := 2) (m' := 2) h1546q rfl [(33, .bool (decide (x1542q = 256))), (32, .int .i64 x1542q)] (by kernel_rfl) (fun a1583q h1584q => ?_)
        clear h1546q a1545q
        refine WL.done (by kernel_rfl) ?_
        by_cases c1585q : x1542q = 256
        · rw [if_pos c1585q] at H
          have hb_ : (decide (x1542q = 256)) = true := decide_eq_true c1585q
          try rw [hb_] at h1584q
          clear hb_
          refine wp_then h1584q rfl ?_
          refine wp_seq ?_
          refine WL.start ?_
          refine WL.block (c := 2) (m' := 2) h1584q rfl [(3, .int .i64 3), (2, .string (mkS ([] : List UInt8)))] (by kernel_rfl) (fun a1586q h1587q => ?_)
          clear h1584q a1583q
          refine WL.done (by kernel_rfl) ?_
          refine wp_ret ?_
          have hS1588q : St b w0 W1539q R (M1525q :: Fs) := hS1540q.drop_
          have hS1589q : St b w0 W1539q R (Fs) := hS1588q.drop_
          obtain ⟨rfl, rfl⟩ := ret2 H
          repeat (first | refine then_ret ?_ | refine inBlock_ret ?_ | refine inBlock_go ?_)
          refine body_ret (v := .tuple #[.string (mkS ([] : List UInt8)), .int .i64 3]) h1587q (by kernel_rfl) (by kernel_rfl) ?_
          exact ⟨rfl, hS1589q⟩
        · rw [if_neg c1585q] at H
          have hb_ : (decide (x1542q = 256)) = false := decide_eq_false c1585q
          try rw [hb_] at h1584q
          clear hb_
          refine wp_else h1584q rfl ?_
          refine wp_skip ?_
          refine wp_seq ?_
          refine wp_seq ?_
          refine WL.start ?_
          refine WL.block (c := 2) (m' := 2) h1584q rfl [(35, .bool (decide (x1542q < 0))), (34, .int .i64 x1542q)] (by kernel_rfl) (fun a1590q h1591q => ?_)
          clear h1584q a1583q
          refine WL.done (by kernel_rfl) ?_
          by_cases c1592q : x1542q < 0
          · rw [if_pos c1592q] at H
            have hb_ : (decide (x1542q < 0)) = true := decide_eq_true c1592q
            try rw [hb_] at h1591q
            clear hb_
            refine wp_then h1591q rfl ?_
            refine wp_exit ?_
            have hS1593q : St b w0 W1539q R (M1525q :: Fs) := hS1540q.drop_
            exact ⟨k1544q, x1522q, A1523q, c1524q, M1525q, x1527q, h1591q.keep ⟨rfl, rfl, rfl, trivial⟩, ⟨H⟩, ⟨by omega⟩, ⟨hS1593q⟩, ⟨hr1526q⟩⟩
          · rw [if_neg c1592q] at H
            have hb_ : (decide (x1542q < 0)) = false := decide_eq_false c1592q
            try rw [hb_] at h1591q
            clear hb_
            refine wp_else h1591q rfl ?_
            refine wp_skip ?_
            refine wp_seq ?_
            refine WL.start ?_
            refine WL.block (c := 3) (m' := 3) h1591q rfl [(38, .int .u8 (IntKind.u8.wrap x1542q)), (37, .int .i64 x1542q), (36, .slice A1523q x1522q.length c1524q)] (by kernel_rfl) (fun a1594q h1595q => ?_)
            clear h1591q a1590q
            refine WL.op' (m := 3) h1595q rfl rfl ?_
            refine owp_new (fun g_ => .slice (some ⟨g_, 0, none⟩) 1 1) (.cells ([.int .u8 (IntKind.u8.wrap x1542q)] : List Value).toArray 5 (0, 0)) h1595q rfl (by kernel_rfl) (by kernel_rfl) hS1540q (fun a1596q W1598q g1599q h1597q hS1600q => ?_)
            clear h1595q a1594q
            have hr1601q : Row (kInt .u8) 5 b w0 R (.slice (some ⟨g1599q, 0, none⟩) 1 1) ([IntKind.u8.wrap x1542q] : List Int) [(g1599q, .cells ([.int .u8 (IntKind.u8.wrap x1542q)] : List Value).toArray 5 (0, 0))] := Row.lit (xs := ([IntKind.u8.wrap x1542q] : List Int)) (Mi := []) ⟨_, _, [], _, rfl, rfl, ⟨rfl, rfl⟩, ⟨rfl, rfl⟩⟩ (by simp [maxLen])
            by_cases c1602q : x1522q.length + 1 ≤ 140737488355328
            · rw [if_pos c1602q] at H
              have hS1603q : St b w0 W1598q R (M1525q :: [(g1599q, .cells ([.int .u8 (IntKind.u8.wrap x1542q)] : List Value).toArray 5 (0, 0))] :: M1357q :: Fs) := hS1600q.bring 2 rfl rfl
              refine WL.op' (m := 4) h1597q rfl rfl ?_
              refine owp_app_take (z := .int .u8 0) (bytes := 1) (dk := (kInt .u8)) h1597q rfl (by kernel_rfl) rfl rfl rfl hr1526q hr1601q hS1603q Tryd.underlying33 (by kernel_rfl) rfl (by decide) (by decide) (by first | omega | (simp only [List.length_cons, List.length_nil] at *; omega)) (fun a1604q W1606q v1607q M1608q h1605q hr1609q hS1610q => ?_)
              clear h1597q a1596q
              obtain ⟨y1611q, hy1612q, H⟩ := lete H
              have hr1613q : Row (kInt .u8) 5 b w0 R v1607q y1611q M1608q := by rw [hy1612q]; exact hr1609q
              clear hr1609q
              obtain ⟨A1614q, c1615q, rfl⟩ := hr1613q.form
              refine WL.block (c := 1) (m' := 6) h1605q rfl [(6, .slice A1614q y1611q.length c1615q)] (by kernel_rfl) (fun a1616q h1617q => ?_)
              clear h1605q a1604q
              refine WL.done (by kernel_rfl) ?_
              refine WL.start ?_
              refine WL.block (c := 3) (m' := 3) h1617q rfl [(43, .int .i64 x1542q), (42, .slice A1360q r1350q.length c1361q), (41, .int .i64 x1527q)] (by kernel_rfl) (fun a1618q h1619q => ?_)
              clear h1617q a1616q
              by_cases c1620q : 0 ≤ x1542q
              · rw [if_pos c1620q] at H
                by_cases c1621q : x1542q < (r1350q.length : Int)
                · rw [if_pos c1621q] at H
                  have hi1624q : 0 ≤ x1542q := by first | assumption | omega
                  have hi1625q : x1542q < (r1350q.length : Int) := by first | assumption | omega
                  obtain ⟨ad1622q, _, ha1623q, -, -⟩ := Rds.elemAny hr1358q.rds hi1624q (gt_get (z := []) hi1624q hi1625q)
                  refine WL.op' (m := 3) h1619q rfl rfl ?_
                  refine owp_run (v := .pointer (some (ad1622q.add (x1542q.toNat * 1)))) h1619q rfl (by kernel_rfl) (run_idx (ad := ad1622q) (sz := 1) rfl (by rw [← ha1623q]; rfl) rfl Tryd.underlying26 (by kernel_rfl) hi1624q hi1625q) (fun a1626q h1627q => ?_)
                  clear h1619q a1618q
                  have hS1628q : St b w0 W1606q R (M1357q :: M1608q :: Fs) := hS1610q.bring 1 rfl rfl
                  obtain ⟨ad1629q, cs1630q, ha1631q, hr1633q, hc1632q⟩ := Rds.elemAny hr1358q.rds hi1624q (gt_get (z := []) hi1624q hi1625q)
                  rw [ha1623q] at ha1631q; obtain rfl := Option.some.inj ha1631q
                  obtain rfl : cs1630q = [.string (mkS (gt [] r1350q x1542q))] := hr1633q
                  refine WL.op' (m := 4) h1627q rfl rfl ?_
                  refine owp_run (v := .string (mkS (gt [] r1350q x1542q))) h1627q rfl (by kernel_rfl) (run_load1 rfl rfl Tryd.underlying9 rfl (cell0 (hc1632q _ (fun _ _ hk_ => (hS1628q).pool.kn hk_)))) (fun a1634q h1635q => ?_)
                  clear h1627q a1626q
                  refine WL.block (c := 3) (m' := 8) h1635q rfl [(7, .int .i64 (IntKind.i64.wrap (x1527q + ((gt [] r1350q x1542q).length : Int)))), (47, .int .i64 (IntKind.i64.wrap (x1527q + ((gt [] r1350q x1542q).length : Int)))), (46, .int .i64 ((gt [] r1350q x1542q).length : Int))] (by kernel_rfl) (fun a1636q h1637q => ?_)
                  clear h1635q a1634q
                  refine WL.done (by kernel_rfl) ?_
                  exact ⟨k1544q, by omega, y1611q, A1614q, c1615q, M1608q, IntKind.i64.wrap (x1527q + ((gt [] r1350q x1542q).length : Int)), h1637q.keep ⟨rfl, rfl, rfl, rfl, trivial⟩, ⟨H⟩, ⟨by omega⟩, ⟨hS1628q⟩, ⟨hr1613q⟩⟩
                · rw [if_neg c1621q] at H
                  cases H
              · rw [if_neg c1620q] at H
                cases H
            · rw [if_neg c1602q] at H
              cases H
    · rw [if_neg c1532q] at H
      have hb_ : (decide (x1527q < (r1367q.length : Int))) = false := decide_eq_false c1532q
      try rw [hb_] at h1531q
      clear hb_
      refine wp_else h1531q rfl ?_
      refine wp_exit ?_
      have hS1638q : St b w0 W1519q R (M1525q :: Fs) := hS1520q.drop_
      exact ⟨k1529q, x1522q, A1523q, c1524q, M1525q, x1527q, h1531q.keep ⟨rfl, rfl, rfl, trivial⟩, ⟨H⟩, ⟨by omega⟩, ⟨hS1638q⟩, ⟨hr1526q⟩⟩
  · clear H hS1380q
    rintro a1507q W1508q ⟨k1510q, x1511q, A1512q, c1513q, M1514q, x1516q, h1506q, ⟨H⟩, ⟨hkk1510q⟩, ⟨hS1509q⟩, ⟨hr1515q⟩⟩
    obtain _ | k1639q := k1510q
    · exact absurd H (by simp [louverref03qDecode.j0])
    simp only [louverref03qDecode.j0] at H
    refine wp_seq ?_
    refine wp_seq ?_
    refine WL.start ?_
    refine WL.block (c := 5) (m' := 5) h1506q rfl [(52, .bool (decide ((IntKind.i64.wrap ((r1367q.length : Int) - x1516q)) > 7))), (51, .int .i64 (IntKind.i64.wrap ((r1367q.length : Int) - x1516q))), (50, .int .i64 x1516q), (49, .int .i64 (r1367q.length : Int)), (48, .string (mkS r1367q))] (by kernel_rfl) (fun a1640q h1641q => ?_)
    clear h1506q a1507q
    refine WL.done (by kernel_rfl) ?_
    by_cases c1642q : (IntKind.i64.wrap ((r1367q.length : Int) - x1516q)) > 7
    · rw [if_pos c1642q] at H
      have hb_ : (decide ((IntKind.i64.wrap ((r1367q.length : Int) - x1516q)) > 7)) = true := decide_eq_true c1642q
      try rw [hb_] at h1641q
      clear hb_
      refine wp_then h1641q rfl ?_
      refine wp_seq ?_
      refine WL.start ?_
      refine WL.block (c := 2) (m' := 2) h1641q rfl [(3, .int .i64 3), (2, .string (mkS ([] : List UInt8)))] (by kernel_rfl) (fun a1643q h1644q => ?_)
      clear h1641q a1640q
      refine WL.done (by kernel_rfl) ?_
      refine wp_ret ?_
      have hS1645q : St b w0 W1508q R (Fs) := hS1509q.drop_
      obtain ⟨rfl, rfl⟩ := ret2 H
      repeat (first | refine then_ret ?_ | refine inBlock_ret ?_ | refine inBlock_go ?_)
      refine body_ret (v := .tuple #[.string (mkS ([] : List UInt8)), .int .i64 3]) h1644q (by kernel_rfl) (by kernel_rfl) ?_
      exact ⟨rfl, hS1645q⟩
    · rw [if_neg c1642q] at H
      have hb_ : (decide ((IntKind.i64.wrap ((r1367q.length : Int) - x1516q)) > 7)) = false := decide_eq_false c1642q
      try rw [hb_] at h1641q
      clear hb_
      refine wp_else h1641q rfl ?_
      refine wp_skip ?_
      refine wp_seq ?_
      refine wp_block ?_
      refine wp_loop_ghost (fun kq_ a_ W_ => ∃ (x1651q : Int), Hd a_ 65 [(5, .string (mkS r1367q)), (6, .slice A1512q x1511q.length c1513q), (7, .int .i64 x1651q)] ∧ Asd (louverref03qDecode.l3 kq_ x1651q r1367q x1511q = some (r0q, r1q)) ∧ Asd (kq_ ≤ k1639q) ∧ Asd (St b w0 W_ R (M1514q :: Fs))) k1639q ⟨x1516q, h1641q.keep ⟨rfl, rfl, rfl, trivial⟩, ⟨H⟩, ⟨Nat.le_refl _⟩, ⟨hS1509q⟩⟩ ?_
      clear H hS1509q
      rintro k1650q a1647q W1648q ⟨x1651q, h1646q, ⟨H⟩, ⟨hkk1650q⟩, ⟨hS1649q⟩⟩
      obtain _ | k1652q := k1650q
      · exact absurd H (by simp [louverref03qDecode.l3])
      simp only [louverref03qDecode.l3] at H
      refine wp_seq ?_
      refine wp_seq ?_
      refine WL.start ?_
      refine WL.block (c := 4) (m' := 4) h1646q rfl [(56, .bool (decide (x1651q < (r1367q.length : Int)))), (55, .int .i64 (r1367q.length : Int)), (54, .string (mkS r1367q)), (53, .int .i64 x1651q)] (by kernel_rfl) (fun a1653q h1654q => ?_)
      clear h1646q a1647q
      refine WL.done (by kernel_rfl) ?_
      by_cases c1655q : x1651q < (r1367q.length : Int)
      · rw [if_pos c1655q] at H
        have hb_ : (decide (x1651q < (r1367q.length : Int))) = true := decide_eq_true c1655q
        try rw [hb_] at h1654q
        clear hb_
        refine wp_then h1654q rfl ?_
        refine wp_skip ?_
        refine wp_block ?_
        refine wp_seq ?_
        refine wp_seq ?_
        refine WL.start ?_
        refine WL.block (c := 2) (m' := 2) h1654q rfl [(58, .int .i64 x1651q), (57, .string (mkS r1367q))] (by kernel_rfl) (fun a1656q h1657q => ?_)
        clear h1654q a1653q
        by_cases c1658q : 0 ≤ x1651q
        · rw [if_pos c1658q] at H
          refine WL.op' (m := 2) h1657q rfl rfl ?_
          refine owp_run (v := .int .u8 (btI r1367q x1651q)) h1657q rfl (by kernel_rfl) (run_stridx rfl rfl rfl Tryd.underlying9 (by first | assumption | omega) (by first | assumption | omega)) (fun a1659q h1660q => ?_)
          clear h1657q a1656q
          refine WL.block (c := 1) (m' := 4) h1660q rfl [(60, .bool (!decide ((btI r1367q x1651q) = 49)))] (by kernel_rfl) (fun a1661q h1662q => ?_)
          clear h1660q a1659q
          refine WL.done (by kernel_rfl) ?_
          by_cases c1663q : (btI r1367q x1651q) = 49
          · rw [if_pos c1663q] at H
            have hb_ : (decide ((btI r1367q x1651q) = 49)) = true := decide_eq_true c1663q
            try rw [hb_] at h1662q
            clear hb_
            refine wp_else h1662q rfl ?_
            refine wp_skip ?_
            refine WL.start ?_
            refine WL.block (c := 3) (m' := 3) h1662q rfl [(7, .int .i64 (IntKind.i64.wrap (x1651q + 1))), (62, .int .i64 (IntKind.i64.wrap (x1651q + 1))), (61, .int .i64 x1651q)] (by kernel_rfl) (fun a1664q h1665q => ?_)
            clear h1662q a1661q
            refine WL.done (by kernel_rfl) ?_
            exact ⟨k1652q, by omega, IntKind.i64.wrap (x1651q + 1), h1665q.keep ⟨rfl, rfl, rfl, trivial⟩, ⟨H⟩, ⟨by omega⟩, ⟨hS1649q⟩⟩
          · rw [if_neg c1663q] at H
            have hb_ : (decide ((btI r1367q x1651q) = 49)) = false := decide_eq_false c1663q
            try rw [hb_] at h1662q
            clear hb_
            refine wp_then h1662q rfl ?_
            refine wp_seq ?_
            refine WL.start ?_
            refine WL.block (c := 2) (m' := 2) h1662q rfl [(3, .int .i64 3), (2, .string (mkS ([] : List UInt8)))] (by kernel_rfl) (fun a1666q h1667q => ?_)
            clear h1662q a1661q
            refine WL.done (by kernel_rfl) ?_
            refine wp_ret ?_
            have hS1668q : St b w0 W1648q R (Fs) := hS1649q.drop_
            obtain ⟨rfl, rfl⟩ := ret2 H
            repeat (first | refine then_ret ?_ | refine inBlock_ret ?_ | refine inBlock_go ?_)
            refine body_ret (v := .tuple #[.string (mkS ([] : List UInt8)), .int .i64 3]) h1667q (by kernel_rfl) (by kernel_rfl) ?_
            exact ⟨rfl, hS1668q⟩
        · rw [if_neg c1658q] at H
          cases H
      · rw [if_neg c1655q] at H
        have hb_ : (decide (x1651q < (r1367q.length : Int))) = false := decide_eq_false c1655q
        try rw [hb_] at h1654q
        clear hb_
        refine wp_else h1654q rfl ?_
        refine wp_exit ?_
        refine wp_seq ?_
        refine WL.start ?_
        refine WL.block (c := 1) (m' := 1) h1654q rfl [(63, .slice A1512q x1511q.length c1513q)] (by kernel_rfl) (fun a1669q h1670q => ?_)
        clear h1654q a1653q
        refine WL.op' (m := 1) h1670q rfl rfl ?_
        refine owp_run (v := .string (mkS (toS x1511q))) h1670q rfl (by kernel_rfl) (run_tostr rfl rfl hr1515q.rds (fun _ _ hk_ => (hS1649q).pool.kn hk_) Tryd.underlying33 Tryd.underlying5 Tryd.underlying9) (fun a1671q h1672q => ?_)
        clear h1670q a1669q
        refine WL.block (c := 2) (m' := 4) h1672q rfl [(3, .int .i64 0), (2, .string (mkS (toS x1511q)))] (by kernel_rfl) (fun a1673q h1674q => ?_)
        clear h1672q a1671q
        refine WL.done (by kernel_rfl) ?_
        refine wp_ret ?_
        have hS1675q : St b w0 W1648q R (Fs) := hS1649q.drop_
        obtain ⟨rfl, rfl⟩ := ret2 H
        repeat (first | refine then_ret ?_ | refine inBlock_ret ?_ | refine inBlock_go ?_)
        refine body_ret (v := .tuple #[.string (mkS (toS x1511q)), .int .i64 0]) h1674q (by kernel_rfl) (by kernel_rfl) ?_
        exact ⟨rfl, hS1675q⟩

/-! ### louver/louverlaw03.HuffmanDecodes -/
def louverlaw03qHuffmanDecodes.f (k : Nat) (p0 : (List Int)) : Option (Bool) := if (p0.length : Int) > 300 then (bnd1 (louverlaw03qfixed.f k) fun r617q => (some r617q)) else (bnd2 (huffman_Decode.f k p0) fun r629q r630q => (bnd2 (louverref03qDecode.f k p0) fun r642q r643q => (bnd1 (louverlaw03qfixed.f k) fun r1032q => (if r1032q = true then (if r629q = r642q then (if r630q = r643q then (if r630q = 0 then (bnd1 (huffman_Encode.f k r629q) fun r1078q => (some (decide ((toS r1078q) = (toS p0))))) else (some true)) else (some false)) else (some false)) else (some false)))))
set_option maxHeartbeats 2000000 in
set_option maxRecDepth 100000 in
theorem louverlaw03qHuffmanDecodes.calls (k : Nat) {b : Nat} {w0 W : World} {R : Frag} {Fs : List Frag} {p0 : (List Int)} {v0 : Value} {r0q : Bool} (hp0 : Rds (kInt .u8) b w0 R v0 p0) (hg0 : Rds (kInt .u8) b w0 [] (.slice (some ⟨0, 0, none⟩) 257 257) G0) (H : louverlaw03qHuffmanDecodes.f k p0 = some r0q) (hS : St b w0 W R (Fs)) :
    Calls Tryd.prog 7 ([v0] : List Value).toArray W (fun e W' => e = .returned (.bool r0q) ∧ St b w0 W' R (Fs)) := by
  obtain ⟨A0, c0, rfl⟩ := hp0.form
  unfold louverlaw03qHuffmanDecodes.f at H
  refine calls_enter Tryd.func7 rfl 44 rfl (by kernel_rfl) (fun a h => ?_)
  refine wp_seq ?_
  refine WL.start ?_
  refine WL.block (c := 1) (m' := 1) h rfl [(2, .bool false)] (by kernel_rfl) (fun a611q h612q => ?_)
  refine WL.done (by kernel_rfl) ?_
  refine wp_seq ?_
  refine wp_seq ?_
  refine WL.start ?_
  refine WL.block (c := 3) (m' := 3) h612q rfl [(9, .bool (decide ((p0.length : Int) > 300))), (8, .int .i64 (p0.length : Int)), (7, .slice A0 p0.length c0)] (by kernel_rfl) (fun a613q h614q => ?_)
  clear h612q a611q
  refine WL.done (by kernel_rfl) ?_
  by_cases c615q : (p0.length : Int) > 300
  · rw [if_pos c615q] at H
    have hb_ : (decide ((p0.length : Int) > 300)) = true := decide_eq_true c615q
    try rw [hb_] at h614q
    clear hb_
    refine wp_then h614q rfl ?_
    refine wp_seq ?_
    refine WL.start ?_
    obtain ⟨r617q, A616q, H⟩ := bind1 H
    refine WL.op' (m := 0) h614q rfl rfl ?_
    refine owp_call [] h614q rfl (by kernel_rfl) rfl Tryd.func10 (by kernel_rfl) rfl (by kernel_rfl) (louverlaw03qfixed.calls k hg0 A616q hS) (fun e619q W618q hp620q => ?_)
    obtain ⟨rfl, hS623q⟩ := hp620q
    refine ⟨_, rfl, fun a621q h622q => ?_⟩
    clear h614q a613q
    refine WL.block (c := 1) (m' := 2) h622q rfl [(2, .bool r617q)] (by kernel_rfl) (fun a624q h625q => ?_)
    clear h622q a621q
    refine WL.done (by kernel_rfl) ?_
    refine wp_ret ?_
    obtain rfl := Option.some.inj H
    repeat (first | refine then_ret ?_ | refine inBlock_ret ?_ | refine inBlock_go ?_)
    refine body_ret (v := .bool r617q) h625q (by kernel_rfl) (by kernel_rfl) ?_
    exact ⟨rfl, hS623q⟩
  · rw [if_neg c615q] at H
    have hb_ : (decide ((p0.length : Int) > 300)) = false := decide_eq_false c615q
    try rw [hb_] at h614q
    clear hb_
    refine wp_else h614q rfl ?_
    refine wp_skip ?_
    refine wp_seq ?_
    refine WL.start ?_
    refine WL.block (c := 1) (m' := 1) h614q rfl [(12, .slice A0 p0.length c0)] (by kernel_rfl) (fun a626q h627q => ?_)
    clear h614q a613q
    obtain ⟨r629q, r630q, A628q, H⟩ := bind2 H
    refine WL.op' (m := 1) h627q rfl rfl ?_
    refine owp_call [.slice A0 p0.length c0] h627q rfl (by kernel_rfl) rfl Tryd.func14 (by kernel_rfl) rfl (by kernel_rfl) (huffman_Decode.calls k hp0 hg0 A628q hS) (fun e632q W631q hp633q => ?_)
    obtain ⟨rfl, hS636q⟩ := hp633q
    refine ⟨_, rfl, fun a634q h635q => ?_⟩
    clear h627q a626q
    refine WL.block (c := 5) (m' := 7) h635q rfl [(4, .int .i64 r630q), (3, .string (mkS r629q)), (15, .int .i64 r630q), (14, .string (mkS r629q)), (11, .tuple #[.string (mkS r629q), .int .i64 r630q])] (by kernel_rfl) (fun a637q h638q => ?_)
    clear h635q a634q
    refine WL.done (by kernel_rfl) ?_
    refine wp_seq ?_
    refine WL.start ?_
    refine WL.block (c := 1) (m' := 1) h638q rfl [(17, .slice A0 p0.length c0)] (by kernel_rfl) (fun a639q h640q => ?_)
    clear h638q a637q
    obtain ⟨r642q, r643q, A641q, H⟩ := bind2 H
    refine WL.op' (m := 1) h640q rfl rfl ?_
    refine owp_call [.slice A0 p0.length c0] h640q rfl (by kernel_rfl) rfl Tryd.func16 (by kernel_rfl) rfl (by kernel_rfl) (louverref03qDecode.calls k hp0 A641q hS636q) (fun e645q W644q hp646q => ?_)
    obtain ⟨rfl, hS649q⟩ := hp646q
    refine ⟨_, rfl, fun a647q h648q => ?_⟩
    clear h640q a639q
    refine WL.block (c := 5) (m' := 7) h648q rfl [(6, .int .i64 r643q), (5, .string (mkS r642q)), (20, .int .i64 r643q), (19, .string (mkS r642q)), (16, .tuple #[.string (mkS r642q), .int .i64 r643q])] (by kernel_rfl) (fun a650q h651q => ?_)
    clear h648q a647q
    refine WL.done (by kernel_rfl) ?_
    refine wp_seq ?_
    refine WT.start 24 (fun w_ => (∀ a_ u_, Kn b w0 R a_ u_ → w_.cell? a_ = some u_) ∧ True) (by kernel_rfl) #[false, false, false, false, false, false, false, false, false, false, false, false, false, false, false, false, false, false, false, false, false, false, false, false] 24 rfl rfl ?_
    have hS1030q := hS649q.drew
    obtain ⟨r1032q, A1031q, H⟩ := bind1 H
    refine WT.op 0 (listed' := #[true, false, false, false, false, false, false, false, false, false, false, false, false, false, false, false, false, false, false, false, false, false, false, false]) h651q rfl (by kernel_rfl) rfl rfl ?_
    refine owp_call [] h651q rfl (by kernel_rfl) rfl Tryd.func10 (by kernel_rfl) rfl (by kernel_rfl) (louverlaw03qfixed.calls k hg0 A1031q hS1030q) (fun e1034q W1033q hp1035q => ?_)
    obtain ⟨rfl, hS1038q⟩ := hp1035q
    refine ⟨_, rfl, fun a1036q h1037q => ?_⟩
    clear h651q a650q
    refine ⟨.inr ⟨(fun _ _ hk_ => hS1038q.kn hk_), trivial⟩, ?_⟩
    refine WT.take 1 (listed' := #[true, true, false, false, false, false, false, false, false, false, false, false, false, false, false, false, false, false, false, false, false, false, false, false]) h1037q rfl rfl (by kernel_rfl) rfl rfl (.bool r1032q) (fun _ _ => by kernel_rfl) ⟨(fun _ _ hk_ => hS1038q.kn hk_), trivial⟩ (fun _ _ _ h_ => h_) (fun a1039q h1040q => ?_)
    clear h1037q a1036q
    by_cases c1041q : r1032q = true
    · rw [if_pos c1041q] at H
      have hb_ : r1032q = true := c1041q
      try rw [hb_] at h1040q
      clear hb_
      refine WT.take 2 (listed' := #[true, true, true, false, false, false, false, false, false, false, false, false, false, false, false, false, false, false, false, false, false, false, false, false]) h1040q rfl rfl (by kernel_rfl) rfl rfl (.string (mkS r629q)) (fun _ _ => by kernel_rfl) ⟨(fun _ _ hk_ => hS1038q.kn hk_), trivial⟩ (fun _ _ _ h_ => h_) (fun a1042q h1043q => ?_)
      clear h1040q a1039q
      refine WT.take 3 (listed' := #[true, true, true, true, false, false, false, false, false, false, false, false, false, false, false, false, false, false, false, false, false, false, false, false]) h1043q rfl rfl (by kernel_rfl) rfl rfl (.string (mkS r642q)) (fun _ _ => by kernel_rfl) ⟨(fun _ _ hk_ => hS1038q.kn hk_), trivial⟩ (fun _ _ _ h_ => h_) (fun a1044q h1045q => ?_)
      clear h1043q a1042q
      refine WT.take 4 (listed' := #[true, true, true, true, true, false, false, false, false, false, false, false, false, false, false, false, false, false, false, false, false, false, false, false]) h1045q rfl rfl (by kernel_rfl) rfl rfl (.bool (decide (r629q = r642q))) (fun w_ hs_ => (run_streq rfl rfl rfl)) ⟨(fun _ _ hk_ => hS1038q.kn hk_), trivial⟩ (fun _ _ _ h_ => h_) (fun a1046q h1047q => ?_)
      clear h1045q a1044q
      refine WT.take 5 (listed' := #[true, true, true, true, true, true, false, false, false, false, false, false, false, false, false, false, false, false, false, false, false, false, false, false]) h1047q rfl rfl (by kernel_rfl) rfl rfl (.bool (decide (r629q = r642q))) (fun _ _ => by kernel_rfl) ⟨(fun _ _ hk_ => hS1038q.kn hk_), trivial⟩ (fun _ _ _ h_ => h_) (fun a1048q h1049q => ?_)
      clear h1047q a1046q
      refine WT.take 6 (listed' := #[true, true, true, true, true, true, true, false, false, false, false, false, false, false, false, false, false, false, false, false, false, false, false, false]) h1049q rfl rfl (by kernel_rfl) rfl rfl (.bool (decide (r629q = r642q))) (fun _ _ => by kernel_rfl) ⟨(fun _ _ hk_ => hS1038q.kn hk_), trivial⟩ (fun _ _ _ h_ => h_) (fun a1050q h1051q => ?_)
      clear h1049q a1048q
      by_cases c1052q : r629q = r642q
      · rw [if_pos c1052q] at H
        have hb_ : (decide (r629q = r642q)) = true := decide_eq_true c1052q
        try rw [hb_] at h1051q
        clear hb_
        refine WT.take 7 (listed' := #[true, true, true, true, true, true, true, true, false, false, false, false, false, false, false, false, false, false, false, false, false, false, false, false]) h1051q rfl rfl (by kernel_rfl) rfl rfl (.int .i64 r630q) (fun _ _ => by kernel_rfl) ⟨(fun _ _ hk_ => hS1038q.kn hk_), trivial⟩ (fun _ _ _ h_ => h_) (fun a1053q h1054q => ?_)
        clear h1051q a1050q
        refine WT.take 8 (listed' := #[true, true, true, true, true, true, true, true, true, false, false, false, false, false, false, false, false, false, false, false, false, false, false, false]) h1054q rfl rfl (by kernel_rfl) rfl rfl (.int .i64 r643q) (fun _ _ => by kernel_rfl) ⟨(fun _ _ hk_ => hS1038q.kn hk_), trivial⟩ (fun _ _ _ h_ => h_) (fun a1055q h1056q => ?_)
        clear h1054q a1053q
        refine WT.take 9 (listed' := #[true, true, true, true, true, true, true, true, true, true, false, false, false, false, false, false, false, false, false, false, false, false, false, false]) h1056q rfl rfl (by kernel_rfl) rfl rfl (.bool (decide (r630q = r643q))) (fun _ _ => by kernel_rfl) ⟨(fun _ _ hk_ => hS1038q.kn hk_), trivial⟩ (fun _ _ _ h_ => h_) (fun a1057q h1058q => ?_)
        clear h1056q a1055q
        refine WT.take 10 (listed' := #[true, true, true, true, true, true, true, true, true, true, true, false, false, false, false, false, false, false, false, false, false, false, false, false]) h1058q rfl rfl (by kernel_rfl) rfl rfl (.bool (decide (r630q = r643q))) (fun _ _ => by kernel_rfl) ⟨(fun _ _ hk_ => hS1038q.kn hk_), trivial⟩ (fun _ _ _ h_ => h_) (fun a1059q h1060q => ?_)
        clear h1058q a1057q
        refine WT.take 11 (listed' := #[true, true, true, true, true, true, true, true, true, true, true, true, false, false, false, false, false, false, false, false, false, false, false, false]) h1060q rfl rfl (by kernel_rfl) rfl rfl (.bool (decide (r630q = r643q))) (fun _ _ => by kernel_rfl) ⟨(fun _ _ hk_ => hS1038q.kn hk_), trivial⟩ (fun _ _ _ h_ => h_) (fun a1061q h1062q => ?_)
        clear h1060q a1059q
        by_cases c1063q : r630q = r643q
        · rw [if_pos c1063q] at H
          have hb_ : (decide (r630q = r643q)) = true := decide_eq_true c1063q
          try rw [hb_] at h1062q
          clear hb_
          refine WT.take 12 (listed' := #[true, true, true, true, true, true, true, true, true, true, true, true, true, false, false, false, false, false, false, false, false, false, false, false]) h1062q rfl rfl (by kernel_rfl) rfl rfl (.int .i64 r630q) (fun _ _ => by kernel_rfl) ⟨(fun _ _ hk_ => hS1038q.kn hk_), trivial⟩ (fun _ _ _ h_ => h_) (fun a1064q h1065q => ?_)
          clear h1062q a1061q
          refine WT.take 13 (listed' := #[true, true, true, true, true, true, true, true, true, true, true, true, true, true, false, false, false, false, false, false, false, false, false, false]) h1065q rfl rfl (by kernel_rfl) rfl rfl (.bool (!decide (r630q = 0))) (fun _ _ => by kernel_rfl) ⟨(fun _ _ hk_ => hS1038q.kn hk_), trivial⟩ (fun _ _ _ h_ => h_) (fun a1066q h1067q => ?_)
          clear h1065q a1064q
          refine WT.take 14 (listed' := #[true, true, true, true, true, true, true, true, true, true, true, true, true, true, true, false, false, false, false, false, false, false, false, false]) h1067q rfl rfl (by kernel_rfl) rfl rfl (.bool (!decide (r630q = 0))) (fun _ _ => by kernel_rfl) ⟨(fun _ _ hk_ => hS1038q.kn hk_), trivial⟩ (fun _ _ _ h_ => h_) (fun a1068q h1069q => ?_)
          clear h1067q a1066q
          by_cases c1070q : r630q = 0
          · rw [if_pos c1070q] at H
            have hb_ : (decide (r630q = 0)) = true := decide_eq_true c1070q
            try rw [hb_] at h1069q
            clear hb_
            refine WT.take 15 (listed' := #[true, true, true, true, true, true, true, true, true, true, true, true, true, true, true, true, false, false, false, false, false, false, false, false]) h1069q rfl rfl (by kernel_rfl) rfl rfl (.string (mkS r629q)) (fun _ _ => by kernel_rfl) ⟨(fun _ _ hk_ => hS1038q.kn hk_), trivial⟩ (fun _ _ _ h_ => h_) (fun a1071q h1072q => ?_)
            clear h1069q a1068q
            refine WT.take 18 (listed' := #[true, true, true, true, true, true, true, true, true, true, true, true, true, true, true, true, false, false, true, false, false, false, false, false]) h1072q rfl rfl (by kernel_rfl) rfl rfl (.slice A0 p0.length c0) (fun _ _ => by kernel_rfl) ⟨(fun _ _ hk_ => hS1038q.kn hk_), trivial⟩ (fun _ _ _ h_ => h_) (fun a1073q h1074q => ?_)
            clear h1072q a1071q
            refine WT.take 19 (listed' := #[true, true, true, true, true, true, true, true, true, true, true, true, true, true, true, true, false, false, true, true, false, false, false, false]) h1074q rfl rfl (by kernel_rfl) rfl rfl (.string (mkS (toS p0))) (fun w_ hs_ => (run_tostr rfl rfl hp0 hs_.1 Tryd.underlying33 Tryd.underlying5 Tryd.underlying9)) ⟨(fun _ _ hk_ => hS1038q.kn hk_), trivial⟩ (fun _ _ _ h_ => h_) (fun a1075q h1076q => ?_)
            clear h1074q a1073q
            obtain ⟨r1078q, A1077q, H⟩ := bind1 H
            refine WT.op 16 (listed' := #[true, true, true, true, true, true, true, true, true, true, true, true, true, true, true, true, true, false, true, true, false, false, false, false]) h1076q rfl (by kernel_rfl) rfl rfl ?_
            refine owp_call [.string (mkS r629q)] h1076q rfl (by kernel_rfl) rfl Tryd.func13 (by kernel_rfl) rfl (by kernel_rfl) (huffman_Encode.calls k hg0 A1077q hS1038q) (fun e1080q W1079q hp1081q => ?_)
            obtain ⟨v1084q, M1085q, rfl, hr1086q, hS1087q⟩ := hp1081q
            refine ⟨_, rfl, fun a1082q h1083q => ?_⟩
            clear h1076q a1075q
            obtain ⟨A1088q, c1089q, rfl⟩ := hr1086q.form
            refine ⟨.inr ⟨(fun _ _ hk_ => hS1087q.kn hk_), trivial⟩, ?_⟩
            refine WT.op 17 (listed' := #[true, true, true, true, true, true, true, true, true, true, true, true, true, true, true, true, true, true, true, true, false, false, false, false]) h1083q rfl (by kernel_rfl) rfl rfl ?_
            refine owp_run (v := .string (mkS (toS r1078q))) h1083q rfl (by kernel_rfl) (run_tostr rfl rfl hr1086q.rds (fun _ _ hk_ => (hS1087q).pool.kn hk_) Tryd.underlying33 Tryd.underlying5 Tryd.underlying9) (fun a1090q h1091q => ?_)
            clear h1083q a1082q
            refine ⟨.inr ⟨(fun _ _ hk_ => hS1087q.kn hk_), trivial⟩, ?_⟩
            refine WT.take 20 (listed' := #[true, true, true, true, true, true, true, true, true, true, true, true, true, true, true, true, true, true, true, true, true, false, false, false]) h1091q rfl rfl (by kernel_rfl) rfl rfl (.bool (decide ((toS r1078q) = (toS p0)))) (fun w_ hs_ => (run_streq rfl rfl rfl)) ⟨(fun _ _ hk_ => hS1087q.kn hk_), trivial⟩ (fun _ _ _ h_ => h_) (fun a1092q h1093q => ?_)
            clear h1091q a1090q
            refine WT.take 21 (listed' := #[true, true, true, true, true, true, true, true, true, true, true, true, true, true, true, true, true, true, true, true, true, true, false, false]) h1093q rfl rfl (by kernel_rfl) rfl rfl (.bool (decide ((toS r1078q) = (toS p0)))) (fun _ _ => by kernel_rfl) ⟨(fun _ _ hk_ => hS1087q.kn hk_), trivial⟩ (fun _ _ _ h_ => h_) (fun a1094q h1095q => ?_)
            clear h1093q a1092q
            refine WT.take 22 (listed' := #[true, true, true, true, true, true, true, true, true, true, true, true, true, true, true, true, true, true, true, true, true, true, true, false]) h1095q rfl rfl (by kernel_rfl) rfl rfl (.bool (decide ((toS r1078q) = (toS p0)))) (fun _ _ => by kernel_rfl) ⟨(fun _ _ hk_ => hS1087q.kn hk_), trivial⟩ (fun _ _ _ h_ => h_) (fun a1096q h1097q => ?_)
            clear h1095q a1094q
            refine WT.take 23 (listed' := #[true, true, true, true, true, true, true, true, true, true, true, true, true, true, true, true, true, true, true, true, true, true, true, true]) h1097q rfl rfl (by kernel_rfl) rfl rfl (.bool (decide ((toS r1078q) = (toS p0)))) (fun _ _ => by kernel_rfl) ⟨(fun _ _ hk_ => hS1087q.kn hk_), trivial⟩ (fun _ _ _ h_ => h_) (fun a1098q h1099q => ?_)
            clear h1097q a1096q
            refine WT.done (by kernel_rfl) ?_
            refine wp_ret ?_
            have hS1100q : St b w0 W1079q R (Fs) := hS1087q.drop_
            obtain rfl := Option.some.inj H
            repeat (first | refine then_ret ?_ | refine inBlock_ret ?_ | refine inBlock_go ?_)
            refine body_ret (v := .bool (decide ((toS r1078q) = (toS p0)))) h1099q (by kernel_rfl) (by kernel_rfl) ?_
            exact ⟨rfl, hS1100q⟩
          · rw [if_neg c1070q] at H
            have hb_ : (decide (r630q = 0)) = false := decide_eq_false c1070q
            try rw [hb_] at h1069q
            clear hb_
            refine WT.skip 15 (listed' := #[true, true, true, true, true, true, true, true, true, true, true, true, true, true, true, true, false, false, false, false, false, false, false, false]) h1069q rfl rfl (by kernel_rfl) rfl rfl ⟨(fun _ _ hk_ => hS1038q.kn hk_), trivial⟩ (fun _ _ _ h_ => h_) (fun a1101q h1102q => ?_)
            clear h1069q a1068q
            refine WT.skip 16 (listed' := #[true, true, true, true, true, true, true, true, true, true, true, true, true, true, true, true, true, false, false, false, false, false, false, false]) h1102q rfl rfl (by kernel_rfl) rfl rfl ⟨(fun _ _ hk_ => hS1038q.kn hk_), trivial⟩ (fun _ _ _ h_ => h_) (fun a1103q h1104q => ?_)
            clear h1102q a1101q
            refine WT.skip 17 (listed' := #[true, true, true, true, true, true, true, true, true, true, true, true, true, true, true, true, true, true, false, false, false, false, false, false]) h1104q rfl rfl (by kernel_rfl) rfl rfl ⟨(fun _ _ hk_ => hS1038q.kn hk_), trivial⟩ (fun _ _ _ h_ => h_) (fun a1105q h1106q => ?_)
            clear h1104q a1103q
            refine WT.skip 18 (listed' := #[true, true, true, true, true, true, true, true, true, true, true, true, true, true, true, true, true, true, true, false, false, false, false, false]) h1106q rfl rfl (by kernel_rfl) rfl rfl ⟨(fun _ _ hk_ => hS1038q.kn hk_), trivial⟩ (fun _ _ _ h_ => h_) (fun a1107q h1108q => ?_)
            clear h1106q a1105q
            refine WT.skip 19 (listed' := #[true, true, true, true, true, true, true, true, true, true, true, true, true, true, true, true, true, true, true, true, false, false, false, false]) h1108q rfl rfl (by kernel_rfl) rfl rfl ⟨(fun _ _ hk_ => hS1038q.kn hk_), trivial⟩ (fun _ _ _ h_ => h_) (fun a1109q h1110q => ?_)
            clear h1108q a1107q
            refine WT.skip 20 (listed' := #[true, true, true, true, true, true, true, true, true, true, true, true, true, true, true, true, true, true, true, true, true, false, false, false]) h1110q rfl rfl (by kernel_rfl) rfl rfl ⟨(fun _ _ hk_ => hS1038q.kn hk_), trivial⟩ (fun _ _ _ h_ => h_) (fun a1111q h1112q => ?_)
            clear h1110q a1109q
            refine WT.take 21 (listed' := #[true, true, true, true, true, true, true, true, true, true, true, true, true, true, true, true, true, true, true, true, true, true, false, false]) h1112q rfl rfl (by kernel_rfl) rfl rfl (.bool true) (fun _ _ => by kernel_rfl) ⟨(fun _ _ hk_ => hS1038q.kn hk_), trivial⟩ (fun _ _ _ h_ => h_) (fun a1113q h1114q => ?_)
            clear h1112q a1111q
            refine WT.take 22 (listed' := #[true, true, true, true, true, true, true, true, true, true, true, true, true, true, true, true, true, true, true, true, true, true, true, false]) h1114q rfl rfl (by kernel_rfl) rfl rfl (.bool true) (fun _ _ => by kernel_rfl) ⟨(fun _ _ hk_ => hS1038q.kn hk_), trivial⟩ (fun _ _ _ h_ => h_) (fun a1115q h1116q => ?_)
            clear h1114q a1113q
            refine WT.take 23 (listed' := #[true, true, true, true, true, true, true, true, true, true, true, true, true, true, true, true, true, true, true, true, true, true, true, true]) h1116q rfl rfl (by kernel_rfl) rfl rfl (.bool true) (fun _ _ => by kernel_rfl) ⟨(fun _ _ hk_ => hS1038q.kn hk_), trivial⟩ (fun _ _ _ h_ => h_) (fun a1117q h1118q => ?_)
            clear h1116q a1115q
            refine WT.done (by kernel_rfl) ?_
            refine wp_ret ?_
            obtain rfl := Option.some.inj H
            repeat (first | refine then_ret ?_ | refine inBlock_ret ?_ | refine inBlock_go ?_)
            refine body_ret (v := .bool true) h1118q (by kernel_rfl) (by kernel_rfl) ?_
            exact ⟨rfl, hS1038q⟩
        · rw [if_neg c1063q] at H
          have hb_ : (decide (r630q = r643q)) = false := decide_eq_false c1063q
          try rw [hb_] at h1062q
          clear hb_
          refine WT.skip 12 (listed' := #[true, true, true, true, true, true, true, true, true, true, true, true, true, false, false, false, false, false, false, false, false, false, false, false]) h1062q rfl rfl (by kernel_rfl) rfl rfl ⟨(fun _ _ hk_ => hS1038q.kn hk_), trivial⟩ (fun _ _ _ h_ => h_) (fun a1119q h1120q => ?_)
          clear h1062q a1061q
          refine WT.skip 13 (listed' := #[true, true, true, true, true, true, true, true, true, true, true, true, true, true, false, false, false, false, false, false, false, false, false, false]) h1120q rfl rfl (by kernel_rfl) rfl rfl ⟨(fun _ _ hk_ => hS1038q.kn hk_), trivial⟩ (fun _ _ _ h_ => h_) (fun a1121q h1122q => ?_)
          clear h1120q a1119q
          refine WT.skip 14 (listed' := #[true, true, true, true, true, true, true, true, true, true, true, true, true, true, true, false, false, false, false, false, false, false, false, false]) h1122q rfl rfl (by kernel_rfl) rfl rfl ⟨(fun _ _ hk_ => hS1038q.kn hk_), trivial⟩ (fun _ _ _ h_ => h_) (fun a1123q h1124q => ?_)
          clear h1122q a1121q
          refine WT.skip 15 (listed' := #[true, true, true, true, true, true, true, true, true, true, true, true, true, true, true, true, false, false, false, false, false, false, false, false]) h1124q rfl rfl (by kernel_rfl) rfl rfl ⟨(fun _ _ hk_ => hS1038q.kn hk_), trivial⟩ (fun _ _ _ h_ => h_) (fun a1125q h1126q => ?_)
          clear h1124q a1123q
          refine WT.skip 16 (listed' := #[true, true, true, true, true, true, true, true, true, true, true, true, true, true, true, true, true, false, false, false, false, false, false, false]) h1126q rfl rfl (by kernel_rfl) rfl rfl ⟨(fun _ _ hk_ => hS1038q.kn hk_), trivial⟩ (fun _ _ _ h_ => h_) (fun a1127q h1128q => ?_)
          clear h1126q a1125q
          refine WT.skip 17 (listed' := #[true, true, true, true, true, true, true, true, true, true, true, true, true, true, true, true, true, true, false, false, false, false, false, false]) h1128q rfl rfl (by kernel_rfl) rfl rfl ⟨(fun _ _ hk_ => hS1038q.kn hk_), trivial⟩ (fun _ _ _ h_ => h_) (fun a1129q h1130q => ?_)
          clear h1128q a1127q
          refine WT.skip 18 (listed' := #[true, true, true, true, true, true, true, true, true, true, true, true, true, true, true, true, true, true, true, false, false, false, false, false]) h1130q rfl rfl (by kernel_rfl) rfl rfl ⟨(fun _ _ hk_ => hS1038q.kn hk_), trivial⟩ (fun _ _ _ h_ => h_) (fun a1131q h1132q => ?_)
          clear h1130q a1129q
          refine WT.skip 19 (listed' := #[true, true, true, true, true, true, true, true, true, true, true, true, true, true, true, true, true, true, true, true, false, false, false, false]) h1132q rfl rfl (by kernel_rfl) rfl rfl ⟨(fun _ _ hk_ => hS1038q.kn hk_), trivial⟩ (fun _ _ _ h_ => h_) (fun a1133q h1134q => ?_)
          clear h1132q a1131q
          refine WT.skip 20 (listed' := #[true, true, true, true, true, true, true, true, true, true, true, true, true, true, true, true, true, true, true, true, true, false, false, false]) h1134q rfl rfl (by kernel_rfl) rfl rfl ⟨(fun _ _ hk_ => hS1038q.kn hk_), trivial⟩ (fun _ _ _ h_ => h_) (fun a1135q h1136q => ?_)
          clear h1134q a1133q
          refine WT.skip 21 (listed' := #[true, true, true, true, true, true, true, true, true, true, true, true, true, true, true, true, true, true, true, true, true, true, false, false]) h1136q rfl rfl (by kernel_rfl) rfl rfl ⟨(fun _ _ hk_ => hS1038q.kn hk_), trivial⟩ (fun _ _ _ h_ => h_) (fun a1137q h1138q => ?_)
          clear h1136q a1135q
          refine WT.take 22 (listed' := #[true, true, true, true, true, true, true, true, true, true, true, true, true, true, true, true, true, true, true, true, true, true, true, false]) h1138q rfl rfl (by kernel_rfl) rfl rfl (.bool false) (fun _ _ => by kernel_rfl) ⟨(fun _ _ hk_ => hS1038q.kn hk_), trivial⟩ (fun _ _ _ h_ => h_) (fun a1139q h1140q => ?_)
          clear h1138q a1137q
          refine WT.take 23 (listed' := #[true, true, true, true, true, true, true, true, true, true, true, true, true, true, true, true, true, true, true, true, true, true, true, true]) h1140q rfl rfl (by kernel_rfl) rfl rfl (.bool false) (fun _ _ => by kernel_rfl) ⟨(fun _ _ hk_ => hS1038q.kn hk_), trivial⟩ (fun _ _ _ h_ => h_) (fun a1141q h1142q => ?_)
          clear h1140q a1139q
          refine WT.done (by kernel_rfl) ?_
          refine wp_ret ?_
          obtain rfl := Option.some.inj H
          repeat (first | refine then_ret ?_ | refine inBlock_ret ?_ | refine inBlock_go ?_)
          refine body_ret (v := .bool false) h1142q (by kernel_rfl) (by kernel_rfl) ?_
          exact ⟨rfl, hS1038q⟩
      · rw [if_neg c1052q] at H
        have hb_ : (decide (r629q = r642q)) = false := decide_eq_false c1052q
        try rw [hb_] at h1051q
        clear hb_
        refine WT.skip 7 (listed' := #[true, true, true, true, true, true, true, true, false, false, false, false, false, false, false, false, false, false, false, false, false, false, false, false]) h1051q rfl rfl (by kernel_rfl) rfl rfl ⟨(fun _ _ hk_ => hS1038q.kn hk_), trivial⟩ (fun _ _ _ h_ => h_) (fun a1143q h1144q => ?_)
        clear h1051q a1050q
        refine WT.skip 8 (listed' := #[true, true, true, true, true, true, true, true, true, false, false, false, false, false, false, false, false, false, false, false, false, false, false, false]) h1144q rfl rfl (by kernel_rfl) rfl rfl ⟨(fun _ _ hk_ => hS1038q.kn hk_), trivial⟩ (fun _ _ _ h_ => h_) (fun a1145q h1146q => ?_)
        clear h1144q a1143q
        refine WT.skip 9 (listed' := #[true, true, true, true, true, true, true, true, true, true, false, false, false, false, false, false, false, false, false, false, false, false, false, false]) h1146q rfl rfl (by kernel_rfl) rfl rfl ⟨(fun _ _ hk_ => hS1038q.kn hk_), trivial⟩ (fun _ _ _ h_ => h_) (fun a1147q h1148q => ?_)
        clear h1146q a1145q
        refine WT.take 10 (listed' := #[true, true, true, true, true, true, true, true, true, true, true, false, false, false, false, false, false, false, false, false, false, false, false, false]) h1148q rfl rfl (by kernel_rfl) rfl rfl (.bool false) (fun _ _ => by kernel_rfl) ⟨(fun _ _ hk_ => hS1038q.kn hk_), trivial⟩ (fun _ _ _ h_ => h_) (fun a1149q h1150q => ?_)
        clear h1148q a1147q
        refine WT.take 11 (listed' := #[true, true, true, true, true, true, true, true, true, true, true, true, false, false, false, false, false, false, false, false, false, false, false, false]) h1150q rfl rfl (by kernel_rfl) rfl rfl (.bool false) (fun _ _ => by kernel_rfl) ⟨(fun _ _ hk_ => hS1038q.kn hk_), trivial⟩ (fun _ _ _ h_ => h_) (fun a1151q h1152q => ?_)
        clear h1150q a1149q
        refine WT.skip 12 (listed' := #[true, true, true, true, true, true, true, true, true, true, true, true, true, false, false, false, false, false, false, false, false, false, false, false]) h1152q rfl rfl (by kernel_rfl) rfl rfl ⟨(fun _ _ hk_ => hS1038q.kn hk_), trivial⟩ (fun _ _ _ h_ => h_) (fun a1153q h1154q => ?_)
        clear h1152q a1151q
        refine WT.skip 13 (listed' := #[true, true, true, true, true, true, true, true, true, true, true, true, true, true, false, false, false, false, false, false, false, false, false, false]) h1154q rfl rfl (by kernel_rfl) rfl rfl ⟨(fun _ _ hk_ => hS1038q.kn hk_), trivial⟩ (fun _ _ _ h_ => h_) (fun a1155q h1156q => ?_)
        clear h1154q a1153q
        refine WT.skip 14 (listed' := #[true, true, true, true, true, true, true, true, true, true, true, true, true, true, true, false, false, false, false, false, false, false, false, false]) h1156q rfl rfl (by kernel_rfl) rfl rfl ⟨(fun _ _ hk_ => hS1038q.kn hk_), trivial⟩ (fun _ _ _ h_ => h_) (fun a1157q h1158q => ?_)
        clear h1156q a1155q
        refine WT.skip 15 (listed' := #[true, true, true, true, true, true, true, true, true, true, true, true, true, true, true, true, false, false, false, false, false, false, false, false]) h1158q rfl rfl (by kernel_rfl) rfl rfl ⟨(fun _ _ hk_ => hS1038q.kn hk_), trivial⟩ (fun _ _ _ h_ => h_) (fun a1159q h1160q => ?_)
        clear h1158q a1157q
        refine WT.skip 16 (listed' := #[true, true, true, true, true, true, true, true, true, true, true, true, true, true, true, true, true, false, false, false, false, false, false, false]) h1160q rfl rfl (by kernel_rfl) rfl rfl ⟨(fun _ _ hk_ => hS1038q.kn hk_), trivial⟩ (fun _ _ _ h_ => h_) (fun a1161q h1162q => ?_)
        clear h1160q a1159q
        refine WT.skip 17 (listed' := #[true, true, true, true, true, true, true, true, true, true, true, true, true, true, true, true, true, true, false, false, false, false, false, false]) h1162q rfl rfl (by kernel_rfl) rfl rfl ⟨(fun _ _ hk_ => hS1038q.kn hk_), trivial⟩ (fun _ _ _ h_ => h_) (fun a1163q h1164q => ?_)
        clear h1162q a1161q
        refine WT.skip 18 (listed' := #[true, true, true, true, true, true, true, true, true, true, true, true, true, true, true, true, true, true, true, false, false, false, false, false]) h1164q rfl rfl (by kernel_rfl) rfl rfl ⟨(fun _ _ hk_ => hS1038q.kn hk_), trivial⟩ (fun _ _ _ h_ => h_) (fun a1165q h1166q => ?_)
        clear h1164q a1163q
        refine WT.skip 19 (listed' := #[true, true, true, true, true, true, true, true, true, true, true, true, true, true, true, true, true, true, true, true, false, false, false, false]) h1166q rfl rfl (by kernel_rfl) rfl rfl ⟨(fun _ _ hk_ => hS1038q.kn hk_), trivial⟩ (fun _ _ _ h_ => h_) (fun a1167q h1168q => ?_)
        clear h1166q a1165q
        refine WT.skip 20 (listed' := #[true, true, true, true, true, true, true, true, true, true, true, true, true, true, true, true, true, true, true, true, true, false, false, false]) h1168q rfl rfl (by kernel_rfl) rfl rfl ⟨(fun _ _ hk_ => hS1038q.kn hk_), trivial⟩ (fun _ _ _ h_ => h_) (fun a1169q h1170q => ?_)
        clear h1168q a1167q
        refine WT.skip 21 (listed' := #[true, true, true, true, true, true, true, true, true, true, true, true, true, true, true, true, true, true, true, true, true, true, false, false]) h1170q rfl rfl (by kernel_rfl) rfl rfl ⟨(fun _ _ hk_ => hS1038q.kn hk_), trivial⟩ (fun _ _ _ h_ => h_) (fun a1171q h1172q => ?_)
        clear h1170q a1169q
        refine WT.take 22 (listed' := #[true, true, true, true, true, true, true, true, true, true, true, true, true, true, true, true, true, true, true, true, true, true, true, false]) h1172q rfl rfl (by kernel_rfl) rfl rfl (.bool false) (fun _ _ => by kernel_rfl) ⟨(fun _ _ hk_ => hS1038q.kn hk_), trivial⟩ (fun _ _ _ h_ => h_) (fun a1173q h1174q => ?_)
        clear h1172q a1171q
        refine WT.take 23 (listed' := #[true, true, true, true, true, true, true, true, true, true, true, true, true, true, true, true, true, true, true, true, true, true, true, true]) h1174q rfl rfl (by kernel_rfl) rfl rfl (.bool false) (fun _ _ => by kernel_rfl) ⟨(fun _ _ hk_ => hS1038q.kn hk_), trivial⟩ (fun _ _ _ h_ => h_) (fun a1175q h1176q => ?_)
        clear h1174q a1173q
        refine WT.done (by kernel_rfl) ?_
        refine wp_ret ?_
        obtain rfl := Option.some.inj H
        repeat (first | refine then_ret ?_ | refine inBlock_ret ?_ | refine inBlock_go ?_)
        refine body_ret (v := .bool false) h1176q (by kernel_rfl) (by kernel_rfl) ?_
        exact ⟨rfl, hS1038q⟩
    · rw [if_neg c1041q] at H
      have hb_ : r1032q = false := (Bool.eq_false_iff.2 c1041q)
      try rw [hb_] at h1040q
      clear hb_
      refine WT.skip 2 (listed' := #[true, true, true, false, false, false, false, false, false, false, false, false, false, false, false, false, false, false, false, false, false, false, false, false]) h1040q rfl rfl (by kernel_rfl) rfl rfl ⟨(fun _ _ hk_ => hS1038q.kn hk_), trivial⟩ (fun _ _ _ h_ => h_) (fun a1177q h1178q => ?_)
      clear h1040q a1039q
      refine WT.skip 3 (listed' := #[true, true, true, true, false, false, false, false, false, false, false, false, false, false, false, false, false, false, false, false, false, false, false, false]) h1178q rfl rfl (by kernel_rfl) rfl rfl ⟨(fun _ _ hk_ => hS1038q.kn hk_), trivial⟩ (fun _ _ _ h_ => h_) (fun a1179q h1180q => ?_)
      clear h1178q a1177q
      refine WT.skip 4 (listed' := #[true, true, true, true, true, false, false, false, false, false, false, false, false, false, false, false, false, false, false, false, false, false, false, false]) h1180q rfl rfl (by kernel_rfl) rfl rfl ⟨(fun _ _ hk_ => hS1038q.kn hk_), trivial⟩ (fun _ _ _ h_ => h_) (fun a1181q h1182q => ?_)
      clear h1180q a1179q
      refine WT.take 5 (listed' := #[true, true, true, true, true, true, false, false, false, false, false, false, false, false, false, false, false, false, false, false, false, false, false, false]) h1182q rfl rfl (by kernel_rfl) rfl rfl (.bool false) (fun _ _ => by kernel_rfl) ⟨(fun _ _ hk_ => hS1038q.kn hk_), trivial⟩ (fun _ _ _ h_ => h_) (fun a1183q h1184q => ?_)
      clear h1182q a1181q
      refine WT.take 6 (listed' := #[true, true, true, true, true, true, true, false, false, false, false, false, false, false, false, false, false, false, false, false, false, false, false, false]) h1184q rfl rfl (by kernel_rfl) rfl rfl (.bool false) (fun _ _ => by kernel_rfl) ⟨(fun _ _ hk_ => hS1038q.kn hk_), trivial⟩ (fun _ _ _ h_ => h_) (fun a1185q h1186q => ?_)
      clear h1184q a1183q
      refine WT.skip 7 (listed' := #[true, true, true, true, true, true, true, true, false, false, false, false, false, false, false, false, false, false, false, false, false, false, false, false]) h1186q rfl rfl (by kernel_rfl) rfl rfl ⟨(fun _ _ hk_ => hS1038q.kn hk_), trivial⟩ (fun _ _ _ h_ => h_) (fun a1187q h1188q => ?_)
      clear h1186q a1185q
      refine WT.skip 8 (listed' := #[true, true, true, true, true, true, true, true, true, false, false, false, false, false, false, false, false, false, false, false, false, false, false, false]) h1188q rfl rfl (by kernel_rfl) rfl rfl ⟨(fun _ _ hk_ => hS1038q.kn hk_), trivial⟩ (fun _ _ _ h_ => h_) (fun a1189q h1190q => ?_)
      clear h1188q a1187q
      refine WT.skip 9 (listed' := #[true, true, true, true, true, true, true, true, true, true, false, false, false, false, false, false, false, false, false, false, false, false, false, false]) h1190q rfl rfl (by kernel_rfl) rfl rfl ⟨(fun _ _ hk_ => hS1038q.kn hk_), trivial⟩ (fun _ _ _ h_ => h_) (fun a1191q h1192q => ?_)
      clear h1190q a1189q
      refine WT.take 10 (listed' := #[true, true, true, true, true, true, true, true, true, true, true, false, false, false, false, false, false, false, false, false, false, false, false, false]) h1192q rfl rfl (by kernel_rfl) rfl rfl (.bool false) (fun _ _ => by kernel_rfl) ⟨(fun _ _ hk_ => hS1038q.kn hk_), trivial⟩ (fun _ _ _ h_ => h_) (fun a1193q h1194q => ?_)
      clear h1192q a1191q
      refine WT.take 11 (listed' := #[true, true, true, true, true, true, true, true, true, true, true, true, false, false, false, false, false, false, false, false, false, false, false, false]) h1194q rfl rfl (by kernel_rfl) rfl rfl (.bool false) (fun _ _ => by kernel_rfl) ⟨(fun _ _ hk_ => hS1038q.kn hk_), trivial⟩ (fun _ _ _ h_ => h_) (fun a1195q h1196q => ?_)
      clear h1194q a1193q
      refine WT.skip 12 (listed' := #[true, true, true, true, true, true, true, true, true, true, true, true, true, false, false, false, false, false, false, false, false, false, false, false]) h1196q rfl rfl (by kernel_rfl) rfl rfl ⟨(fun _ _ hk_ => hS1038q.kn hk_), trivial⟩ (fun _ _ _ h_ => h_) (fun a1197q h1198q => ?_)
      clear h1196q a1195q
      refine WT.skip 13 (listed' := #[true, true, true, true, true, true, true, true, true, true, true, true, true, true, false, false, false, false, false, false, false, false, false, false]) h1198q rfl rfl (by kernel_rfl) rfl rfl ⟨(fun _ _ hk_ => hS1038q.kn hk_), trivial⟩ (fun _ _ _ h_ => h_) (fun a1199q h1200q => ?_)
      clear h1198q a1197q
      refine WT.skip 14 (listed' := #[true, true, true, true, true, true, true, true, true, true, true, true, true, true, true, false, false, false, false, false, false, false, false, false]) h1200q rfl rfl (by kernel_rfl) rfl rfl ⟨(fun _ _ hk_ => hS1038q.kn hk_), trivial⟩ (fun _ _ _ h_ => h_) (fun a1201q h1202q => ?_)
      clear h1200q a1199q
      refine WT.skip 15 (listed' := #[true, true, true, true, true, true, true, true, true, true, true, true, true, true, true, true, false, false, false, false, false, false, false, false]) h1202q rfl rfl (by kernel_rfl) rfl rfl ⟨(fun _ _ hk_ => hS1038q.kn hk_), trivial⟩ (fun _ _ _ h_ => h_) (fun a1203q h1204q => ?_)
      clear h1202q a1201q
      refine WT.skip 16 (listed' := #[true, true, true, true, true, true, true, true, true, true, true, true, true, true, true, true, true, false, false, false, false, false, false, false]) h1204q rfl rfl (by kernel_rfl) rfl rfl ⟨(fun _ _ hk_ => hS1038q.kn hk_), trivial⟩ (fun _ _ _ h_ => h_) (fun a1205q h1206q => ?_)
      clear h1204q a1203q
      refine WT.skip 17 (listed' := #[true, true, true, true, true, true, true, true, true, true, true, true, true, true, true, true, true, true, false, false, false, false, false, false]) h1206q rfl rfl (by kernel_rfl) rfl rfl ⟨(fun _ _ hk_ => hS1038q.kn hk_), trivial⟩ (fun _ _ _ h_ => h_) (fun a1207q h1208q => ?_)
      clear h1206q a1205q
      refine WT.skip 18 (listed' := #[true, true, true, true, true, true, true, true, true, true, true, true, true, true, true, true, true, true, true, false, false, false, false, false]) h1208q rfl rfl (by kernel_rfl) rfl rfl ⟨(fun _ _ hk_ => hS1038q.kn hk_), trivial⟩ (fun _ _ _ h_ => h_) (fun a1209q h1210q => ?_)
      clear h1208q a1207q
      refine WT.skip 19 (listed' := #[true, true, true, true, true, true, true, true, true, true, true, true, true, true, true, true, true, true, true, true, false, false, false, false]) h1210q rfl rfl (by kernel_rfl) rfl rfl ⟨(fun _ _ hk_ => hS1038q.kn hk_), trivial⟩ (fun _ _ _ h_ => h_) (fun a1211q h1212q => ?_)
      clear h1210q a1209q
      refine WT.skip 20 (listed' := #[true, true, true, true, true, true, true, true, true, true, true, true, true, true, true, true, true, true, true, true, true, false, false, false]) h1212q rfl rfl (by kernel_rfl) rfl rfl ⟨(fun _ _ hk_ => hS1038q.kn hk_), trivial⟩ (fun _ _ _ h_ => h_) (fun a1213q h1214q => ?_)
      clear h1212q a1211q
      refine WT.skip 21 (listed' := #[true, true, true, true, true, true, true, true, true, true, true, true, true, true, true, true, true, true, true, true, true, true, false, false]) h1214q rfl rfl (by kernel_rfl) rfl rfl ⟨(fun _ _ hk_ => hS1038q.kn hk_), trivial⟩ (fun _ _ _ h_ => h_) (fun a1215q h1216q => ?_)
      clear h1214q a1213q
      refine WT.take 22 (listed' := #[true, true, true, true, true, true, true, true, true, true, true, true, true, true, true, true, true, true, true, true, true, true, true, false]) h1216q rfl rfl (by kernel_rfl) rfl rfl (.bool false) (fun _ _ => by kernel_rfl) ⟨(fun _ _ hk_ => hS1038q.kn hk_), trivial⟩ (fun _ _ _ h_ => h_) (fun a1217q h1218q => ?_)
      clear h1216q a1215q
      refine WT.take 23 (listed' := #[true, true, true, true, true, true, true, true, true, true, true, true, true, true, true, true, true, true, true, true, true, true, true, true]) h1218q rfl rfl (by kernel_rfl) rfl rfl (.bool false) (fun _ _ => by kernel_rfl) ⟨(fun _ _ hk_ => hS1038q.kn hk_), trivial⟩ (fun _ _ _ h_ => h_) (fun a1219q h1220q => ?_)
      clear h1218q a1217q
      refine WT.done (by kernel_rfl) ?_
      refine wp_ret ?_
      obtain rfl := Option.some.inj H
      repeat (first | refine then_ret ?_ | refine inBlock_ret ?_ | refine inBlock_go ?_)
      refine body_ret (v := .bool false) h1220q (by kernel_rfl) (by kernel_rfl) ?_
      exact ⟨rfl, hS1038q⟩
end Go.Proofs.YtedfgicbignbmaaDoor.Sl
