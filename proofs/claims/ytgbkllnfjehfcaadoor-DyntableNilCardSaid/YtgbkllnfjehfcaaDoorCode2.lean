/- What the functions of this program compute, told as plain functions, and that the calls come to just that. Printed by this session's program; part 2. -/
import Derived.Test.YtgbkllnfjehfcaaDoorCode1
set_option linter.unusedVariables false
set_option linter.unusedSimpArgs false
set_option linter.unnecessarySimpa false
namespace Go.Proofs.YtgbkllnfjehfcaaDoor.Sl
open Go Go.RowKit Go.Proofs.Sl
/-! ### louver/louverlaw05.DyntableOldest -/
mutual
def louverlaw05qDyntableOldest.l0 : Nat → S51 → Int → Int → Int → (List S29) → Option (Bool)
  | 0, _, _, _, _, _ => none
  | k + 1, x1334q, x1337q, p0, p1, p2 => if x1337q < (p2.length : Int) then (if 0 ≤ x1337q then (bnd1 (dyntable_Table_Add.f k x1334q (⟨(gt z29 p2 x1337q).f0, (gt z29 p2 x1337q).f1, (gt z29 p2 x1337q).f2⟩ : S29)) fun r1371q => (louverlaw05qDyntableOldest.l0 k r1371q (IntKind.i64.wrap (x1337q + 1)) p0 p1 p2)) else (none)) else (bnd1 (dyntable_Table_Len.f x1334q) fun r1387q => (if r1387q > (p2.length : Int) then (some false) else (bnd1 (dyntable_Table_Size.f x1334q) fun r1405q => (bnd1 (dyntable_Table_Limit.f k x1334q (mxI p0 p1)) fun r1419q => (bnd1 (dyntable_Table_Len.f r1419q) fun r1431q => (louverlaw05qDyntableOldest.l1 k 0 p0 p2 r1405q r1419q r1431q))))))
def louverlaw05qDyntableOldest.l1 : Nat → Int → Int → (List S29) → Int → S51 → Int → Option (Bool)
  | 0, _, _, _, _, _, _ => none
  | k + 1, x1449q, p0, p2, r1405q, r1419q, r1431q => if x1449q < r1431q then (bnd2 (dyntable_Table_At.f r1419q (IntKind.i64.wrap (62 + x1449q))) fun r1459q r1460q => (if 0 ≤ (IntKind.i64.wrap ((IntKind.i64.wrap ((p2.length : Int) - 1)) - x1449q)) then (if (IntKind.i64.wrap ((IntKind.i64.wrap ((p2.length : Int) - 1)) - x1449q)) < (p2.length : Int) then (if r1460q = true then (if r1459q.f0 = ((gt z29 p2 (IntKind.i64.wrap ((IntKind.i64.wrap ((p2.length : Int) - 1)) - x1449q))).f0) then (if r1459q.f1 = ((gt z29 p2 (IntKind.i64.wrap ((IntKind.i64.wrap ((p2.length : Int) - 1)) - x1449q))).f1) then (if r1459q.f2 = true then (some false) else (louverlaw05qDyntableOldest.l1 k (IntKind.i64.wrap (x1449q + 1)) p0 p2 r1405q r1419q r1431q)) else (some false)) else (some false)) else (some false)) else (none)) else (none))) else (bnd1 (dyntable_Table_Len.f r1419q) fun r1630q => (bnd1 (dyntable_Table_Limit.f k r1419q 0) fun r1644q => (bnd1 (louverlaw05qfixed.f k) fun r1654q => (if r1654q = true then (bnd1 (dyntable_Table_Len.f r1644q) fun r1667q => (if r1667q = 0 then (bnd1 (dyntable_Table_Size.f r1644q) fun r1684q => (if r1684q = 0 then (if r1405q ≤ (IntKind.i64.wrap p0) then (some ((decide (r1630q = 0)) == (decide (r1405q = 0)))) else (some false)) else (some false))) else (some false))) else (some false)))))
end
def louverlaw05qDyntableOldest.f (k : Nat) (p0 : Int) (p1 : Int) (p2 : (List S29)) : Option (Bool) := bnd1 (louverref05qGreat.f k p2) fun r1265q => (if r1265q = true then (bnd1 (louverlaw05qfixed.f k) fun r1284q => (some r1284q)) else (if (p2.length : Int) > 200 then (bnd1 (louverlaw05qfixed.f k) fun r1303q => (some r1303q)) else (bnd1 (dyntable_New.f p0) fun r1315q => (louverlaw05qDyntableOldest.l0 k r1315q 0 p0 p1 p2))))
set_option maxHeartbeats 2000000 in
set_option maxRecDepth 100000 in
theorem louverlaw05qDyntableOldest.calls (k : Nat) {b : Nat} {w0 W : World} {R : Frag} {Fs : List Frag} {p0 : Int} {p1 : Int} {p2 : (List S29)} {v2 : Value} {r0q : Bool} (hp2 : Rds k29 b w0 R v2 p2) (hg0 : Rds k29 b w0 [] (.slice (some ⟨0, 0, none⟩) 61 61) G0) (H : louverlaw05qDyntableOldest.f k p0 p1 p2 = some r0q) (hS : St b w0 W R (Fs)) :
    Calls Tryd.prog 3 ([.int .u32 p0, .int .u32 p1, v2] : List Value).toArray W (fun e W' => e = .returned (.bool r0q) ∧ St b w0 W' R (Fs)) := by
  obtain ⟨A2, c2, rfl⟩ := hp2.form
  unfold louverlaw05qDyntableOldest.f at H
  refine calls_enter Tryd.func3 rfl 117 rfl (by kernel_rfl) (fun a h => ?_)
  refine wp_seq ?_
  refine WL.start ?_
  refine WL.block (c := 1) (m' := 1) h rfl [(6, .bool false)] (by kernel_rfl) (fun a1260q h1261q => ?_)
  refine WL.done (by kernel_rfl) ?_
  refine wp_seq ?_
  refine wp_seq ?_
  refine WL.start ?_
  refine WL.block (c := 1) (m' := 1) h1261q rfl [(16, .slice A2 p2.length c2)] (by kernel_rfl) (fun a1262q h1263q => ?_)
  clear h1261q a1260q
  obtain ⟨r1265q, A1264q, H⟩ := bind1 H
  refine WL.op' (m := 1) h1263q rfl rfl ?_
  refine owp_call [.slice A2 p2.length c2] h1263q rfl (by kernel_rfl) rfl Tryd.func7 (by kernel_rfl) rfl (by kernel_rfl) (louverref05qGreat.calls k hp2 A1264q hS) (fun e1267q W1266q hp1268q => ?_)
  obtain ⟨rfl, hS1271q⟩ := hp1268q
  refine ⟨_, rfl, fun a1269q h1270q => ?_⟩
  clear h1263q a1262q
  refine WL.block (c := 1) (m' := 3) h1270q rfl [(18, .bool r1265q)] (by kernel_rfl) (fun a1272q h1273q => ?_)
  clear h1270q a1269q
  by_cases c1274q : r1265q = true
  · rw [if_pos c1274q] at H
    have hb_ : r1265q = true := c1274q
    try rw [hb_] at h1273q
    clear hb_
    refine WL.skipped (m := 3) h1273q rfl rfl (by kernel_rfl) rfl (fun a1275q h1276q => ?_)
    clear h1273q a1272q
    refine WL.skipped (m := 4) h1276q rfl rfl (by kernel_rfl) rfl (fun a1277q h1278q => ?_)
    clear h1276q a1275q
    refine WL.skipped (m := 5) h1278q rfl rfl (by kernel_rfl) rfl (fun a1279q h1280q => ?_)
    clear h1278q a1277q
    refine WL.block (c := 1) (m' := 7) h1280q rfl [(22, .bool true)] (by kernel_rfl) (fun a1281q h1282q => ?_)
    clear h1280q a1279q
    refine WL.done (by kernel_rfl) ?_
    refine wp_then h1282q rfl ?_
    refine wp_seq ?_
    refine WL.start ?_
    obtain ⟨r1284q, A1283q, H⟩ := bind1 H
    refine WL.op' (m := 0) h1282q rfl rfl ?_
    refine owp_call [] h1282q rfl (by kernel_rfl) rfl Tryd.func8 (by kernel_rfl) rfl (by kernel_rfl) (louverlaw05qfixed.calls k hg0 A1283q hS1271q) (fun e1286q W1285q hp1287q => ?_)
    obtain ⟨rfl, hS1290q⟩ := hp1287q
    refine ⟨_, rfl, fun a1288q h1289q => ?_⟩
    clear h1282q a1281q
    refine WL.block (c := 1) (m' := 2) h1289q rfl [(6, .bool r1284q)] (by kernel_rfl) (fun a1291q h1292q => ?_)
    clear h1289q a1288q
    refine WL.done (by kernel_rfl) ?_
    refine wp_ret ?_
    obtain rfl := Option.some.inj H
    repeat (first | refine then_ret ?_ | refine inBlock_ret ?_ | refine inBlock_go ?_)
    refine body_ret (v := .bool r1284q) h1292q (by kernel_rfl) (by kernel_rfl) ?_
    exact ⟨rfl, hS1290q⟩
  · rw [if_neg c1274q] at H
    have hb_ : r1265q = false := (Bool.eq_false_iff.2 c1274q)
    try rw [hb_] at h1273q
    clear hb_
    refine WL.op' (m := 3) h1273q rfl rfl (owp_run h1273q rfl (by kernel_rfl) (v := .slice A2 p2.length c2) (by kernel_rfl) (fun a1293q h1294q => ?_))
    clear h1273q a1272q
    refine WL.op' (m := 4) h1294q rfl rfl (owp_run h1294q rfl (by kernel_rfl) (v := .int .i64 (p2.length : Int)) (by kernel_rfl) (fun a1295q h1296q => ?_))
    clear h1294q a1293q
    refine WL.op' (m := 5) h1296q rfl rfl (owp_run h1296q rfl (by kernel_rfl) (v := .bool (decide ((p2.length : Int) > 200))) (by kernel_rfl) (fun a1297q h1298q => ?_))
    clear h1296q a1295q
    refine WL.block (c := 1) (m' := 7) h1298q rfl [(22, .bool (decide ((p2.length : Int) > 200)))] (by kernel_rfl) (fun a1299q h1300q => ?_)
    clear h1298q a1297q
    refine WL.done (by kernel_rfl) ?_
    by_cases c1301q : (p2.length : Int) > 200
    · rw [if_pos c1301q] at H
      have hb_ : (decide ((p2.length : Int) > 200)) = true := decide_eq_true c1301q
      try rw [hb_] at h1300q
      clear hb_
      refine wp_then h1300q rfl ?_
      refine wp_seq ?_
      refine WL.start ?_
      obtain ⟨r1303q, A1302q, H⟩ := bind1 H
      refine WL.op' (m := 0) h1300q rfl rfl ?_
      refine owp_call [] h1300q rfl (by kernel_rfl) rfl Tryd.func8 (by kernel_rfl) rfl (by kernel_rfl) (louverlaw05qfixed.calls k hg0 A1302q hS1271q) (fun e1305q W1304q hp1306q => ?_)
      obtain ⟨rfl, hS1309q⟩ := hp1306q
      refine ⟨_, rfl, fun a1307q h1308q => ?_⟩
      clear h1300q a1299q
      refine WL.block (c := 1) (m' := 2) h1308q rfl [(6, .bool r1303q)] (by kernel_rfl) (fun a1310q h1311q => ?_)
      clear h1308q a1307q
      refine WL.done (by kernel_rfl) ?_
      refine wp_ret ?_
      obtain rfl := Option.some.inj H
      repeat (first | refine then_ret ?_ | refine inBlock_ret ?_ | refine inBlock_go ?_)
      refine body_ret (v := .bool r1303q) h1311q (by kernel_rfl) (by kernel_rfl) ?_
      exact ⟨rfl, hS1309q⟩
    · rw [if_neg c1301q] at H
      have hb_ : (decide ((p2.length : Int) > 200)) = false := decide_eq_false c1301q
      try rw [hb_] at h1300q
      clear hb_
      refine wp_else h1300q rfl ?_
      refine wp_skip ?_
      refine wp_seq ?_
      refine WL.start ?_
      refine WL.block (c := 1) (m' := 1) h1300q rfl [(24, .int .u32 p0)] (by kernel_rfl) (fun a1312q h1313q => ?_)
      clear h1300q a1299q
      obtain ⟨r1315q, A1314q, H⟩ := bind1 H
      refine WL.op' (m := 1) h1313q rfl rfl ?_
      refine owp_call [.int .u32 p0] h1313q rfl (by kernel_rfl) rfl Tryd.func9 (by kernel_rfl) rfl (by kernel_rfl) (dyntable_New.calls  A1314q hS1271q) (fun e1317q W1316q hp1318q => ?_)
      obtain ⟨v1321q, M1322q, rfl, hr1323q, hS1324q⟩ := hp1318q
      refine ⟨_, rfl, fun a1319q h1320q => ?_⟩
      clear h1313q a1312q
      refine WL.block (c := 1) (m' := 3) h1320q rfl [(7, v1321q)] (by kernel_rfl) (fun a1325q h1326q => ?_)
      clear h1320q a1319q
      refine WL.done (by kernel_rfl) ?_
      refine wp_seq ?_
      refine wp_seq ?_
      refine WL.start ?_
      refine WL.block (c := 3) (m' := 3) h1326q rfl [(28, .int .i64 0), (27, .int .i64 (p2.length : Int)), (26, .slice A2 p2.length c2)] (by kernel_rfl) (fun a1327q h1328q => ?_)
      clear h1326q a1325q
      refine WL.done (by kernel_rfl) ?_
      refine wp_block ?_
      refine wp_loop_ghost (fun kq_ a_ W_ => ∃ (x1334q : S51), ∃ (M1335q : Frag), ∃ (x1337q : Int), Hd a_ 117 [(0, .int .u32 p0), (1, .int .u32 p1), (2, .slice A2 p2.length c2), (7, v1321q), (26, .slice A2 p2.length c2), (27, .int .i64 (p2.length : Int)), (28, .int .i64 x1337q)] ∧ Asd (louverlaw05qDyntableOldest.l0 kq_ x1334q x1337q p0 p1 p2 = some r0q) ∧ Asd (kq_ ≤ k) ∧ Asd (St b w0 W_ R (M1335q :: Fs)) ∧ Asd (Ptr k51 51 b w0 R v1321q x1334q M1335q)) k ⟨r1315q, M1322q, 0, h1328q.keep ⟨rfl, rfl, rfl, rfl, rfl, rfl, rfl, trivial⟩, ⟨H⟩, ⟨Nat.le_refl _⟩, ⟨hS1324q⟩, ⟨hr1323q⟩⟩ ?_
      clear H hS1324q
      rintro k1333q a1330q W1331q ⟨x1334q, M1335q, x1337q, h1329q, ⟨H⟩, ⟨hkk1333q⟩, ⟨hS1332q⟩, ⟨hr1336q⟩⟩
      obtain _ | k1338q := k1333q
      · exact absurd H (by simp [louverlaw05qDyntableOldest.l0])
      simp only [louverlaw05qDyntableOldest.l0] at H
      refine wp_seq ?_
      refine WL.start ?_
      refine WL.block (c := 1) (m' := 1) h1329q rfl [(29, .bool (decide (x1337q < (p2.length : Int))))] (by kernel_rfl) (fun a1339q h1340q => ?_)
      clear h1329q a1330q
      refine WL.done (by kernel_rfl) ?_
      refine wp_seq ?_
      by_cases c1341q : x1337q < (p2.length : Int)
      · rw [if_pos c1341q] at H
        have hb_ : (decide (x1337q < (p2.length : Int))) = true := decide_eq_true c1341q
        try rw [hb_] at h1340q
        clear hb_
        refine wp_then h1340q rfl ?_
        refine wp_skip ?_
        refine wp_seq ?_
        refine wp_block ?_
        refine wp_seq ?_
        refine WL.start ?_
        by_cases c1342q : 0 ≤ x1337q
        · rw [if_pos c1342q] at H
          have hi1345q : 0 ≤ x1337q := by first | assumption | omega
          have hi1346q : x1337q < (p2.length : Int) := by first | assumption | omega
          obtain ⟨ad1343q, _, ha1344q, -, -⟩ := Rds.elemAny hp2 hi1345q (gt_get (z := z29) hi1345q hi1346q)
          refine WL.op' (m := 0) h1340q rfl rfl ?_
          refine owp_run (v := .pointer (some (ad1343q.add (x1337q.toNat * 3)))) h1340q rfl (by kernel_rfl) (run_idx (ad := ad1343q) (sz := 3) rfl (by rw [← ha1344q]; rfl) rfl Tryd.underlying23 (by kernel_rfl) hi1345q hi1346q) (fun a1347q h1348q => ?_)
          clear h1340q a1339q
          obtain ⟨ad1349q, cs1350q, ha1351q, hr1353q, hc1352q⟩ := Rds.elemAny hp2 hi1345q (gt_get (z := z29) hi1345q hi1346q)
          rw [ha1344q] at ha1351q; obtain rfl := Option.some.inj ha1351q
          obtain rfl := k29qrd hr1353q
          refine WL.op' (m := 1) h1348q rfl rfl ?_
          refine owp_run (v := .agg #[.string (mkS ((gt z29 p2 x1337q).f0)), .string (mkS ((gt z29 p2 x1337q).f1)), .bool ((gt z29 p2 x1337q).f2)]) h1348q rfl (by kernel_rfl) (run_loadN rfl rfl Tryd.underlying29 rfl (cs := ([.string (mkS ((gt z29 p2 x1337q).f0)), .string (mkS ((gt z29 p2 x1337q).f1)), .bool ((gt z29 p2 x1337q).f2)] : List Value)) (by kernel_rfl) (hc1352q _ (fun _ _ hk_ => hS1332q.kn hk_))) (fun a1354q h1355q => ?_)
          clear h1348q a1347q
          refine WL.op' (m := 2) h1355q rfl rfl ?_
          refine owp_new (fun g_ => .pointer (some ⟨g_, 0, none⟩)) (.cells ([.string (mkS ([] : List UInt8)), .string (mkS ([] : List UInt8)), .bool false] : List Value).toArray 29 (0, 0)) h1355q rfl (by kernel_rfl) (by kernel_rfl) hS1332q (fun a1356q W1358q g1359q h1357q hS1360q => ?_)
          clear h1355q a1354q
          refine WL.op' (m := 3) h1357q rfl rfl ?_
          refine owp_store (i := 0) (vs := ([.string (mkS ((gt z29 p2 x1337q).f0)), .string (mkS ((gt z29 p2 x1337q).f1)), .bool ((gt z29 p2 x1337q).f2)] : List Value)) h1357q rfl (by kernel_rfl) rfl rfl rfl rfl (by simp [Value.oneCell']) (by kernel_rfl) hS1360q (by simp) (cs' := ([.string (mkS ((gt z29 p2 x1337q).f0)), .string (mkS ((gt z29 p2 x1337q).f1)), .bool ((gt z29 p2 x1337q).f2)] : List Value)) rfl (fun a1361q W1363q h1362q hS1364q => ?_)
          clear h1357q a1356q
          refine WL.done (by kernel_rfl) ?_
          refine WL.start ?_
          refine WL.block (c := 1) (m' := 1) h1362q rfl [(32, v1321q)] (by kernel_rfl) (fun a1365q h1366q => ?_)
          clear h1362q a1361q
          refine WL.op' (m := 1) h1366q rfl rfl ?_
          refine owp_run (v := .agg #[.string (mkS ((gt z29 p2 x1337q).f0)), .string (mkS ((gt z29 p2 x1337q).f1)), .bool ((gt z29 p2 x1337q).f2)]) h1366q rfl (by kernel_rfl) (run_loadN rfl rfl Tryd.underlying29 rfl (cs := ([.string (mkS ((gt z29 p2 x1337q).f0)), .string (mkS ((gt z29 p2 x1337q).f1)), .bool ((gt z29 p2 x1337q).f2)] : List Value)) (by kernel_rfl) (hS1364q.cells (vs := ([.string (mkS ((gt z29 p2 x1337q).f0)), .string (mkS ((gt z29 p2 x1337q).f1)), .bool ((gt z29 p2 x1337q).f2)] : List Value)) rfl)) (fun a1367q h1368q => ?_)
          clear h1366q a1365q
          have hS1369q : St b w0 W1363q R (M1335q :: [(g1359q, .cells ([.string (mkS ((gt z29 p2 x1337q).f0)), .string (mkS ((gt z29 p2 x1337q).f1)), .bool ((gt z29 p2 x1337q).f2)] : List Value).toArray 29 (0, 0))] :: Fs) := hS1364q.bring 1 rfl rfl
          obtain ⟨r1371q, A1370q, H⟩ := bind1 H
          refine WL.op' (m := 2) h1368q rfl rfl ?_
          refine owp_call [v1321q, .agg #[.string (mkS ((gt z29 p2 x1337q).f0)), .string (mkS ((gt z29 p2 x1337q).f1)), .bool ((gt z29 p2 x1337q).f2)]] h1368q rfl (by kernel_rfl) rfl Tryd.func10 (by kernel_rfl) rfl (by kernel_rfl) (dyntable_Table_Add.calls (p1 := (⟨(gt z29 p2 x1337q).f0, (gt z29 p2 x1337q).f1, (gt z29 p2 x1337q).f2⟩ : S29)) k1338q hr1336q A1370q hS1369q) (fun e1373q W1372q hp1374q => ?_)
          obtain ⟨M1377q, rfl, hr1378q, hS1379q⟩ := hp1374q
          refine ⟨_, rfl, fun a1375q h1376q => ?_⟩
          clear h1368q a1367q
          refine WL.done (by kernel_rfl) ?_
          refine WL.start ?_
          refine WL.block (c := 2) (m' := 2) h1376q rfl [(28, .int .i64 (IntKind.i64.wrap (x1337q + 1))), (35, .int .i64 (IntKind.i64.wrap (x1337q + 1)))] (by kernel_rfl) (fun a1380q h1381q => ?_)
          clear h1376q a1375q
          refine WL.done (by kernel_rfl) ?_
          have hS1382q : St b w0 W1372q R ([(g1359q, .cells ([.string (mkS ((gt z29 p2 x1337q).f0)), .string (mkS ((gt z29 p2 x1337q).f1)), .bool ((gt z29 p2 x1337q).f2)] : List Value).toArray 29 (0, 0))] :: M1377q :: Fs) := hS1379q.bring 1 rfl rfl
          have hS1383q : St b w0 W1372q R (M1377q :: Fs) := hS1382q.drop_
          exact ⟨k1338q, by omega, r1371q, M1377q, IntKind.i64.wrap (x1337q + 1), h1381q.keep ⟨rfl, rfl, rfl, rfl, rfl, rfl, rfl, trivial⟩, ⟨H⟩, ⟨by omega⟩, ⟨hS1383q⟩, ⟨hr1378q⟩⟩
        · rw [if_neg c1342q] at H
          cases H
      · rw [if_neg c1341q] at H
        have hb_ : (decide (x1337q < (p2.length : Int))) = false := decide_eq_false c1341q
        try rw [hb_] at h1340q
        clear hb_
        refine wp_else h1340q rfl ?_
        refine wp_exit ?_
        refine wp_seq ?_
        refine wp_seq ?_
        refine WL.start ?_
        refine WL.block (c := 1) (m' := 1) h1340q rfl [(36, v1321q)] (by kernel_rfl) (fun a1384q h1385q => ?_)
        clear h1340q a1339q
        obtain ⟨r1387q, A1386q, H⟩ := bind1 H
        refine WL.op' (m := 1) h1385q rfl rfl ?_
        refine owp_call [v1321q] h1385q rfl (by kernel_rfl) rfl Tryd.func11 (by kernel_rfl) rfl (by kernel_rfl) (dyntable_Table_Len.calls hr1336q A1386q hS1332q) (fun e1389q W1388q hp1390q => ?_)
        obtain ⟨M1393q, rfl, hr1394q, hS1395q⟩ := hp1390q
        refine ⟨_, rfl, fun a1391q h1392q => ?_⟩
        clear h1385q a1384q
        refine WL.block (c := 3) (m' := 5) h1392q rfl [(40, .bool (decide (r1387q > (p2.length : Int)))), (39, .int .i64 (p2.length : Int)), (38, .slice A2 p2.length c2)] (by kernel_rfl) (fun a1396q h1397q => ?_)
        clear h1392q a1391q
        refine WL.done (by kernel_rfl) ?_
        by_cases c1398q : r1387q > (p2.length : Int)
        · rw [if_pos c1398q] at H
          have hb_ : (decide (r1387q > (p2.length : Int))) = true := decide_eq_true c1398q
          try rw [hb_] at h1397q
          clear hb_
          refine wp_then h1397q rfl ?_
          refine wp_seq ?_
          refine WL.start ?_
          refine WL.block (c := 1) (m' := 1) h1397q rfl [(6, .bool false)] (by kernel_rfl) (fun a1399q h1400q => ?_)
          clear h1397q a1396q
          refine WL.done (by kernel_rfl) ?_
          refine wp_ret ?_
          have hS1401q : St b w0 W1388q R (Fs) := hS1395q.drop_
          obtain rfl := Option.some.inj H
          repeat (first | refine then_ret ?_ | refine inBlock_ret ?_ | refine inBlock_go ?_)
          refine body_ret (v := .bool false) h1400q (by kernel_rfl) (by kernel_rfl) ?_
          exact ⟨rfl, hS1401q⟩
        · rw [if_neg c1398q] at H
          have hb_ : (decide (r1387q > (p2.length : Int))) = false := decide_eq_false c1398q
          try rw [hb_] at h1397q
          clear hb_
          refine wp_else h1397q rfl ?_
          refine wp_skip ?_
          refine wp_seq ?_
          refine WL.start ?_
          refine WL.block (c := 1) (m' := 1) h1397q rfl [(41, v1321q)] (by kernel_rfl) (fun a1402q h1403q => ?_)
          clear h1397q a1396q
          obtain ⟨r1405q, A1404q, H⟩ := bind1 H
          refine WL.op' (m := 1) h1403q rfl rfl ?_
          refine owp_call [v1321q] h1403q rfl (by kernel_rfl) rfl Tryd.func12 (by kernel_rfl) rfl (by kernel_rfl) (dyntable_Table_Size.calls hr1394q A1404q hS1395q) (fun e1407q W1406q hp1408q => ?_)
          obtain ⟨M1411q, rfl, hr1412q, hS1413q⟩ := hp1408q
          refine ⟨_, rfl, fun a1409q h1410q => ?_⟩
          clear h1403q a1402q
          refine WL.block (c := 1) (m' := 3) h1410q rfl [(10, .int .i64 r1405q)] (by kernel_rfl) (fun a1414q h1415q => ?_)
          clear h1410q a1409q
          refine WL.done (by kernel_rfl) ?_
          refine wp_seq ?_
          refine WL.start ?_
          refine WL.block (c := 4) (m' := 4) h1415q rfl [(46, .int .u32 (mxI p0 p1)), (45, .int .u32 p1), (44, .int .u32 p0), (43, v1321q)] (by kernel_rfl) (fun a1416q h1417q => ?_)
          clear h1415q a1414q
          obtain ⟨r1419q, A1418q, H⟩ := bind1 H
          refine WL.op' (m := 4) h1417q rfl rfl ?_
          refine owp_call [v1321q, .int .u32 (mxI p0 p1)] h1417q rfl (by kernel_rfl) rfl Tryd.func13 (by kernel_rfl) rfl (by kernel_rfl) (dyntable_Table_Limit.calls k1338q hr1412q A1418q hS1413q) (fun e1421q W1420q hp1422q => ?_)
          obtain ⟨M1425q, rfl, hr1426q, hS1427q⟩ := hp1422q
          refine ⟨_, rfl, fun a1423q h1424q => ?_⟩
          clear h1417q a1416q
          refine WL.done (by kernel_rfl) ?_
          refine wp_seq ?_
          refine wp_seq ?_
          refine WL.start ?_
          refine WL.block (c := 1) (m' := 1) h1424q rfl [(48, v1321q)] (by kernel_rfl) (fun a1428q h1429q => ?_)
          clear h1424q a1423q
          obtain ⟨r1431q, A1430q, H⟩ := bind1 H
          refine WL.op' (m := 1) h1429q rfl rfl ?_
          refine owp_call [v1321q] h1429q rfl (by kernel_rfl) rfl Tryd.func11 (by kernel_rfl) rfl (by kernel_rfl) (dyntable_Table_Len.calls hr1426q A1430q hS1427q) (fun e1433q W1432q hp1434q => ?_)
          obtain ⟨M1437q, rfl, hr1438q, hS1439q⟩ := hp1434q
          refine ⟨_, rfl, fun a1435q h1436q => ?_⟩
          clear h1429q a1428q
          refine WL.block (c := 1) (m' := 3) h1436q rfl [(50, .int .i64 0)] (by kernel_rfl) (fun a1440q h1441q => ?_)
          clear h1436q a1435q
          refine WL.done (by kernel_rfl) ?_
          refine wp_block ?_
          refine wp_loop_ghost (fun kq_ a_ W_ => ∃ (M1447q : Frag), ∃ (x1449q : Int), Hd a_ 117 [(0, .int .u32 p0), (2, .slice A2 p2.length c2), (7, v1321q), (10, .int .i64 r1405q), (49, .int .i64 r1431q), (50, .int .i64 x1449q)] ∧ Asd (louverlaw05qDyntableOldest.l1 kq_ x1449q p0 p2 r1405q r1419q r1431q = some r0q) ∧ Asd (kq_ ≤ k1338q) ∧ Asd (St b w0 W_ R (M1447q :: Fs)) ∧ Asd (Ptr k51 51 b w0 R v1321q r1419q M1447q)) k1338q ⟨M1437q, 0, h1441q.keep ⟨rfl, rfl, rfl, rfl, rfl, rfl, trivial⟩, ⟨H⟩, ⟨Nat.le_refl _⟩, ⟨hS1439q⟩, ⟨hr1438q⟩⟩ ?_
          clear H hS1439q
          rintro k1446q a1443q W1444q ⟨M1447q, x1449q, h1442q, ⟨H⟩, ⟨hkk1446q⟩, ⟨hS1445q⟩, ⟨hr1448q⟩⟩
          obtain _ | k1450q := k1446q
          · exact absurd H (by simp [louverlaw05qDyntableOldest.l1])
          simp only [louverlaw05qDyntableOldest.l1] at H
          refine wp_seq ?_
          refine WL.start ?_
          refine WL.block (c := 1) (m' := 1) h1442q rfl [(51, .bool (decide (x1449q < r1431q)))] (by kernel_rfl) (fun a1451q h1452q => ?_)
          clear h1442q a1443q
          refine WL.done (by kernel_rfl) ?_
          refine wp_seq ?_
          by_cases c1453q : x1449q < r1431q
          · rw [if_pos c1453q] at H
            have hb_ : (decide (x1449q < r1431q)) = true := decide_eq_true c1453q
            try rw [hb_] at h1452q
            clear hb_
            refine wp_then h1452q rfl ?_
            refine wp_skip ?_
            refine wp_seq ?_
            refine wp_block ?_
            refine wp_seq ?_
            refine WL.start ?_
            refine WL.block (c := 2) (m' := 2) h1452q rfl [(11, .int .i64 x1449q), (52, .int .i64 x1449q)] (by kernel_rfl) (fun a1454q h1455q => ?_)
            clear h1452q a1451q
            refine WL.done (by kernel_rfl) ?_
            refine wp_seq ?_
            refine WL.start ?_
            refine WL.block (c := 3) (m' := 3) h1455q rfl [(56, .int .i64 (IntKind.i64.wrap (62 + x1449q))), (55, .int .i64 x1449q), (54, v1321q)] (by kernel_rfl) (fun a1456q h1457q => ?_)
            clear h1455q a1454q
            obtain ⟨r1459q, r1460q, A1458q, H⟩ := bind2 H
            refine WL.op' (m := 3) h1457q rfl rfl ?_
            refine owp_call [v1321q, .int .i64 (IntKind.i64.wrap (62 + x1449q))] h1457q rfl (by kernel_rfl) rfl Tryd.func14 (by kernel_rfl) rfl (by kernel_rfl) (dyntable_Table_At.calls hr1448q hg0 A1458q hS1445q) (fun e1462q W1461q hp1463q => ?_)
            obtain ⟨M1466q, rfl, hr1467q, hS1468q⟩ := hp1463q
            refine ⟨_, rfl, fun a1464q h1465q => ?_⟩
            clear h1457q a1456q
            refine WL.block (c := 3) (m' := 7) h1465q rfl [(59, .bool r1460q), (58, .agg #[.string (mkS r1459q.f0), .string (mkS r1459q.f1), .bool r1459q.f2]), (53, .tuple #[.agg #[.string (mkS r1459q.f0), .string (mkS r1459q.f1), .bool r1459q.f2], .bool r1460q])] (by kernel_rfl) (fun a1469q h1470q => ?_)
            clear h1465q a1464q
            refine WL.op' (m := 7) h1470q rfl rfl ?_
            refine owp_new (fun g_ => .pointer (some ⟨g_, 0, none⟩)) (.cells ([.string (mkS ([] : List UInt8)), .string (mkS ([] : List UInt8)), .bool false] : List Value).toArray 29 (0, 0)) h1470q rfl (by kernel_rfl) (by kernel_rfl) hS1468q (fun a1471q W1473q g1474q h1472q hS1475q => ?_)
            clear h1470q a1469q
            refine WL.op' (m := 8) h1472q rfl rfl ?_
            refine owp_store (i := 0) (vs := ([.string (mkS r1459q.f0), .string (mkS r1459q.f1), .bool r1459q.f2] : List Value)) h1472q rfl (by kernel_rfl) rfl rfl rfl rfl (by simp [Value.oneCell']) (by kernel_rfl) hS1475q (by simp) (cs' := ([.string (mkS r1459q.f0), .string (mkS r1459q.f1), .bool r1459q.f2] : List Value)) rfl (fun a1476q W1478q h1477q hS1479q => ?_)
            clear h1472q a1471q
            refine WL.block (c := 1) (m' := 10) h1477q rfl [(13, .bool r1460q)] (by kernel_rfl) (fun a1480q h1481q => ?_)
            clear h1477q a1476q
            refine WL.done (by kernel_rfl) ?_
            refine wp_seq ?_
            refine WL.start ?_
            refine WL.block (c := 6) (m' := 6) h1481q rfl [(65, .int .i64 (IntKind.i64.wrap ((IntKind.i64.wrap ((p2.length : Int) - 1)) - x1449q))), (64, .int .i64 x1449q), (63, .int .i64 (IntKind.i64.wrap ((p2.length : Int) - 1))), (62, .int .i64 (p2.length : Int)), (61, .slice A2 p2.length c2), (60, .slice A2 p2.length c2)] (by kernel_rfl) (fun a1482q h1483q => ?_)
            clear h1481q a1480q
            by_cases c1484q : 0 ≤ (IntKind.i64.wrap ((IntKind.i64.wrap ((p2.length : Int) - 1)) - x1449q))
            · rw [if_pos c1484q] at H
              by_cases c1485q : (IntKind.i64.wrap ((IntKind.i64.wrap ((p2.length : Int) - 1)) - x1449q)) < (p2.length : Int)
              · rw [if_pos c1485q] at H
                have hi1488q : 0 ≤ IntKind.i64.wrap ((IntKind.i64.wrap ((p2.length : Int) - 1)) - x1449q) := by first | assumption | omega
                have hi1489q : (IntKind.i64.wrap ((IntKind.i64.wrap ((p2.length : Int) - 1)) - x1449q)) < (p2.length : Int) := by first | assumption | omega
                obtain ⟨ad1486q, _, ha1487q, -, -⟩ := Rds.elemAny hp2 hi1488q (gt_get (z := z29) hi1488q hi1489q)
                refine WL.op' (m := 6) h1483q rfl rfl ?_
                refine owp_run (v := .pointer (some (ad1486q.add ((IntKind.i64.wrap ((IntKind.i64.wrap ((p2.length : Int) - 1)) - x1449q)).toNat * 3)))) h1483q rfl (by kernel_rfl) (run_idx (ad := ad1486q) (sz := 3) rfl (by rw [← ha1487q]; rfl) rfl Tryd.underlying23 (by kernel_rfl) hi1488q hi1489q) (fun a1490q h1491q => ?_)
                clear h1483q a1482q
                obtain ⟨ad1492q, cs1493q, ha1494q, hr1496q, hc1495q⟩ := Rds.elemAny hp2 hi1488q (gt_get (z := z29) hi1488q hi1489q)
                rw [ha1487q] at ha1494q; obtain rfl := Option.some.inj ha1494q
                obtain rfl := k29qrd hr1496q
                refine WL.op' (m := 7) h1491q rfl rfl ?_
                refine owp_run (v := .agg #[.string (mkS ((gt z29 p2 (IntKind.i64.wrap ((IntKind.i64.wrap ((p2.length : Int) - 1)) - x1449q))).f0)), .string (mkS ((gt z29 p2 (IntKind.i64.wrap ((IntKind.i64.wrap ((p2.length : Int) - 1)) - x1449q))).f1)), .bool ((gt z29 p2 (IntKind.i64.wrap ((IntKind.i64.wrap ((p2.length : Int) - 1)) - x1449q))).f2)]) h1491q rfl (by kernel_rfl) (run_loadN rfl rfl Tryd.underlying29 rfl (cs := ([.string (mkS ((gt z29 p2 (IntKind.i64.wrap ((IntKind.i64.wrap ((p2.length : Int) - 1)) - x1449q))).f0)), .string (mkS ((gt z29 p2 (IntKind.i64.wrap ((IntKind.i64.wrap ((p2.length : Int) - 1)) - x1449q))).f1)), .bool ((gt z29 p2 (IntKind.i64.wrap ((IntKind.i64.wrap ((p2.length : Int) - 1)) - x1449q))).f2)] : List Value)) (by kernel_rfl) (hc1495q _ (fun _ _ hk_ => hS1479q.kn hk_))) (fun a1497q h1498q => ?_)
                clear h1491q a1490q
                refine WL.op' (m := 8) h1498q rfl rfl ?_
                refine owp_new (fun g_ => .pointer (some ⟨g_, 0, none⟩)) (.cells ([.string (mkS ([] : List UInt8)), .string (mkS ([] : List UInt8)), .bool false] : List Value).toArray 29 (0, 0)) h1498q rfl (by kernel_rfl) (by kernel_rfl) hS1479q (fun a1499q W1501q g1502q h1500q hS1503q => ?_)
                clear h1498q a1497q
                refine WL.op' (m := 9) h1500q rfl rfl ?_
                refine owp_store (i := 0) (vs := ([.string (mkS ((gt z29 p2 (IntKind.i64.wrap ((IntKind.i64.wrap ((p2.length : Int) - 1)) - x1449q))).f0)), .string (mkS ((gt z29 p2 (IntKind.i64.wrap ((IntKind.i64.wrap ((p2.length : Int) - 1)) - x1449q))).f1)), .bool ((gt z29 p2 (IntKind.i64.wrap ((IntKind.i64.wrap ((p2.length : Int) - 1)) - x1449q))).f2)] : List Value)) h1500q rfl (by kernel_rfl) rfl rfl rfl rfl (by simp [Value.oneCell']) (by kernel_rfl) hS1503q (by simp) (cs' := ([.string (mkS ((gt z29 p2 (IntKind.i64.wrap ((IntKind.i64.wrap ((p2.length : Int) - 1)) - x1449q))).f0)), .string (mkS ((gt z29 p2 (IntKind.i64.wrap ((IntKind.i64.wrap ((p2.length : Int) - 1)) - x1449q))).f1)), .bool ((gt z29 p2 (IntKind.i64.wrap ((IntKind.i64.wrap ((p2.length : Int) - 1)) - x1449q))).f2)] : List Value)) rfl (fun a1504q W1506q h1505q hS1507q => ?_)
                clear h1500q a1499q
                refine WL.done (by kernel_rfl) ?_
                refine wp_seq ?_
                refine WL.start ?_
                refine WL.block (c := 3) (m' := 3) h1505q rfl [(70, .bool (!r1460q)), (69, .bool (!r1460q)), (68, .bool r1460q)] (by kernel_rfl) (fun a1508q h1509q => ?_)
                clear h1505q a1504q
                by_cases c1510q : r1460q = true
                · rw [if_pos c1510q] at H
                  have hb_ : r1460q = true := c1510q
                  try rw [hb_] at h1509q
                  clear hb_
                  refine WL.op' (m := 3) h1509q rfl rfl (owp_run h1509q rfl (by kernel_rfl) (v := .pointer (some ⟨g1474q, 0, none⟩)) (by kernel_rfl) (fun a1511q h1512q => ?_))
                  clear h1509q a1508q
                  have hS1513q : St b w0 W1506q R ([(g1474q, .cells ([.string (mkS r1459q.f0), .string (mkS r1459q.f1), .bool r1459q.f2] : List Value).toArray 29 (0, 0))] :: [(g1502q, .cells ([.string (mkS ((gt z29 p2 (IntKind.i64.wrap ((IntKind.i64.wrap ((p2.length : Int) - 1)) - x1449q))).f0)), .string (mkS ((gt z29 p2 (IntKind.i64.wrap ((IntKind.i64.wrap ((p2.length : Int) - 1)) - x1449q))).f1)), .bool ((gt z29 p2 (IntKind.i64.wrap ((IntKind.i64.wrap ((p2.length : Int) - 1)) - x1449q))).f2)] : List Value).toArray 29 (0, 0))] :: M1466q :: Fs) := hS1507q.bring 1 rfl rfl
                  refine WL.op' (m := 4) h1512q rfl rfl ?_
                  refine owp_run (v := .string (mkS r1459q.f0)) h1512q rfl (by kernel_rfl) (run_load1 rfl rfl Tryd.underlying9 rfl (hS1513q.cell (i := 0) rfl)) (fun a1514q h1515q => ?_)
                  clear h1512q a1511q
                  refine WL.op' (m := 5) h1515q rfl rfl (owp_run h1515q rfl (by kernel_rfl) (v := .pointer (some ⟨g1502q, 0, none⟩)) (by kernel_rfl) (fun a1516q h1517q => ?_))
                  clear h1515q a1514q
                  have hS1518q : St b w0 W1506q R ([(g1502q, .cells ([.string (mkS ((gt z29 p2 (IntKind.i64.wrap ((IntKind.i64.wrap ((p2.length : Int) - 1)) - x1449q))).f0)), .string (mkS ((gt z29 p2 (IntKind.i64.wrap ((IntKind.i64.wrap ((p2.length : Int) - 1)) - x1449q))).f1)), .bool ((gt z29 p2 (IntKind.i64.wrap ((IntKind.i64.wrap ((p2.length : Int) - 1)) - x1449q))).f2)] : List Value).toArray 29 (0, 0))] :: [(g1474q, .cells ([.string (mkS r1459q.f0), .string (mkS r1459q.f1), .bool r1459q.f2] : List Value).toArray 29 (0, 0))] :: M1466q :: Fs) := hS1513q.bring 1 rfl rfl
                  refine WL.op' (m := 6) h1517q rfl rfl ?_
                  refine owp_run (v := .string (mkS ((gt z29 p2 (IntKind.i64.wrap ((IntKind.i64.wrap ((p2.length : Int) - 1)) - x1449q))).f0))) h1517q rfl (by kernel_rfl) (run_load1 rfl rfl Tryd.underlying9 rfl (hS1518q.cell (i := 0) rfl)) (fun a1519q h1520q => ?_)
                  clear h1517q a1516q
                  refine WL.op' (m := 7) h1520q rfl rfl ?_
                  refine owp_run (v := .bool (!decide (r1459q.f0 = ((gt z29 p2 (IntKind.i64.wrap ((IntKind.i64.wrap ((p2.length : Int) - 1)) - x1449q))).f0)))) h1520q rfl (by kernel_rfl) (run_strne rfl rfl rfl) (fun a1521q h1522q => ?_)
                  clear h1520q a1519q
                  refine WL.block (c := 2) (m' := 10) h1522q rfl [(77, .bool (!decide (r1459q.f0 = ((gt z29 p2 (IntKind.i64.wrap ((IntKind.i64.wrap ((p2.length : Int) - 1)) - x1449q))).f0)))), (76, .bool (!decide (r1459q.f0 = ((gt z29 p2 (IntKind.i64.wrap ((IntKind.i64.wrap ((p2.length : Int) - 1)) - x1449q))).f0))))] (by kernel_rfl) (fun a1523q h1524q => ?_)
                  clear h1522q a1521q
                  by_cases c1525q : r1459q.f0 = ((gt z29 p2 (IntKind.i64.wrap ((IntKind.i64.wrap ((p2.length : Int) - 1)) - x1449q))).f0)
                  · rw [if_pos c1525q] at H
                    have hb_ : (decide (r1459q.f0 = ((gt z29 p2 (IntKind.i64.wrap ((IntKind.i64.wrap ((p2.length : Int) - 1)) - x1449q))).f0))) = true := decide_eq_true c1525q
                    try rw [hb_] at h1524q
                    clear hb_
                    refine WL.op' (m := 10) h1524q rfl rfl (owp_run h1524q rfl (by kernel_rfl) (v := .pointer (some ⟨g1474q, 1, none⟩)) (by kernel_rfl) (fun a1526q h1527q => ?_))
                    clear h1524q a1523q
                    have hS1528q : St b w0 W1506q R ([(g1474q, .cells ([.string (mkS r1459q.f0), .string (mkS r1459q.f1), .bool r1459q.f2] : List Value).toArray 29 (0, 0))] :: [(g1502q, .cells ([.string (mkS ((gt z29 p2 (IntKind.i64.wrap ((IntKind.i64.wrap ((p2.length : Int) - 1)) - x1449q))).f0)), .string (mkS ((gt z29 p2 (IntKind.i64.wrap ((IntKind.i64.wrap ((p2.length : Int) - 1)) - x1449q))).f1)), .bool ((gt z29 p2 (IntKind.i64.wrap ((IntKind.i64.wrap ((p2.length : Int) - 1)) - x1449q))).f2)] : List Value).toArray 29 (0, 0))] :: M1466q :: Fs) := hS1518q.bring 1 rfl rfl
                    refine WL.op' (m := 11) h1527q rfl rfl ?_
                    refine owp_run (v := .string (mkS r1459q.f1)) h1527q rfl (by kernel_rfl) (run_load1 rfl rfl Tryd.underlying9 rfl (hS1528q.cell (i := 1) rfl)) (fun a1529q h1530q => ?_)
                    clear h1527q a1526q
                    refine WL.op' (m := 12) h1530q rfl rfl (owp_run h1530q rfl (by kernel_rfl) (v := .pointer (some ⟨g1502q, 1, none⟩)) (by kernel_rfl) (fun a1531q h1532q => ?_))
                    clear h1530q a1529q
                    have hS1533q : St b w0 W1506q R ([(g1502q, .cells ([.string (mkS ((gt z29 p2 (IntKind.i64.wrap ((IntKind.i64.wrap ((p2.length : Int) - 1)) - x1449q))).f0)), .string (mkS ((gt z29 p2 (IntKind.i64.wrap ((IntKind.i64.wrap ((p2.length : Int) - 1)) - x1449q))).f1)), .bool ((gt z29 p2 (IntKind.i64.wrap ((IntKind.i64.wrap ((p2.length : Int) - 1)) - x1449q))).f2)] : List Value).toArray 29 (0, 0))] :: [(g1474q, .cells ([.string (mkS r1459q.f0), .string (mkS r1459q.f1), .bool r1459q.f2] : List Value).toArray 29 (0, 0))] :: M1466q :: Fs) := hS1528q.bring 1 rfl rfl
                    refine WL.op' (m := 13) h1532q rfl rfl ?_
                    refine owp_run (v := .string (mkS ((gt z29 p2 (IntKind.i64.wrap ((IntKind.i64.wrap ((p2.length : Int) - 1)) - x1449q))).f1))) h1532q rfl (by kernel_rfl) (run_load1 rfl rfl Tryd.underlying9 rfl (hS1533q.cell (i := 1) rfl)) (fun a1534q h1535q => ?_)
                    clear h1532q a1531q
                    refine WL.op' (m := 14) h1535q rfl rfl ?_
                    refine owp_run (v := .bool (!decide (r1459q.f1 = ((gt z29 p2 (IntKind.i64.wrap ((IntKind.i64.wrap ((p2.length : Int) - 1)) - x1449q))).f1)))) h1535q rfl (by kernel_rfl) (run_strne rfl rfl rfl) (fun a1536q h1537q => ?_)
                    clear h1535q a1534q
                    refine WL.block (c := 2) (m' := 17) h1537q rfl [(84, .bool (!decide (r1459q.f1 = ((gt z29 p2 (IntKind.i64.wrap ((IntKind.i64.wrap ((p2.length : Int) - 1)) - x1449q))).f1)))), (83, .bool (!decide (r1459q.f1 = ((gt z29 p2 (IntKind.i64.wrap ((IntKind.i64.wrap ((p2.length : Int) - 1)) - x1449q))).f1))))] (by kernel_rfl) (fun a1538q h1539q => ?_)
                    clear h1537q a1536q
                    by_cases c1540q : r1459q.f1 = ((gt z29 p2 (IntKind.i64.wrap ((IntKind.i64.wrap ((p2.length : Int) - 1)) - x1449q))).f1)
                    · rw [if_pos c1540q] at H
                      have hb_ : (decide (r1459q.f1 = ((gt z29 p2 (IntKind.i64.wrap ((IntKind.i64.wrap ((p2.length : Int) - 1)) - x1449q))).f1))) = true := decide_eq_true c1540q
                      try rw [hb_] at h1539q
                      clear hb_
                      refine WL.op' (m := 17) h1539q rfl rfl (owp_run h1539q rfl (by kernel_rfl) (v := .pointer (some ⟨g1474q, 2, none⟩)) (by kernel_rfl) (fun a1541q h1542q => ?_))
                      clear h1539q a1538q
                      have hS1543q : St b w0 W1506q R ([(g1474q, .cells ([.string (mkS r1459q.f0), .string (mkS r1459q.f1), .bool r1459q.f2] : List Value).toArray 29 (0, 0))] :: [(g1502q, .cells ([.string (mkS ((gt z29 p2 (IntKind.i64.wrap ((IntKind.i64.wrap ((p2.length : Int) - 1)) - x1449q))).f0)), .string (mkS ((gt z29 p2 (IntKind.i64.wrap ((IntKind.i64.wrap ((p2.length : Int) - 1)) - x1449q))).f1)), .bool ((gt z29 p2 (IntKind.i64.wrap ((IntKind.i64.wrap ((p2.length : Int) - 1)) - x1449q))).f2)] : List Value).toArray 29 (0, 0))] :: M1466q :: Fs) := hS1533q.bring 1 rfl rfl
                      refine WL.op' (m := 18) h1542q rfl rfl ?_
                      refine owp_run (v := .bool r1459q.f2) h1542q rfl (by kernel_rfl) (run_load1 rfl rfl Tryd.underlying4 rfl (hS1543q.cell (i := 2) rfl)) (fun a1544q h1545q => ?_)
                      clear h1542q a1541q
                      refine WL.block (c := 1) (m' := 20) h1545q rfl [(87, .bool r1459q.f2)] (by kernel_rfl) (fun a1546q h1547q => ?_)
                      clear h1545q a1544q
                      refine WL.done (by kernel_rfl) ?_
                      by_cases c1548q : r1459q.f2 = true
                      · rw [if_pos c1548q] at H
                        have hb_ : r1459q.f2 = true := c1548q
                        try rw [hb_] at h1547q
                        clear hb_
                        refine wp_then h1547q rfl ?_
                        refine wp_seq ?_
                        refine WL.start ?_
                        refine WL.block (c := 1) (m' := 1) h1547q rfl [(6, .bool false)] (by kernel_rfl) (fun a1549q h1550q => ?_)
                        clear h1547q a1546q
                        refine WL.done (by kernel_rfl) ?_
                        refine wp_ret ?_
                        have hS1551q : St b w0 W1506q R ([(g1502q, .cells ([.string (mkS ((gt z29 p2 (IntKind.i64.wrap ((IntKind.i64.wrap ((p2.length : Int) - 1)) - x1449q))).f0)), .string (mkS ((gt z29 p2 (IntKind.i64.wrap ((IntKind.i64.wrap ((p2.length : Int) - 1)) - x1449q))).f1)), .bool ((gt z29 p2 (IntKind.i64.wrap ((IntKind.i64.wrap ((p2.length : Int) - 1)) - x1449q))).f2)] : List Value).toArray 29 (0, 0))] :: M1466q :: Fs) := hS1543q.drop_
                        have hS1552q : St b w0 W1506q R (M1466q :: Fs) := hS1551q.drop_
                        have hS1553q : St b w0 W1506q R (Fs) := hS1552q.drop_
                        obtain rfl := Option.some.inj H
                        repeat (first | refine then_ret ?_ | refine inBlock_ret ?_ | refine inBlock_go ?_)
                        refine body_ret (v := .bool false) h1550q (by kernel_rfl) (by kernel_rfl) ?_
                        exact ⟨rfl, hS1553q⟩
                      · rw [if_neg c1548q] at H
                        have hb_ : r1459q.f2 = false := (Bool.eq_false_iff.2 c1548q)
                        try rw [hb_] at h1547q
                        clear hb_
                        refine wp_else h1547q rfl ?_
                        refine wp_skip ?_
                        refine WL.start ?_
                        refine WL.block (c := 2) (m' := 2) h1547q rfl [(50, .int .i64 (IntKind.i64.wrap (x1449q + 1))), (88, .int .i64 (IntKind.i64.wrap (x1449q + 1)))] (by kernel_rfl) (fun a1554q h1555q => ?_)
                        clear h1547q a1546q
                        refine WL.done (by kernel_rfl) ?_
                        have hS1556q : St b w0 W1506q R ([(g1502q, .cells ([.string (mkS ((gt z29 p2 (IntKind.i64.wrap ((IntKind.i64.wrap ((p2.length : Int) - 1)) - x1449q))).f0)), .string (mkS ((gt z29 p2 (IntKind.i64.wrap ((IntKind.i64.wrap ((p2.length : Int) - 1)) - x1449q))).f1)), .bool ((gt z29 p2 (IntKind.i64.wrap ((IntKind.i64.wrap ((p2.length : Int) - 1)) - x1449q))).f2)] : List Value).toArray 29 (0, 0))] :: M1466q :: Fs) := hS1543q.drop_
                        have hS1557q : St b w0 W1506q R (M1466q :: Fs) := hS1556q.drop_
                        exact ⟨k1450q, by omega, M1466q, IntKind.i64.wrap (x1449q + 1), h1555q.keep ⟨rfl, rfl, rfl, rfl, rfl, rfl, trivial⟩, ⟨H⟩, ⟨by omega⟩, ⟨hS1557q⟩, ⟨hr1467q⟩⟩
                    · rw [if_neg c1540q] at H
                      have hb_ : (decide (r1459q.f1 = ((gt z29 p2 (IntKind.i64.wrap ((IntKind.i64.wrap ((p2.length : Int) - 1)) - x1449q))).f1))) = false := decide_eq_false c1540q
                      try rw [hb_] at h1539q
                      clear hb_
                      refine WL.skipped (m := 17) h1539q rfl rfl (by kernel_rfl) rfl (fun a1558q h1559q => ?_)
                      clear h1539q a1538q
                      refine WL.skipped (m := 18) h1559q rfl rfl (by kernel_rfl) rfl (fun a1560q h1561q => ?_)
                      clear h1559q a1558q
                      refine WL.block (c := 1) (m' := 20) h1561q rfl [(87, .bool true)] (by kernel_rfl) (fun a1562q h1563q => ?_)
                      clear h1561q a1560q
                      refine WL.done (by kernel_rfl) ?_
                      refine wp_then h1563q rfl ?_
                      refine wp_seq ?_
                      refine WL.start ?_
                      refine WL.block (c := 1) (m' := 1) h1563q rfl [(6, .bool false)] (by kernel_rfl) (fun a1564q h1565q => ?_)
                      clear h1563q a1562q
                      refine WL.done (by kernel_rfl) ?_
                      refine wp_ret ?_
                      have hS1566q : St b w0 W1506q R ([(g1474q, .cells ([.string (mkS r1459q.f0), .string (mkS r1459q.f1), .bool r1459q.f2] : List Value).toArray 29 (0, 0))] :: M1466q :: Fs) := hS1533q.drop_
                      have hS1567q : St b w0 W1506q R (M1466q :: Fs) := hS1566q.drop_
                      have hS1568q : St b w0 W1506q R (Fs) := hS1567q.drop_
                      obtain rfl := Option.some.inj H
                      repeat (first | refine then_ret ?_ | refine inBlock_ret ?_ | refine inBlock_go ?_)
                      refine body_ret (v := .bool false) h1565q (by kernel_rfl) (by kernel_rfl) ?_
                      exact ⟨rfl, hS1568q⟩
                  · rw [if_neg c1525q] at H
                    have hb_ : (decide (r1459q.f0 = ((gt z29 p2 (IntKind.i64.wrap ((IntKind.i64.wrap ((p2.length : Int) - 1)) - x1449q))).f0))) = false := decide_eq_false c1525q
                    try rw [hb_] at h1524q
                    clear hb_
                    refine WL.skipped (m := 10) h1524q rfl rfl (by kernel_rfl) rfl (fun a1569q h1570q => ?_)
                    clear h1524q a1523q
                    refine WL.skipped (m := 11) h1570q rfl rfl (by kernel_rfl) rfl (fun a1571q h1572q => ?_)
                    clear h1570q a1569q
                    refine WL.skipped (m := 12) h1572q rfl rfl (by kernel_rfl) rfl (fun a1573q h1574q => ?_)
                    clear h1572q a1571q
                    refine WL.skipped (m := 13) h1574q rfl rfl (by kernel_rfl) rfl (fun a1575q h1576q => ?_)
                    clear h1574q a1573q
                    refine WL.skipped (m := 14) h1576q rfl rfl (by kernel_rfl) rfl (fun a1577q h1578q => ?_)
                    clear h1576q a1575q
                    refine WL.block (c := 2) (m' := 17) h1578q rfl [(84, .bool true), (83, .bool true)] (by kernel_rfl) (fun a1579q h1580q => ?_)
                    clear h1578q a1577q
                    refine WL.skipped (m := 17) h1580q rfl rfl (by kernel_rfl) rfl (fun a1581q h1582q => ?_)
                    clear h1580q a1579q
                    refine WL.skipped (m := 18) h1582q rfl rfl (by kernel_rfl) rfl (fun a1583q h1584q => ?_)
                    clear h1582q a1581q
                    refine WL.block (c := 1) (m' := 20) h1584q rfl [(87, .bool true)] (by kernel_rfl) (fun a1585q h1586q => ?_)
                    clear h1584q a1583q
                    refine WL.done (by kernel_rfl) ?_
                    refine wp_then h1586q rfl ?_
                    refine wp_seq ?_
                    refine WL.start ?_
                    refine WL.block (c := 1) (m' := 1) h1586q rfl [(6, .bool false)] (by kernel_rfl) (fun a1587q h1588q => ?_)
                    clear h1586q a1585q
                    refine WL.done (by kernel_rfl) ?_
                    refine wp_ret ?_
                    have hS1589q : St b w0 W1506q R ([(g1474q, .cells ([.string (mkS r1459q.f0), .string (mkS r1459q.f1), .bool r1459q.f2] : List Value).toArray 29 (0, 0))] :: M1466q :: Fs) := hS1518q.drop_
                    have hS1590q : St b w0 W1506q R (M1466q :: Fs) := hS1589q.drop_
                    have hS1591q : St b w0 W1506q R (Fs) := hS1590q.drop_
                    obtain rfl := Option.some.inj H
                    repeat (first | refine then_ret ?_ | refine inBlock_ret ?_ | refine inBlock_go ?_)
                    refine body_ret (v := .bool false) h1588q (by kernel_rfl) (by kernel_rfl) ?_
                    exact ⟨rfl, hS1591q⟩
                · rw [if_neg c1510q] at H
                  have hb_ : r1460q = false := (Bool.eq_false_iff.2 c1510q)
                  try rw [hb_] at h1509q
                  clear hb_
                  refine WL.skipped (m := 3) h1509q rfl rfl (by kernel_rfl) rfl (fun a1592q h1593q => ?_)
                  clear h1509q a1508q
                  refine WL.skipped (m := 4) h1593q rfl rfl (by kernel_rfl) rfl (fun a1594q h1595q => ?_)
                  clear h1593q a1592q
                  refine WL.skipped (m := 5) h1595q rfl rfl (by kernel_rfl) rfl (fun a1596q h1597q => ?_)
                  clear h1595q a1594q
                  refine WL.skipped (m := 6) h1597q rfl rfl (by kernel_rfl) rfl (fun a1598q h1599q => ?_)
                  clear h1597q a1596q
                  refine WL.skipped (m := 7) h1599q rfl rfl (by kernel_rfl) rfl (fun a1600q h1601q => ?_)
                  clear h1599q a1598q
                  refine WL.block (c := 2) (m' := 10) h1601q rfl [(77, .bool true), (76, .bool true)] (by kernel_rfl) (fun a1602q h1603q => ?_)
                  clear h1601q a1600q
                  refine WL.skipped (m := 10) h1603q rfl rfl (by kernel_rfl) rfl (fun a1604q h1605q => ?_)
                  clear h1603q a1602q
                  refine WL.skipped (m := 11) h1605q rfl rfl (by kernel_rfl) rfl (fun a1606q h1607q => ?_)
                  clear h1605q a1604q
                  refine WL.skipped (m := 12) h1607q rfl rfl (by kernel_rfl) rfl (fun a1608q h1609q => ?_)
                  clear h1607q a1606q
                  refine WL.skipped (m := 13) h1609q rfl rfl (by kernel_rfl) rfl (fun a1610q h1611q => ?_)
                  clear h1609q a1608q
                  refine WL.skipped (m := 14) h1611q rfl rfl (by kernel_rfl) rfl (fun a1612q h1613q => ?_)
                  clear h1611q a1610q
                  refine WL.block (c := 2) (m' := 17) h1613q rfl [(84, .bool true), (83, .bool true)] (by kernel_rfl) (fun a1614q h1615q => ?_)
                  clear h1613q a1612q
                  refine WL.skipped (m := 17) h1615q rfl rfl (by kernel_rfl) rfl (fun a1616q h1617q => ?_)
                  clear h1615q a1614q
                  refine WL.skipped (m := 18) h1617q rfl rfl (by kernel_rfl) rfl (fun a1618q h1619q => ?_)
                  clear h1617q a1616q
                  refine WL.block (c := 1) (m' := 20) h1619q rfl [(87, .bool true)] (by kernel_rfl) (fun a1620q h1621q => ?_)
                  clear h1619q a1618q
                  refine WL.done (by kernel_rfl) ?_
                  refine wp_then h1621q rfl ?_
                  refine wp_seq ?_
                  refine WL.start ?_
                  refine WL.block (c := 1) (m' := 1) h1621q rfl [(6, .bool false)] (by kernel_rfl) (fun a1622q h1623q => ?_)
                  clear h1621q a1620q
                  refine WL.done (by kernel_rfl) ?_
                  refine wp_ret ?_
                  have hS1624q : St b w0 W1506q R ([(g1474q, .cells ([.string (mkS r1459q.f0), .string (mkS r1459q.f1), .bool r1459q.f2] : List Value).toArray 29 (0, 0))] :: M1466q :: Fs) := hS1507q.drop_
                  have hS1625q : St b w0 W1506q R (M1466q :: Fs) := hS1624q.drop_
                  have hS1626q : St b w0 W1506q R (Fs) := hS1625q.drop_
                  obtain rfl := Option.some.inj H
                  repeat (first | refine then_ret ?_ | refine inBlock_ret ?_ | refine inBlock_go ?_)
                  refine body_ret (v := .bool false) h1623q (by kernel_rfl) (by kernel_rfl) ?_
                  exact ⟨rfl, hS1626q⟩
              · rw [if_neg c1485q] at H
                cases H
            · rw [if_neg c1484q] at H
              cases H
          · rw [if_neg c1453q] at H
            have hb_ : (decide (x1449q < r1431q)) = false := decide_eq_false c1453q
            try rw [hb_] at h1452q
            clear hb_
            refine wp_else h1452q rfl ?_
            refine wp_exit ?_
            refine wp_seq ?_
            refine WL.start ?_
            refine WL.block (c := 1) (m' := 1) h1452q rfl [(89, v1321q)] (by kernel_rfl) (fun a1627q h1628q => ?_)
            clear h1452q a1451q
            obtain ⟨r1630q, A1629q, H⟩ := bind1 H
            refine WL.op' (m := 1) h1628q rfl rfl ?_
            refine owp_call [v1321q] h1628q rfl (by kernel_rfl) rfl Tryd.func11 (by kernel_rfl) rfl (by kernel_rfl) (dyntable_Table_Len.calls hr1448q A1629q hS1445q) (fun e1632q W1631q hp1633q => ?_)
            obtain ⟨M1636q, rfl, hr1637q, hS1638q⟩ := hp1633q
            refine ⟨_, rfl, fun a1634q h1635q => ?_⟩
            clear h1628q a1627q
            refine WL.block (c := 1) (m' := 3) h1635q rfl [(15, .int .i64 r1630q)] (by kernel_rfl) (fun a1639q h1640q => ?_)
            clear h1635q a1634q
            refine WL.done (by kernel_rfl) ?_
            refine wp_seq ?_
            refine WL.start ?_
            refine WL.block (c := 1) (m' := 1) h1640q rfl [(91, v1321q)] (by kernel_rfl) (fun a1641q h1642q => ?_)
            clear h1640q a1639q
            obtain ⟨r1644q, A1643q, H⟩ := bind1 H
            refine WL.op' (m := 1) h1642q rfl rfl ?_
            refine owp_call [v1321q, .int .u32 0] h1642q rfl (by kernel_rfl) rfl Tryd.func13 (by kernel_rfl) rfl (by kernel_rfl) (dyntable_Table_Limit.calls k1450q hr1637q A1643q hS1638q) (fun e1646q W1645q hp1647q => ?_)
            obtain ⟨M1650q, rfl, hr1651q, hS1652q⟩ := hp1647q
            refine ⟨_, rfl, fun a1648q h1649q => ?_⟩
            clear h1642q a1641q
            refine WL.done (by kernel_rfl) ?_
            refine wp_seq ?_
            refine WL.start ?_
            obtain ⟨r1654q, A1653q, H⟩ := bind1 H
            refine WL.op' (m := 0) h1649q rfl rfl ?_
            refine owp_call [] h1649q rfl (by kernel_rfl) rfl Tryd.func8 (by kernel_rfl) rfl (by kernel_rfl) (louverlaw05qfixed.calls k1450q hg0 A1653q hS1652q) (fun e1656q W1655q hp1657q => ?_)
            obtain ⟨rfl, hS1660q⟩ := hp1657q
            refine ⟨_, rfl, fun a1658q h1659q => ?_⟩
            clear h1649q a1648q
            refine WL.block (c := 1) (m' := 2) h1659q rfl [(94, .bool r1654q)] (by kernel_rfl) (fun a1661q h1662q => ?_)
            clear h1659q a1658q
            by_cases c1663q : r1654q = true
            · rw [if_pos c1663q] at H
              have hb_ : r1654q = true := c1663q
              try rw [hb_] at h1662q
              clear hb_
              refine WL.op' (m := 2) h1662q rfl rfl (owp_run h1662q rfl (by kernel_rfl) (v := v1321q) (by kernel_rfl) (fun a1664q h1665q => ?_))
              clear h1662q a1661q
              obtain ⟨r1667q, A1666q, H⟩ := bind1 H
              refine WL.op' (m := 3) h1665q rfl rfl ?_
              refine owp_call [v1321q] h1665q rfl (by kernel_rfl) rfl Tryd.func11 (by kernel_rfl) rfl (by kernel_rfl) (dyntable_Table_Len.calls hr1651q A1666q hS1660q) (fun e1669q W1668q hp1670q => ?_)
              obtain ⟨M1673q, rfl, hr1674q, hS1675q⟩ := hp1670q
              refine ⟨_, rfl, fun a1671q h1672q => ?_⟩
              clear h1665q a1664q
              refine WL.op' (m := 4) h1672q rfl rfl (owp_run h1672q rfl (by kernel_rfl) (v := .bool (decide (r1667q = 0))) (by kernel_rfl) (fun a1676q h1677q => ?_))
              clear h1672q a1671q
              refine WL.block (c := 2) (m' := 7) h1677q rfl [(99, .bool (decide (r1667q = 0))), (98, .bool (decide (r1667q = 0)))] (by kernel_rfl) (fun a1678q h1679q => ?_)
              clear h1677q a1676q
              by_cases c1680q : r1667q = 0
              · rw [if_pos c1680q] at H
                have hb_ : (decide (r1667q = 0)) = true := decide_eq_true c1680q
                try rw [hb_] at h1679q
                clear hb_
                refine WL.op' (m := 7) h1679q rfl rfl (owp_run h1679q rfl (by kernel_rfl) (v := v1321q) (by kernel_rfl) (fun a1681q h1682q => ?_))
                clear h1679q a1678q
                obtain ⟨r1684q, A1683q, H⟩ := bind1 H
                refine WL.op' (m := 8) h1682q rfl rfl ?_
                refine owp_call [v1321q] h1682q rfl (by kernel_rfl) rfl Tryd.func12 (by kernel_rfl) rfl (by kernel_rfl) (dyntable_Table_Size.calls hr1674q A1683q hS1675q) (fun e1686q W1685q hp1687q => ?_)
                obtain ⟨M1690q, rfl, hr1691q, hS1692q⟩ := hp1687q
                refine ⟨_, rfl, fun a1688q h1689q => ?_⟩
                clear h1682q a1681q
                refine WL.op' (m := 9) h1689q rfl rfl (owp_run h1689q rfl (by kernel_rfl) (v := .bool (decide (r1684q = 0))) (by kernel_rfl) (fun a1693q h1694q => ?_))
                clear h1689q a1688q
                refine WL.block (c := 2) (m' := 12) h1694q rfl [(104, .bool (decide (r1684q = 0))), (103, .bool (decide (r1684q = 0)))] (by kernel_rfl) (fun a1695q h1696q => ?_)
                clear h1694q a1693q
                by_cases c1697q : r1684q = 0
                · rw [if_pos c1697q] at H
                  have hb_ : (decide (r1684q = 0)) = true := decide_eq_true c1697q
                  try rw [hb_] at h1696q
                  clear hb_
                  refine WL.op' (m := 12) h1696q rfl rfl (owp_run h1696q rfl (by kernel_rfl) (v := .int .i64 r1405q) (by kernel_rfl) (fun a1698q h1699q => ?_))
                  clear h1696q a1695q
                  refine WL.op' (m := 13) h1699q rfl rfl (owp_run h1699q rfl (by kernel_rfl) (v := .int .u32 p0) (by kernel_rfl) (fun a1700q h1701q => ?_))
                  clear h1699q a1698q
                  refine WL.op' (m := 14) h1701q rfl rfl (owp_run h1701q rfl (by kernel_rfl) (v := .int .i64 (IntKind.i64.wrap p0)) (by kernel_rfl) (fun a1702q h1703q => ?_))
                  clear h1701q a1700q
                  refine WL.op' (m := 15) h1703q rfl rfl (owp_run h1703q rfl (by kernel_rfl) (v := .bool (decide (r1405q ≤ (IntKind.i64.wrap p0)))) (by kernel_rfl) (fun a1704q h1705q => ?_))
                  clear h1703q a1702q
                  refine WL.block (c := 2) (m' := 18) h1705q rfl [(110, .bool (decide (r1405q ≤ (IntKind.i64.wrap p0)))), (109, .bool (decide (r1405q ≤ (IntKind.i64.wrap p0))))] (by kernel_rfl) (fun a1706q h1707q => ?_)
                  clear h1705q a1704q
                  by_cases c1708q : r1405q ≤ (IntKind.i64.wrap p0)
                  · rw [if_pos c1708q] at H
                    have hb_ : (decide (r1405q ≤ (IntKind.i64.wrap p0))) = true := decide_eq_true c1708q
                    try rw [hb_] at h1707q
                    clear hb_
                    refine WL.op' (m := 18) h1707q rfl rfl (owp_run h1707q rfl (by kernel_rfl) (v := .int .i64 r1630q) (by kernel_rfl) (fun a1709q h1710q => ?_))
                    clear h1707q a1706q
                    refine WL.op' (m := 19) h1710q rfl rfl (owp_run h1710q rfl (by kernel_rfl) (v := .bool (decide (r1630q = 0))) (by kernel_rfl) (fun a1711q h1712q => ?_))
                    clear h1710q a1709q
                    refine WL.op' (m := 20) h1712q rfl rfl (owp_run h1712q rfl (by kernel_rfl) (v := .int .i64 r1405q) (by kernel_rfl) (fun a1713q h1714q => ?_))
                    clear h1712q a1711q
                    refine WL.op' (m := 21) h1714q rfl rfl (owp_run h1714q rfl (by kernel_rfl) (v := .bool (decide (r1405q = 0))) (by kernel_rfl) (fun a1715q h1716q => ?_))
                    clear h1714q a1713q
                    refine WL.op' (m := 22) h1716q rfl rfl (owp_run h1716q rfl (by kernel_rfl) (v := .bool ((decide (r1630q = 0)) == (decide (r1405q = 0)))) (by kernel_rfl) (fun a1717q h1718q => ?_))
                    clear h1716q a1715q
                    refine WL.block (c := 2) (m' := 25) h1718q rfl [(6, .bool ((decide (r1630q = 0)) == (decide (r1405q = 0)))), (116, .bool ((decide (r1630q = 0)) == (decide (r1405q = 0))))] (by kernel_rfl) (fun a1719q h1720q => ?_)
                    clear h1718q a1717q
                    refine WL.done (by kernel_rfl) ?_
                    refine wp_ret ?_
                    have hS1721q : St b w0 W1685q R (Fs) := hS1692q.drop_
                    obtain rfl := Option.some.inj H
                    repeat (first | refine then_ret ?_ | refine inBlock_ret ?_ | refine inBlock_go ?_)
                    refine body_ret (v := .bool ((decide (r1630q = 0)) == (decide (r1405q = 0)))) h1720q (by kernel_rfl) (by kernel_rfl) ?_
                    exact ⟨rfl, hS1721q⟩
                  · rw [if_neg c1708q] at H
                    have hb_ : (decide (r1405q ≤ (IntKind.i64.wrap p0))) = false := decide_eq_false c1708q
                    try rw [hb_] at h1707q
                    clear hb_
                    refine WL.skipped (m := 18) h1707q rfl rfl (by kernel_rfl) rfl (fun a1722q h1723q => ?_)
                    clear h1707q a1706q
                    refine WL.skipped (m := 19) h1723q rfl rfl (by kernel_rfl) rfl (fun a1724q h1725q => ?_)
                    clear h1723q a1722q
                    refine WL.skipped (m := 20) h1725q rfl rfl (by kernel_rfl) rfl (fun a1726q h1727q => ?_)
                    clear h1725q a1724q
                    refine WL.skipped (m := 21) h1727q rfl rfl (by kernel_rfl) rfl (fun a1728q h1729q => ?_)
                    clear h1727q a1726q
                    refine WL.skipped (m := 22) h1729q rfl rfl (by kernel_rfl) rfl (fun a1730q h1731q => ?_)
                    clear h1729q a1728q
                    refine WL.block (c := 2) (m' := 25) h1731q rfl [(6, .bool false), (116, .bool false)] (by kernel_rfl) (fun a1732q h1733q => ?_)
                    clear h1731q a1730q
                    refine WL.done (by kernel_rfl) ?_
                    refine wp_ret ?_
                    have hS1734q : St b w0 W1685q R (Fs) := hS1692q.drop_
                    obtain rfl := Option.some.inj H
                    repeat (first | refine then_ret ?_ | refine inBlock_ret ?_ | refine inBlock_go ?_)
                    refine body_ret (v := .bool false) h1733q (by kernel_rfl) (by kernel_rfl) ?_
                    exact ⟨rfl, hS1734q⟩
                · rw [if_neg c1697q] at H
                  have hb_ : (decide (r1684q = 0)) = false := decide_eq_false c1697q
                  try rw [hb_] at h1696q
                  clear hb_
                  refine WL.skipped (m := 12) h1696q rfl rfl (by kernel_rfl) rfl (fun a1735q h1736q => ?_)
                  clear h1696q a1695q
                  refine WL.skipped (m := 13) h1736q rfl rfl (by kernel_rfl) rfl (fun a1737q h1738q => ?_)
                  clear h1736q a1735q
                  refine WL.skipped (m := 14) h1738q rfl rfl (by kernel_rfl) rfl (fun a1739q h1740q => ?_)
                  clear h1738q a1737q
                  refine WL.skipped (m := 15) h1740q rfl rfl (by kernel_rfl) rfl (fun a1741q h1742q => ?_)
                  clear h1740q a1739q
                  refine WL.block (c := 2) (m' := 18) h1742q rfl [(110, .bool false), (109, .bool false)] (by kernel_rfl) (fun a1743q h1744q => ?_)
                  clear h1742q a1741q
                  refine WL.skipped (m := 18) h1744q rfl rfl (by kernel_rfl) rfl (fun a1745q h1746q => ?_)
                  clear h1744q a1743q
                  refine WL.skipped (m := 19) h1746q rfl rfl (by kernel_rfl) rfl (fun a1747q h1748q => ?_)
                  clear h1746q a1745q
                  refine WL.skipped (m := 20) h1748q rfl rfl (by kernel_rfl) rfl (fun a1749q h1750q => ?_)
                  clear h1748q a1747q
                  refine WL.skipped (m := 21) h1750q rfl rfl (by kernel_rfl) rfl (fun a1751q h1752q => ?_)
                  clear h1750q a1749q
                  refine WL.skipped (m := 22) h1752q rfl rfl (by kernel_rfl) rfl (fun a1753q h1754q => ?_)
                  clear h1752q a1751q
                  refine WL.block (c := 2) (m' := 25) h1754q rfl [(6, .bool false), (116, .bool false)] (by kernel_rfl) (fun a1755q h1756q => ?_)
                  clear h1754q a1753q
                  refine WL.done (by kernel_rfl) ?_
                  refine wp_ret ?_
                  have hS1757q : St b w0 W1685q R (Fs) := hS1692q.drop_
                  obtain rfl := Option.some.inj H
                  repeat (first | refine then_ret ?_ | refine inBlock_ret ?_ | refine inBlock_go ?_)
                  refine body_ret (v := .bool false) h1756q (by kernel_rfl) (by kernel_rfl) ?_
                  exact ⟨rfl, hS1757q⟩
              · rw [if_neg c1680q] at H
                have hb_ : (decide (r1667q = 0)) = false := decide_eq_false c1680q
                try rw [hb_] at h1679q
                clear hb_
                refine WL.skipped (m := 7) h1679q rfl rfl (by kernel_rfl) rfl (fun a1758q h1759q => ?_)
                clear h1679q a1678q
                refine WL.skipped (m := 8) h1759q rfl rfl (by kernel_rfl) rfl (fun a1760q h1761q => ?_)
                clear h1759q a1758q
                refine WL.skipped (m := 9) h1761q rfl rfl (by kernel_rfl) rfl (fun a1762q h1763q => ?_)
                clear h1761q a1760q
                refine WL.block (c := 2) (m' := 12) h1763q rfl [(104, .bool false), (103, .bool false)] (by kernel_rfl) (fun a1764q h1765q => ?_)
                clear h1763q a1762q
                refine WL.skipped (m := 12) h1765q rfl rfl (by kernel_rfl) rfl (fun a1766q h1767q => ?_)
                clear h1765q a1764q
                refine WL.skipped (m := 13) h1767q rfl rfl (by kernel_rfl) rfl (fun a1768q h1769q => ?_)
                clear h1767q a1766q
                refine WL.skipped (m := 14) h1769q rfl rfl (by kernel_rfl) rfl (fun a1770q h1771q => ?_)
                clear h1769q a1768q
                refine WL.skipped (m := 15) h1771q rfl rfl (by kernel_rfl) rfl (fun a1772q h1773q => ?_)
                clear h1771q a1770q
                refine WL.block (c := 2) (m' := 18) h1773q rfl [(110, .bool false), (109, .bool false)] (by kernel_rfl) (fun a1774q h1775q => ?_)
                clear h1773q a1772q
                refine WL.skipped (m := 18) h1775q rfl rfl (by kernel_rfl) rfl (fun a1776q h1777q => ?_)
                clear h1775q a1774q
                refine WL.skipped (m := 19) h1777q rfl rfl (by kernel_rfl) rfl (fun a1778q h1779q => ?_)
                clear h1777q a1776q
                refine WL.skipped (m := 20) h1779q rfl rfl (by kernel_rfl) rfl (fun a1780q h1781q => ?_)
                clear h1779q a1778q
                refine WL.skipped (m := 21) h1781q rfl rfl (by kernel_rfl) rfl (fun a1782q h1783q => ?_)
                clear h1781q a1780q
                refine WL.skipped (m := 22) h1783q rfl rfl (by kernel_rfl) rfl (fun a1784q h1785q => ?_)
                clear h1783q a1782q
                refine WL.block (c := 2) (m' := 25) h1785q rfl [(6, .bool false), (116, .bool false)] (by kernel_rfl) (fun a1786q h1787q => ?_)
                clear h1785q a1784q
                refine WL.done (by kernel_rfl) ?_
                refine wp_ret ?_
                have hS1788q : St b w0 W1668q R (Fs) := hS1675q.drop_
                obtain rfl := Option.some.inj H
                repeat (first | refine then_ret ?_ | refine inBlock_ret ?_ | refine inBlock_go ?_)
                refine body_ret (v := .bool false) h1787q (by kernel_rfl) (by kernel_rfl) ?_
                exact ⟨rfl, hS1788q⟩
            · rw [if_neg c1663q] at H
              have hb_ : r1654q = false := (Bool.eq_false_iff.2 c1663q)
              try rw [hb_] at h1662q
              clear hb_
              refine WL.skipped (m := 2) h1662q rfl rfl (by kernel_rfl) rfl (fun a1789q h1790q => ?_)
              clear h1662q a1661q
              refine WL.skipped (m := 3) h1790q rfl rfl (by kernel_rfl) rfl (fun a1791q h1792q => ?_)
              clear h1790q a1789q
              refine WL.skipped (m := 4) h1792q rfl rfl (by kernel_rfl) rfl (fun a1793q h1794q => ?_)
              clear h1792q a1791q
              refine WL.block (c := 2) (m' := 7) h1794q rfl [(99, .bool false), (98, .bool false)] (by kernel_rfl) (fun a1795q h1796q => ?_)
              clear h1794q a1793q
              refine WL.skipped (m := 7) h1796q rfl rfl (by kernel_rfl) rfl (fun a1797q h1798q => ?_)
              clear h1796q a1795q
              refine WL.skipped (m := 8) h1798q rfl rfl (by kernel_rfl) rfl (fun a1799q h1800q => ?_)
              clear h1798q a1797q
              refine WL.skipped (m := 9) h1800q rfl rfl (by kernel_rfl) rfl (fun a1801q h1802q => ?_)
              clear h1800q a1799q
              refine WL.block (c := 2) (m' := 12) h1802q rfl [(104, .bool false), (103, .bool false)] (by kernel_rfl) (fun a1803q h1804q => ?_)
              clear h1802q a1801q
              refine WL.skipped (m := 12) h1804q rfl rfl (by kernel_rfl) rfl (fun a1805q h1806q => ?_)
              clear h1804q a1803q
              refine WL.skipped (m := 13) h1806q rfl rfl (by kernel_rfl) rfl (fun a1807q h1808q => ?_)
              clear h1806q a1805q
              refine WL.skipped (m := 14) h1808q rfl rfl (by kernel_rfl) rfl (fun a1809q h1810q => ?_)
              clear h1808q a1807q
              refine WL.skipped (m := 15) h1810q rfl rfl (by kernel_rfl) rfl (fun a1811q h1812q => ?_)
              clear h1810q a1809q
              refine WL.block (c := 2) (m' := 18) h1812q rfl [(110, .bool false), (109, .bool false)] (by kernel_rfl) (fun a1813q h1814q => ?_)
              clear h1812q a1811q
              refine WL.skipped (m := 18) h1814q rfl rfl (by kernel_rfl) rfl (fun a1815q h1816q => ?_)
              clear h1814q a1813q
              refine WL.skipped (m := 19) h1816q rfl rfl (by kernel_rfl) rfl (fun a1817q h1818q => ?_)
              clear h1816q a1815q
              refine WL.skipped (m := 20) h1818q rfl rfl (by kernel_rfl) rfl (fun a1819q h1820q => ?_)
              clear h1818q a1817q
              refine WL.skipped (m := 21) h1820q rfl rfl (by kernel_rfl) rfl (fun a1821q h1822q => ?_)
              clear h1820q a1819q
              refine WL.skipped (m := 22) h1822q rfl rfl (by kernel_rfl) rfl (fun a1823q h1824q => ?_)
              clear h1822q a1821q
              refine WL.block (c := 2) (m' := 25) h1824q rfl [(6, .bool false), (116, .bool false)] (by kernel_rfl) (fun a1825q h1826q => ?_)
              clear h1824q a1823q
              refine WL.done (by kernel_rfl) ?_
              refine wp_ret ?_
              have hS1827q : St b w0 W1655q R (Fs) := hS1660q.drop_
              obtain rfl := Option.some.inj H
              repeat (first | refine then_ret ?_ | refine inBlock_ret ?_ | refine inBlock_go ?_)
              refine body_ret (v := .bool false) h1826q (by kernel_rfl) (by kernel_rfl) ?_
              exact ⟨rfl, hS1827q⟩

/-! ### louver/statics.Find -/
def statics_Find.l0 : Nat → Int → Int → (List UInt8) → (List UInt8) → Option (Int × Bool)
  | 0, _, _, _, _ => none
  | k + 1, x178q, x179q, p0, p1 => if x179q < 61 then (if 0 ≤ x179q then (if x179q < (61 : Int) then (if ((gt z29 G0 x179q).f0) = p0 then (if ((gt z29 G0 x179q).f1) = p1 then (some (IntKind.i64.wrap (x179q + 1), true)) else (if x178q = 0 then (statics_Find.l0 k (IntKind.i64.wrap (x179q + 1)) (IntKind.i64.wrap (x179q + 1)) p0 p1) else (statics_Find.l0 k x178q (IntKind.i64.wrap (x179q + 1)) p0 p1))) else (statics_Find.l0 k x178q (IntKind.i64.wrap (x179q + 1)) p0 p1)) else (none)) else (none)) else (some (x178q, false))
def statics_Find.f (k : Nat) (p0 : (List UInt8)) (p1 : (List UInt8)) : Option (Int × Bool) := statics_Find.l0 k 0 0 p0 p1
set_option maxHeartbeats 2000000 in
set_option maxRecDepth 100000 in
theorem statics_Find.calls (k : Nat) {b : Nat} {w0 W : World} {R : Frag} {Fs : List Frag} {p0 : (List UInt8)} {p1 : (List UInt8)}  {r0q : Int} {r1q : Bool} (hg0 : Rds k29 b w0 [] (.slice (some ⟨0, 0, none⟩) 61 61) G0) (H : statics_Find.f k p0 p1 = some (r0q, r1q)) (hS : St b w0 W R (Fs)) :
    Calls Tryd.prog 28 ([.string (mkS p0), .string (mkS p1)] : List Value).toArray W (fun e W' => e = .returned (.tuple #[.int .i64 r0q, .bool r1q]) ∧ St b w0 W' R (Fs)) := by
  unfold statics_Find.f at H
  refine calls_enter Tryd.func28 rfl 33 rfl (by kernel_rfl) (fun a h => ?_)
  refine wp_seq ?_
  refine WL.start ?_
  refine WL.block (c := 2) (m' := 2) h rfl [(5, .bool false), (4, .int .i64 0)] (by kernel_rfl) (fun a165q h166q => ?_)
  refine WL.done (by kernel_rfl) ?_
  refine wp_seq ?_
  refine WL.start ?_
  refine WL.block (c := 1) (m' := 1) h166q rfl [(6, .int .i64 0)] (by kernel_rfl) (fun a167q h168q => ?_)
  clear h166q a165q
  refine WL.done (by kernel_rfl) ?_
  refine wp_seq ?_
  refine wp_seq ?_
  refine WL.start ?_
  refine WL.op' (m := 0) h168q rfl rfl ?_
  refine owp_run (v := .agg GC0.toArray) h168q rfl (by kernel_rfl) (run_loadN rfl rfl Tryd.underlying56 rfl (cs := GC0) (by kernel_rfl) (fun _ _ hj_ => (fun _ _ hk_ => hS.kn hk_) _ _ ((GC0qat hg0 _ _ hj_).mono (fun _ h_ => by cases h_)))) (fun a169q h170q => ?_)
  clear h168q a167q
  refine WL.block (c := 1) (m' := 2) h170q rfl [(10, .int .i64 0)] (by kernel_rfl) (fun a171q h172q => ?_)
  clear h170q a169q
  refine WL.done (by kernel_rfl) ?_
  refine wp_block ?_
  refine wp_loop_ghost (fun kq_ a_ W_ => ∃ (x178q : Int), ∃ (x179q : Int), Hd a_ 33 [(0, .string (mkS p0)), (1, .string (mkS p1)), (6, .int .i64 x178q), (9, .agg GC0.toArray), (10, .int .i64 x179q)] ∧ Asd (statics_Find.l0 kq_ x178q x179q p0 p1 = some (r0q, r1q)) ∧ Asd (kq_ ≤ k) ∧ Asd (St b w0 W_ R (Fs))) k ⟨0, 0, h172q.keep ⟨rfl, rfl, rfl, rfl, rfl, trivial⟩, ⟨H⟩, ⟨Nat.le_refl _⟩, ⟨hS⟩⟩ ?_
  clear H hS
  rintro k177q a174q W175q ⟨x178q, x179q, h173q, ⟨H⟩, ⟨hkk177q⟩, ⟨hS176q⟩⟩
  obtain _ | k180q := k177q
  · exact absurd H (by simp [statics_Find.l0])
  simp only [statics_Find.l0] at H
  refine wp_seq ?_
  refine WL.start ?_
  refine WL.block (c := 1) (m' := 1) h173q rfl [(11, .bool (decide (x179q < 61)))] (by kernel_rfl) (fun a181q h182q => ?_)
  clear h173q a174q
  refine WL.done (by kernel_rfl) ?_
  refine wp_seq ?_
  by_cases c183q : x179q < 61
  · rw [if_pos c183q] at H
    have hb_ : (decide (x179q < 61)) = true := decide_eq_true c183q
    try rw [hb_] at h182q
    clear hb_
    refine wp_then h182q rfl ?_
    refine wp_skip ?_
    refine wp_seq ?_
    refine wp_block ?_
    refine wp_seq ?_
    refine WL.start ?_
    refine WL.block (c := 1) (m' := 1) h182q rfl [(12, .int .i64 x179q)] (by kernel_rfl) (fun a184q h185q => ?_)
    clear h182q a181q
    by_cases c186q : 0 ≤ x179q
    · rw [if_pos c186q] at H
      by_cases c187q : x179q < (61 : Int)
      · rw [if_pos c187q] at H
        have hi188q : 0 ≤ x179q := by first | assumption | omega
        have hi190q : x179q < ((61 : Nat) : Int) := by omega
        have hi189q : x179q < (G0.length : Int) := by rw [G0qlen]; exact hi190q
        refine WL.op' (m := 1) h185q rfl rfl ?_
        refine owp_run (v := .agg #[.string (mkS ((gt z29 G0 x179q).f0)), .string (mkS ((gt z29 G0 x179q).f1)), .bool ((gt z29 G0 x179q).f2)]) h185q rfl (by kernel_rfl) (run_index_st rfl rfl rfl Tryd.underlying56 Tryd.underlying29 rfl (by kernel_rfl) hi188q hi190q (sz := 3) (cs' := ([.string (mkS ((gt z29 G0 x179q).f0)), .string (mkS ((gt z29 G0 x179q).f1)), .bool ((gt z29 G0 x179q).f2)] : List Value)) (flat_at (f := (fun x : S29 => ([.string (mkS x.f0), .string (mkS x.f1), .bool x.f2] : List Value))) (sz := 3) (fun _ => rfl) G0 _ _ (gt_get (z := z29) hi188q hi189q))) (fun a191q h192q => ?_)
        clear h185q a184q
        refine WL.op' (m := 2) h192q rfl rfl ?_
        refine owp_new (fun g_ => .pointer (some ⟨g_, 0, none⟩)) (.cells ([.string (mkS ([] : List UInt8)), .string (mkS ([] : List UInt8)), .bool false] : List Value).toArray 29 (0, 0)) h192q rfl (by kernel_rfl) (by kernel_rfl) hS176q (fun a193q W195q g196q h194q hS197q => ?_)
        clear h192q a191q
        refine WL.block (c := 1) (m' := 4) h194q rfl [(7, .int .i64 x179q)] (by kernel_rfl) (fun a198q h199q => ?_)
        clear h194q a193q
        refine WL.op' (m := 4) h199q rfl rfl ?_
        refine owp_store (i := 0) (vs := ([.string (mkS ((gt z29 G0 x179q).f0)), .string (mkS ((gt z29 G0 x179q).f1)), .bool ((gt z29 G0 x179q).f2)] : List Value)) h199q rfl (by kernel_rfl) rfl rfl rfl rfl (by simp [Value.oneCell']) (by kernel_rfl) hS197q (by simp) (cs' := ([.string (mkS ((gt z29 G0 x179q).f0)), .string (mkS ((gt z29 G0 x179q).f1)), .bool ((gt z29 G0 x179q).f2)] : List Value)) rfl (fun a200q W202q h201q hS203q => ?_)
        clear h199q a198q
        refine WL.done (by kernel_rfl) ?_
        refine wp_block ?_
        refine wp_seq ?_
        refine WL.start ?_
        refine WL.block (c := 1) (m' := 1) h201q rfl [(15, .pointer (some ⟨g196q, 0, none⟩))] (by kernel_rfl) (fun a204q h205q => ?_)
        clear h201q a200q
        refine WL.op' (m := 1) h205q rfl rfl ?_
        refine owp_run (v := .string (mkS ((gt z29 G0 x179q).f0))) h205q rfl (by kernel_rfl) (run_load1 rfl rfl Tryd.underlying9 rfl (hS203q.cell (i := 0) rfl)) (fun a206q h207q => ?_)
        clear h205q a204q
        refine WL.block (c := 1) (m' := 3) h207q rfl [(17, .string (mkS p0))] (by kernel_rfl) (fun a208q h209q => ?_)
        clear h207q a206q
        refine WL.op' (m := 3) h209q rfl rfl ?_
        refine owp_run (v := .bool (!decide (((gt z29 G0 x179q).f0) = p0))) h209q rfl (by kernel_rfl) (run_strne rfl rfl rfl) (fun a210q h211q => ?_)
        clear h209q a208q
        refine WL.block (c := 1) (m' := 5) h211q rfl [(14, .bool (!decide (((gt z29 G0 x179q).f0) = p0)))] (by kernel_rfl) (fun a212q h213q => ?_)
        clear h211q a210q
        refine WL.done (by kernel_rfl) ?_
        by_cases c214q : ((gt z29 G0 x179q).f0) = p0
        · rw [if_pos c214q] at H
          have hb_ : (decide (((gt z29 G0 x179q).f0) = p0)) = true := decide_eq_true c214q
          try rw [hb_] at h213q
          clear hb_
          refine wp_else h213q rfl ?_
          refine wp_seq ?_
          refine WL.start ?_
          refine WL.block (c := 1) (m' := 1) h213q rfl [(20, .pointer (some ⟨g196q, 1, none⟩))] (by kernel_rfl) (fun a215q h216q => ?_)
          clear h213q a212q
          refine WL.op' (m := 1) h216q rfl rfl ?_
          refine owp_run (v := .string (mkS ((gt z29 G0 x179q).f1))) h216q rfl (by kernel_rfl) (run_load1 rfl rfl Tryd.underlying9 rfl (hS203q.cell (i := 1) rfl)) (fun a217q h218q => ?_)
          clear h216q a215q
          refine WL.block (c := 1) (m' := 3) h218q rfl [(22, .string (mkS p1))] (by kernel_rfl) (fun a219q h220q => ?_)
          clear h218q a217q
          refine WL.op' (m := 3) h220q rfl rfl ?_
          refine owp_run (v := .bool (decide (((gt z29 G0 x179q).f1) = p1))) h220q rfl (by kernel_rfl) (run_streq rfl rfl rfl) (fun a221q h222q => ?_)
          clear h220q a219q
          refine WL.block (c := 1) (m' := 5) h222q rfl [(19, .bool (decide (((gt z29 G0 x179q).f1) = p1)))] (by kernel_rfl) (fun a223q h224q => ?_)
          clear h222q a221q
          refine WL.done (by kernel_rfl) ?_
          by_cases c225q : ((gt z29 G0 x179q).f1) = p1
          · rw [if_pos c225q] at H
            have hb_ : (decide (((gt z29 G0 x179q).f1) = p1)) = true := decide_eq_true c225q
            try rw [hb_] at h224q
            clear hb_
            refine wp_then h224q rfl ?_
            refine wp_seq ?_
            refine WL.start ?_
            refine WL.block (c := 4) (m' := 4) h224q rfl [(5, .bool true), (4, .int .i64 (IntKind.i64.wrap (x179q + 1))), (25, .int .i64 (IntKind.i64.wrap (x179q + 1))), (24, .int .i64 x179q)] (by kernel_rfl) (fun a226q h227q => ?_)
            clear h224q a223q
            refine WL.done (by kernel_rfl) ?_
            refine wp_ret ?_
            have hS228q : St b w0 W202q R (Fs) := hS203q.drop_
            obtain ⟨rfl, rfl⟩ := ret2 H
            repeat (first | refine then_ret ?_ | refine inBlock_ret ?_ | refine inBlock_go ?_)
            refine body_ret (v := .tuple #[.int .i64 (IntKind.i64.wrap (x179q + 1)), .bool true]) h227q (by kernel_rfl) (by kernel_rfl) ?_
            exact ⟨rfl, hS228q⟩
          · rw [if_neg c225q] at H
            have hb_ : (decide (((gt z29 G0 x179q).f1) = p1)) = false := decide_eq_false c225q
            try rw [hb_] at h224q
            clear hb_
            refine wp_else h224q rfl ?_
            refine wp_seq ?_
            refine WL.start ?_
            refine WL.block (c := 3) (m' := 3) h224q rfl [(26, .bool (decide (x178q = 0))), (28, .bool (decide (x178q = 0))), (27, .int .i64 x178q)] (by kernel_rfl) (fun a229q h230q => ?_)
            clear h224q a223q
            refine WL.done (by kernel_rfl) ?_
            by_cases c231q : x178q = 0
            · rw [if_pos c231q] at H
              have hb_ : (decide (x178q = 0)) = true := decide_eq_true c231q
              try rw [hb_] at h230q
              clear hb_
              refine wp_then h230q rfl ?_
              refine WL.start ?_
              refine WL.block (c := 3) (m' := 3) h230q rfl [(6, .int .i64 (IntKind.i64.wrap (x179q + 1))), (30, .int .i64 (IntKind.i64.wrap (x179q + 1))), (29, .int .i64 x179q)] (by kernel_rfl) (fun a232q h233q => ?_)
              clear h230q a229q
              refine WL.done (by kernel_rfl) ?_
              refine WL.start ?_
              refine WL.block (c := 2) (m' := 2) h233q rfl [(10, .int .i64 (IntKind.i64.wrap (x179q + 1))), (31, .int .i64 (IntKind.i64.wrap (x179q + 1)))] (by kernel_rfl) (fun a234q h235q => ?_)
              clear h233q a232q
              refine WL.done (by kernel_rfl) ?_
              have hS236q : St b w0 W202q R (Fs) := hS203q.drop_
              exact ⟨k180q, by omega, IntKind.i64.wrap (x179q + 1), IntKind.i64.wrap (x179q + 1), h235q.keep ⟨rfl, rfl, rfl, rfl, rfl, trivial⟩, ⟨H⟩, ⟨by omega⟩, ⟨hS236q⟩⟩
            · rw [if_neg c231q] at H
              have hb_ : (decide (x178q = 0)) = false := decide_eq_false c231q
              try rw [hb_] at h230q
              clear hb_
              refine wp_else h230q rfl ?_
              refine wp_skip ?_
              refine WL.start ?_
              refine WL.block (c := 2) (m' := 2) h230q rfl [(10, .int .i64 (IntKind.i64.wrap (x179q + 1))), (31, .int .i64 (IntKind.i64.wrap (x179q + 1)))] (by kernel_rfl) (fun a237q h238q => ?_)
              clear h230q a229q
              refine WL.done (by kernel_rfl) ?_
              have hS239q : St b w0 W202q R (Fs) := hS203q.drop_
              exact ⟨k180q, by omega, x178q, IntKind.i64.wrap (x179q + 1), h238q.keep ⟨rfl, rfl, rfl, rfl, rfl, trivial⟩, ⟨H⟩, ⟨by omega⟩, ⟨hS239q⟩⟩
        · rw [if_neg c214q] at H
          have hb_ : (decide (((gt z29 G0 x179q).f0) = p0)) = false := decide_eq_false c214q
          try rw [hb_] at h213q
          clear hb_
          refine wp_then h213q rfl ?_
          refine wp_skip ?_
          refine WL.start ?_
          refine WL.block (c := 2) (m' := 2) h213q rfl [(10, .int .i64 (IntKind.i64.wrap (x179q + 1))), (31, .int .i64 (IntKind.i64.wrap (x179q + 1)))] (by kernel_rfl) (fun a240q h241q => ?_)
          clear h213q a212q
          refine WL.done (by kernel_rfl) ?_
          have hS242q : St b w0 W202q R (Fs) := hS203q.drop_
          exact ⟨k180q, by omega, x178q, IntKind.i64.wrap (x179q + 1), h241q.keep ⟨rfl, rfl, rfl, rfl, rfl, trivial⟩, ⟨H⟩, ⟨by omega⟩, ⟨hS242q⟩⟩
      · rw [if_neg c187q] at H
        cases H
    · rw [if_neg c186q] at H
      cases H
  · rw [if_neg c183q] at H
    have hb_ : (decide (x179q < 61)) = false := decide_eq_false c183q
    try rw [hb_] at h182q
    clear hb_
    refine wp_else h182q rfl ?_
    refine wp_exit ?_
    refine wp_seq ?_
    refine WL.start ?_
    refine WL.block (c := 3) (m' := 3) h182q rfl [(5, .bool false), (4, .int .i64 x178q), (32, .int .i64 x178q)] (by kernel_rfl) (fun a243q h244q => ?_)
    clear h182q a181q
    refine WL.done (by kernel_rfl) ?_
    refine wp_ret ?_
    obtain ⟨rfl, rfl⟩ := ret2 H
    repeat (first | refine then_ret ?_ | refine inBlock_ret ?_ | refine inBlock_go ?_)
    refine body_ret (v := .tuple #[.int .i64 x178q, .bool false]) h244q (by kernel_rfl) (by kernel_rfl) ?_
    exact ⟨rfl, hS176q⟩

/-! ### (*louver/dyntable.Table).Find -/
def dyntable_Table_Find.l0 : Nat → Int → Int → S51 → (List UInt8) → (List UInt8) → Option (Int × Bool)
  | 0, _, _, _, _, _ => none
  | k + 1, x694q, x695q, p0, p1, p2 => if x695q < (p0.f0.length : Int) then (if 0 ≤ (IntKind.i64.wrap ((IntKind.i64.wrap ((p0.f0.length : Int) - 1)) - x695q)) then (if (IntKind.i64.wrap ((IntKind.i64.wrap ((p0.f0.length : Int) - 1)) - x695q)) < (p0.f0.length : Int) then (bnd1 (statics_Len.f) fun r858q => (if ((gt z29 p0.f0 (IntKind.i64.wrap ((IntKind.i64.wrap ((p0.f0.length : Int) - 1)) - x695q))).f0) = p1 then (if ((gt z29 p0.f0 (IntKind.i64.wrap ((IntKind.i64.wrap ((p0.f0.length : Int) - 1)) - x695q))).f1) = p2 then (some (IntKind.i64.wrap ((IntKind.i64.wrap (r858q + 1)) + x695q), true)) else (if x694q = 0 then (dyntable_Table_Find.l0 k (IntKind.i64.wrap ((IntKind.i64.wrap (r858q + 1)) + x695q)) (IntKind.i64.wrap (x695q + 1)) p0 p1 p2) else (dyntable_Table_Find.l0 k x694q (IntKind.i64.wrap (x695q + 1)) p0 p1 p2))) else (dyntable_Table_Find.l0 k x694q (IntKind.i64.wrap (x695q + 1)) p0 p1 p2))) else (none)) else (none)) else (some (x694q, false))
def dyntable_Table_Find.f (k : Nat) (p0 : S51) (p1 : (List UInt8)) (p2 : (List UInt8)) : Option (Int × Bool) := bnd2 (statics_Find.f k p1 p2) fun r636q r637q => (if r637q = true then (some (r636q, true)) else (dyntable_Table_Find.l0 k r636q 0 p0 p1 p2))
set_option maxHeartbeats 2000000 in
set_option maxRecDepth 100000 in
theorem dyntable_Table_Find.calls (k : Nat) {b : Nat} {w0 W : World} {R : Frag} {Fs : List Frag} {p0 : S51} {p1 : (List UInt8)} {p2 : (List UInt8)}  {v0 : Value} {M0 : Frag} {r0q : Int} {r1q : Bool} (hp0 : Ptr k51 51 b w0 R v0 p0 M0) (hg0 : Rds k29 b w0 [] (.slice (some ⟨0, 0, none⟩) 61 61) G0) (H : dyntable_Table_Find.f k p0 p1 p2 = some (r0q, r1q)) (hS : St b w0 W R (M0 :: Fs)) :
    Calls Tryd.prog 15 ([v0, .string (mkS p1), .string (mkS p2)] : List Value).toArray W (fun e W' => ∃ (O0q : Frag), e = .returned (.tuple #[.int .i64 r0q, .bool r1q]) ∧ Ptr k51 51 b w0 R v0 p0 O0q ∧ St b w0 W' R (O0q :: Fs)) := by
  unfold dyntable_Table_Find.f at H
  refine calls_enter Tryd.func15 rfl 69 rfl (by kernel_rfl) (fun a h => ?_)
  refine wp_seq ?_
  refine WL.start ?_
  refine WL.block (c := 2) (m' := 2) h rfl [(7, .bool false), (6, .int .i64 0)] (by kernel_rfl) (fun a631q h632q => ?_)
  refine WL.done (by kernel_rfl) ?_
  refine wp_seq ?_
  refine WL.start ?_
  refine WL.block (c := 2) (m' := 2) h632q rfl [(15, .string (mkS p2)), (14, .string (mkS p1))] (by kernel_rfl) (fun a633q h634q => ?_)
  clear h632q a631q
  obtain ⟨r636q, r637q, A635q, H⟩ := bind2 H
  refine WL.op' (m := 2) h634q rfl rfl ?_
  refine owp_call [.string (mkS p1), .string (mkS p2)] h634q rfl (by kernel_rfl) rfl Tryd.func28 (by kernel_rfl) rfl (by kernel_rfl) (statics_Find.calls k hg0 A635q hS) (fun e639q W638q hp640q => ?_)
  obtain ⟨rfl, hS643q⟩ := hp640q
  refine ⟨_, rfl, fun a641q h642q => ?_⟩
  clear h634q a633q
  refine WL.block (c := 5) (m' := 8) h642q rfl [(9, .bool r637q), (8, .int .i64 r636q), (18, .bool r637q), (17, .int .i64 r636q), (13, .tuple #[.int .i64 r636q, .bool r637q])] (by kernel_rfl) (fun a644q h645q => ?_)
  clear h642q a641q
  refine WL.done (by kernel_rfl) ?_
  refine wp_seq ?_
  refine wp_seq ?_
  refine WL.start ?_
  refine WL.block (c := 2) (m' := 2) h645q rfl [(20, .bool r637q), (19, .bool r637q)] (by kernel_rfl) (fun a646q h647q => ?_)
  clear h645q a644q
  by_cases c648q : r637q = true
  · rw [if_pos c648q] at H
    have hb_ : r637q = true := c648q
    try rw [hb_] at h647q
    clear hb_
    refine WL.skipped (m := 2) h647q rfl rfl (by kernel_rfl) rfl (fun a649q h650q => ?_)
    clear h647q a646q
    refine WL.skipped (m := 3) h650q rfl rfl (by kernel_rfl) rfl (fun a651q h652q => ?_)
    clear h650q a649q
    refine WL.block (c := 1) (m' := 5) h652q rfl [(23, .bool true)] (by kernel_rfl) (fun a653q h654q => ?_)
    clear h652q a651q
    refine WL.done (by kernel_rfl) ?_
    refine wp_then h654q rfl ?_
    refine wp_seq ?_
    refine WL.start ?_
    refine WL.block (c := 4) (m' := 4) h654q rfl [(7, .bool true), (6, .int .i64 r636q), (25, .bool true), (24, .int .i64 r636q)] (by kernel_rfl) (fun a655q h656q => ?_)
    clear h654q a653q
    refine WL.done (by kernel_rfl) ?_
    refine wp_ret ?_
    obtain ⟨rfl, rfl⟩ := ret2 H
    repeat (first | refine then_ret ?_ | refine inBlock_ret ?_ | refine inBlock_go ?_)
    refine body_ret (v := .tuple #[.int .i64 r636q, .bool true]) h656q (by kernel_rfl) (by kernel_rfl) ?_
    exact ⟨M0, rfl, hp0, hS643q⟩
  · rw [if_neg c648q] at H
    have hb_ : r637q = false := (Bool.eq_false_iff.2 c648q)
    try rw [hb_] at h647q
    clear hb_
    refine WL.op' (m := 2) h647q rfl rfl (owp_run h647q rfl (by kernel_rfl) (v := v0) (by kernel_rfl) (fun a657q h658q => ?_))
    clear h647q a646q
    obtain ⟨g659q, cs660q, M661q, hv_, hM_, hr662q⟩ := hp0
    obtain ⟨v663q, M664q, rfl, hM2q, hr665q⟩ := k51qrep hr662q
    subst hM2q
    subst hM_
    subst hv_
    replace hr665q : Row k29 29 b w0 R v663q p0.f0 M661q := hr665q
    obtain ⟨A666q, c667q, rfl⟩ := hr665q.form
    have hS668q : St b w0 W638q R ([(g659q, .cells ([.slice A666q p0.f0.length c667q, .int .i64 p0.f1, .int .i64 p0.f2] : List Value).toArray 51 (0, 0))] :: M661q :: Fs) := hS643q.assoc (by simp only [List.flatten_cons, List.append_assoc, List.cons_append, List.nil_append, List.append_nil])
    refine WL.op' (m := 3) h658q rfl rfl (owp_run h658q rfl (by kernel_rfl) (v := .bool false) (by kernel_rfl) (fun a669q h670q => ?_))
    clear h658q a657q
    refine WL.block (c := 1) (m' := 5) h670q rfl [(23, .bool false)] (by kernel_rfl) (fun a671q h672q => ?_)
    clear h670q a669q
    refine WL.done (by kernel_rfl) ?_
    refine wp_else h672q rfl ?_
    refine wp_skip ?_
    refine wp_seq ?_
    refine wp_seq ?_
    refine WL.start ?_
    refine WL.block (c := 3) (m' := 3) h672q rfl [(28, .pointer (some ⟨g659q, 0, none⟩)), (27, .pointer (some ⟨g659q, 0, none⟩)), (26, .pointer (some ⟨g659q, 0, none⟩))] (by kernel_rfl) (fun a673q h674q => ?_)
    clear h672q a671q
    refine WL.op' (m := 3) h674q rfl rfl ?_
    refine owp_run (v := .slice A666q p0.f0.length c667q) h674q rfl (by kernel_rfl) (run_load1 rfl rfl Tryd.underlying23 rfl (hS668q.cell (i := 0) rfl)) (fun a675q h676q => ?_)
    clear h674q a673q
    refine WL.block (c := 2) (m' := 6) h676q rfl [(31, .int .i64 0), (30, .int .i64 (p0.f0.length : Int))] (by kernel_rfl) (fun a677q h678q => ?_)
    clear h676q a675q
    refine WL.done (by kernel_rfl) ?_
    refine wp_block ?_
    have hS679q : St b w0 W638q R (M661q :: [(g659q, .cells ([.slice A666q p0.f0.length c667q, .int .i64 p0.f1, .int .i64 p0.f2] : List Value).toArray 51 (0, 0))] :: Fs) := hS668q.bring 1 rfl rfl
    have hS680q : St b w0 W638q R ([(g659q, .cells ([.slice A666q p0.f0.length c667q, .int .i64 p0.f1, .int .i64 p0.f2] : List Value).toArray 51 (0, 0))] :: M661q :: Fs) := hS679q.bring 1 rfl rfl
    obtain ⟨M682q, hr681q, hM_⟩ := k51qmk (b := b) (w0 := w0) (R := R) (x := p0) (gvf0 := hr665q)
    have hp683q : Ptr k51 51 b w0 R (.pointer (some ⟨g659q, 0, none⟩)) p0 ((g659q, .cells ([.slice A666q p0.f0.length c667q, .int .i64 p0.f1, .int .i64 p0.f2] : List Value).toArray 51 (0, 0)) :: M682q) := ⟨_, _, _, rfl, rfl, hr681q⟩
    rw [hM_] at hp683q
    have hS685q : St b w0 W638q R (((g659q, .cells ([.slice A666q p0.f0.length c667q, .int .i64 p0.f1, .int .i64 p0.f2] : List Value).toArray 51 (0, 0)) :: (M661q)) :: Fs) := hS680q.assoc (by simp only [List.flatten_cons, List.append_assoc, List.cons_append, List.nil_append, List.append_nil])
    obtain ⟨M686q, hM_⟩ : ∃ y : Frag, y = ((g659q, .cells ([.slice A666q p0.f0.length c667q, .int .i64 p0.f1, .int .i64 p0.f2] : List Value).toArray 51 (0, 0)) :: (M661q)) := ⟨_, rfl⟩
    rw [← hM_] at hp683q hS685q
    clear hM_
    refine wp_loop_ghost (fun kq_ a_ W_ => ∃ (M692q : Frag), ∃ (x694q : Int), ∃ (x695q : Int), Hd a_ 69 [(0, .pointer (some ⟨g659q, 0, none⟩)), (1, .string (mkS p1)), (2, .string (mkS p2)), (8, .int .i64 x694q), (30, .int .i64 (p0.f0.length : Int)), (31, .int .i64 x695q)] ∧ Asd (dyntable_Table_Find.l0 kq_ x694q x695q p0 p1 p2 = some (r0q, r1q)) ∧ Asd (kq_ ≤ k) ∧ Asd (St b w0 W_ R (M692q :: Fs)) ∧ Asd (Ptr k51 51 b w0 R (.pointer (some ⟨g659q, 0, none⟩)) p0 M692q)) k ⟨M686q, r636q, 0, h678q.keep ⟨rfl, rfl, rfl, rfl, rfl, rfl, trivial⟩, ⟨H⟩, ⟨Nat.le_refl _⟩, ⟨hS685q⟩, ⟨hp683q⟩⟩ ?_
    clear H hS685q
    rintro k691q a688q W689q ⟨M692q, x694q, x695q, h687q, ⟨H⟩, ⟨hkk691q⟩, ⟨hS690q⟩, ⟨hr693q⟩⟩
    obtain _ | k696q := k691q
    · exact absurd H (by simp [dyntable_Table_Find.l0])
    simp only [dyntable_Table_Find.l0] at H
    refine wp_seq ?_
    refine WL.start ?_
    refine WL.block (c := 1) (m' := 1) h687q rfl [(32, .bool (decide (x695q < (p0.f0.length : Int))))] (by kernel_rfl) (fun a697q h698q => ?_)
    clear h687q a688q
    refine WL.done (by kernel_rfl) ?_
    refine wp_seq ?_
    by_cases c699q : x695q < (p0.f0.length : Int)
    · rw [if_pos c699q] at H
      have hb_ : (decide (x695q < (p0.f0.length : Int))) = true := decide_eq_true c699q
      try rw [hb_] at h698q
      clear hb_
      refine wp_then h698q rfl ?_
      refine wp_skip ?_
      refine wp_seq ?_
      refine wp_block ?_
      refine wp_seq ?_
      refine WL.start ?_
      refine WL.block (c := 2) (m' := 2) h698q rfl [(10, .int .i64 x695q), (33, .int .i64 x695q)] (by kernel_rfl) (fun a700q h701q => ?_)
      clear h698q a697q
      refine WL.done (by kernel_rfl) ?_
      refine wp_seq ?_
      obtain ⟨g702q, cs703q, M704q, hv_, hM_, hr705q⟩ := hr693q
      obtain ⟨v706q, M707q, rfl, hM2q, hr708q⟩ := k51qrep hr705q
      subst hM2q
      subst hM_
      have hg_ : g659q = g702q := by simpa using hv_
      subst hg_
      clear hv_
      replace hr708q : Row k29 29 b w0 R v706q p0.f0 M704q := hr708q
      obtain ⟨A709q, c710q, rfl⟩ := hr708q.form
      have hS711q : St b w0 W689q R ([(g659q, .cells ([.slice A709q p0.f0.length c710q, .int .i64 p0.f1, .int .i64 p0.f2] : List Value).toArray 51 (0, 0))] :: M704q :: Fs) := hS690q.assoc (by simp only [List.flatten_cons, List.append_assoc, List.cons_append, List.nil_append, List.append_nil])
      refine WT.start 15 (fun w_ => (w_.cell? ⟨g659q, 0, none⟩ = some (.slice A709q p0.f0.length c710q)) ∧ (∀ a_ u_, Kn b w0 (M704q ++ R) a_ u_ → w_.cell? a_ = some u_) ∧ True) (by kernel_rfl) #[false, false, false, false, false, false, false, false, false, false, false, false, false, false, false, false] 16 rfl rfl ?_
      have hS808q := hS711q.drew
      refine WT.take 0 (listed' := #[true, false, false, false, false, false, false, false, false, false, false, false, false, false, false, false]) h701q rfl rfl (by kernel_rfl) rfl rfl (.pointer (some ⟨g659q, 0, none⟩)) (fun _ _ => by kernel_rfl) ⟨(hS808q.cell (i := 0) rfl), (fun _ _ hk_ => (hS808q.bring 1 rfl rfl).pool.kn hk_), trivial⟩ (fun _ _ _ h_ => h_) (fun a809q h810q => ?_)
      clear h701q a700q
      refine WT.take 1 (listed' := #[true, true, false, false, false, false, false, false, false, false, false, false, false, false, false, false]) h810q rfl rfl (by kernel_rfl) rfl rfl (.pointer (some ⟨g659q, 0, none⟩)) (fun _ _ => by kernel_rfl) ⟨(hS808q.cell (i := 0) rfl), (fun _ _ hk_ => (hS808q.bring 1 rfl rfl).pool.kn hk_), trivial⟩ (fun _ _ _ h_ => h_) (fun a811q h812q => ?_)
      clear h810q a809q
      refine WT.take 2 (listed' := #[true, true, true, false, false, false, false, false, false, false, false, false, false, false, false, false]) h812q rfl rfl (by kernel_rfl) rfl rfl (.pointer (some ⟨g659q, 0, none⟩)) (fun _ _ => by kernel_rfl) ⟨(hS808q.cell (i := 0) rfl), (fun _ _ hk_ => (hS808q.bring 1 rfl rfl).pool.kn hk_), trivial⟩ (fun _ _ _ h_ => h_) (fun a813q h814q => ?_)
      clear h812q a811q
      refine WT.take 4 (listed' := #[true, true, true, false, true, false, false, false, false, false, false, false, false, false, false, false]) h814q rfl rfl (by kernel_rfl) rfl rfl (.pointer (some ⟨g659q, 0, none⟩)) (fun _ _ => by kernel_rfl) ⟨(hS808q.cell (i := 0) rfl), (fun _ _ hk_ => (hS808q.bring 1 rfl rfl).pool.kn hk_), trivial⟩ (fun _ _ _ h_ => h_) (fun a815q h816q => ?_)
      clear h814q a813q
      refine WT.take 5 (listed' := #[true, true, true, false, true, true, false, false, false, false, false, false, false, false, false, false]) h816q rfl rfl (by kernel_rfl) rfl rfl (.pointer (some ⟨g659q, 0, none⟩)) (fun _ _ => by kernel_rfl) ⟨(hS808q.cell (i := 0) rfl), (fun _ _ hk_ => (hS808q.bring 1 rfl rfl).pool.kn hk_), trivial⟩ (fun _ _ _ h_ => h_) (fun a817q h818q => ?_)
      clear h816q a815q
      refine WT.take 6 (listed' := #[true, true, true, false, true, true, true, false, false, false, false, false, false, false, false, false]) h818q rfl rfl (by kernel_rfl) rfl rfl (.pointer (some ⟨g659q, 0, none⟩)) (fun _ _ => by kernel_rfl) ⟨(hS808q.cell (i := 0) rfl), (fun _ _ hk_ => (hS808q.bring 1 rfl rfl).pool.kn hk_), trivial⟩ (fun _ _ _ h_ => h_) (fun a819q h820q => ?_)
      clear h818q a817q
      refine WT.take 10 (listed' := #[true, true, true, false, true, true, true, false, false, false, true, false, false, false, false, false]) h820q rfl rfl (by kernel_rfl) rfl rfl (.int .i64 x695q) (fun _ _ => by kernel_rfl) ⟨(hS808q.cell (i := 0) rfl), (fun _ _ hk_ => (hS808q.bring 1 rfl rfl).pool.kn hk_), trivial⟩ (fun _ _ _ h_ => h_) (fun a821q h822q => ?_)
      clear h820q a819q
      refine WT.take 3 (listed' := #[true, true, true, true, true, true, true, false, false, false, true, false, false, false, false, false]) h822q rfl rfl (by kernel_rfl) rfl rfl (.slice A709q p0.f0.length c710q) (fun w_ hs_ => (run_load1 rfl rfl Tryd.underlying23 rfl hs_.1)) ⟨(hS808q.cell (i := 0) rfl), (fun _ _ hk_ => (hS808q.bring 1 rfl rfl).pool.kn hk_), trivial⟩ (fun _ _ _ h_ => h_) (fun a823q h824q => ?_)
      clear h822q a821q
      refine WT.take 7 (listed' := #[true, true, true, true, true, true, true, true, false, false, true, false, false, false, false, false]) h824q rfl rfl (by kernel_rfl) rfl rfl (.slice A709q p0.f0.length c710q) (fun w_ hs_ => (run_load1 rfl rfl Tryd.underlying23 rfl hs_.1)) ⟨(hS808q.cell (i := 0) rfl), (fun _ _ hk_ => (hS808q.bring 1 rfl rfl).pool.kn hk_), trivial⟩ (fun _ _ _ h_ => h_) (fun a825q h826q => ?_)
      clear h824q a823q
      refine WT.take 8 (listed' := #[true, true, true, true, true, true, true, true, true, false, true, false, false, false, false, false]) h826q rfl rfl (by kernel_rfl) rfl rfl (.int .i64 (p0.f0.length : Int)) (fun _ _ => by kernel_rfl) ⟨(hS808q.cell (i := 0) rfl), (fun _ _ hk_ => (hS808q.bring 1 rfl rfl).pool.kn hk_), trivial⟩ (fun _ _ _ h_ => h_) (fun a827q h828q => ?_)
      clear h826q a825q
      refine WT.take 9 (listed' := #[true, true, true, true, true, true, true, true, true, true, true, false, false, false, false, false]) h828q rfl rfl (by kernel_rfl) rfl rfl (.int .i64 (IntKind.i64.wrap ((p0.f0.length : Int) - 1))) (fun _ _ => by kernel_rfl) ⟨(hS808q.cell (i := 0) rfl), (fun _ _ hk_ => (hS808q.bring 1 rfl rfl).pool.kn hk_), trivial⟩ (fun _ _ _ h_ => h_) (fun a829q h830q => ?_)
      clear h828q a827q
      refine WT.take 11 (listed' := #[true, true, true, true, true, true, true, true, true, true, true, true, false, false, false, false]) h830q rfl rfl (by kernel_rfl) rfl rfl (.int .i64 (IntKind.i64.wrap ((IntKind.i64.wrap ((p0.f0.length : Int) - 1)) - x695q))) (fun _ _ => by kernel_rfl) ⟨(hS808q.cell (i := 0) rfl), (fun _ _ hk_ => (hS808q.bring 1 rfl rfl).pool.kn hk_), trivial⟩ (fun _ _ _ h_ => h_) (fun a831q h832q => ?_)
      clear h830q a829q
      by_cases c833q : 0 ≤ (IntKind.i64.wrap ((IntKind.i64.wrap ((p0.f0.length : Int) - 1)) - x695q))
      · rw [if_pos c833q] at H
        by_cases c834q : (IntKind.i64.wrap ((IntKind.i64.wrap ((p0.f0.length : Int) - 1)) - x695q)) < (p0.f0.length : Int)
        · rw [if_pos c834q] at H
          have hi837q : 0 ≤ IntKind.i64.wrap ((IntKind.i64.wrap ((p0.f0.length : Int) - 1)) - x695q) := by first | assumption | omega
          have hi838q : (IntKind.i64.wrap ((IntKind.i64.wrap ((p0.f0.length : Int) - 1)) - x695q)) < (p0.f0.length : Int) := by first | assumption | omega
          obtain ⟨ad835q, _, ha836q, -, -⟩ := Rds.elemAny hr708q.rds hi837q (gt_get (z := z29) hi837q hi838q)
          refine WT.take 12 (listed' := #[true, true, true, true, true, true, true, true, true, true, true, true, true, false, false, false]) h832q rfl rfl (by kernel_rfl) rfl rfl (.pointer (some (ad835q.add ((IntKind.i64.wrap ((IntKind.i64.wrap ((p0.f0.length : Int) - 1)) - x695q)).toNat * 3)))) (fun w_ hs_ => (run_idx (ad := ad835q) (sz := 3) rfl (by rw [← ha836q]; rfl) rfl Tryd.underlying23 (by kernel_rfl) hi837q hi838q)) ⟨(hS808q.cell (i := 0) rfl), (fun _ _ hk_ => (hS808q.bring 1 rfl rfl).pool.kn hk_), trivial⟩ (fun _ _ _ h_ => h_) (fun a839q h840q => ?_)
          clear h832q a831q
          obtain ⟨ad841q, cs842q, ha843q, hr845q, hc844q⟩ := Rds.elemAny hr708q.rds hi837q (gt_get (z := z29) hi837q hi838q)
          rw [ha836q] at ha843q; obtain rfl := Option.some.inj ha843q
          obtain rfl := k29qrd hr845q
          refine WT.take 13 (listed' := #[true, true, true, true, true, true, true, true, true, true, true, true, true, true, false, false]) h840q rfl rfl (by kernel_rfl) rfl rfl (.agg #[.string (mkS ((gt z29 p0.f0 (IntKind.i64.wrap ((IntKind.i64.wrap ((p0.f0.length : Int) - 1)) - x695q))).f0)), .string (mkS ((gt z29 p0.f0 (IntKind.i64.wrap ((IntKind.i64.wrap ((p0.f0.length : Int) - 1)) - x695q))).f1)), .bool ((gt z29 p0.f0 (IntKind.i64.wrap ((IntKind.i64.wrap ((p0.f0.length : Int) - 1)) - x695q))).f2)]) (fun w_ hs_ => (run_loadN rfl rfl Tryd.underlying29 rfl (cs := ([.string (mkS ((gt z29 p0.f0 (IntKind.i64.wrap ((IntKind.i64.wrap ((p0.f0.length : Int) - 1)) - x695q))).f0)), .string (mkS ((gt z29 p0.f0 (IntKind.i64.wrap ((IntKind.i64.wrap ((p0.f0.length : Int) - 1)) - x695q))).f1)), .bool ((gt z29 p0.f0 (IntKind.i64.wrap ((IntKind.i64.wrap ((p0.f0.length : Int) - 1)) - x695q))).f2)] : List Value)) (by kernel_rfl) (hc844q _ hs_.2.1))) ⟨(hS808q.cell (i := 0) rfl), (fun _ _ hk_ => (hS808q.bring 1 rfl rfl).pool.kn hk_), trivial⟩ (fun _ _ _ h_ => h_) (fun a846q h847q => ?_)
          clear h840q a839q
          refine WT.op 14 (listed' := #[true, true, true, true, true, true, true, true, true, true, true, true, true, true, true, false]) h847q rfl (by kernel_rfl) rfl rfl ?_
          refine owp_new (fun g_ => .pointer (some ⟨g_, 0, none⟩)) (.cells ([.string (mkS ([] : List UInt8)), .string (mkS ([] : List UInt8)), .bool false] : List Value).toArray 29 (0, 0)) h847q rfl (by kernel_rfl) (by kernel_rfl) hS808q (fun a848q W850q g851q h849q hS852q => ?_)
          clear h847q a846q
          refine ⟨.inr ⟨((hS852q.bring 1 rfl rfl).cell (i := 0) rfl), (fun _ _ hk_ => (hS852q.bring 2 rfl rfl).pool.kn hk_), trivial⟩, ?_⟩
          refine WT.op 15 (listed' := #[true, true, true, true, true, true, true, true, true, true, true, true, true, true, true, true]) h849q rfl (by kernel_rfl) rfl rfl ?_
          refine owp_store (i := 0) (vs := ([.string (mkS ((gt z29 p0.f0 (IntKind.i64.wrap ((IntKind.i64.wrap ((p0.f0.length : Int) - 1)) - x695q))).f0)), .string (mkS ((gt z29 p0.f0 (IntKind.i64.wrap ((IntKind.i64.wrap ((p0.f0.length : Int) - 1)) - x695q))).f1)), .bool ((gt z29 p0.f0 (IntKind.i64.wrap ((IntKind.i64.wrap ((p0.f0.length : Int) - 1)) - x695q))).f2)] : List Value)) h849q rfl (by kernel_rfl) rfl rfl rfl rfl (by simp [Value.oneCell']) (by kernel_rfl) hS852q (by simp) (cs' := ([.string (mkS ((gt z29 p0.f0 (IntKind.i64.wrap ((IntKind.i64.wrap ((p0.f0.length : Int) - 1)) - x695q))).f0)), .string (mkS ((gt z29 p0.f0 (IntKind.i64.wrap ((IntKind.i64.wrap ((p0.f0.length : Int) - 1)) - x695q))).f1)), .bool ((gt z29 p0.f0 (IntKind.i64.wrap ((IntKind.i64.wrap ((p0.f0.length : Int) - 1)) - x695q))).f2)] : List Value)) rfl (fun a853q W855q h854q hS856q => ?_)
          clear h849q a848q
          refine ⟨.inl (by decide), ?_⟩
          refine WT.done (by kernel_rfl) ?_
          refine wp_seq ?_
          refine WL.start ?_
          obtain ⟨r858q, A857q, H⟩ := bind1 H
          refine WL.op' (m := 0) h854q rfl rfl ?_
          refine owp_call [] h854q rfl (by kernel_rfl) rfl Tryd.func27 (by kernel_rfl) rfl (by kernel_rfl) (statics_Len.calls  A857q hS856q) (fun e860q W859q hp861q => ?_)
          obtain ⟨rfl, hS864q⟩ := hp861q
          refine ⟨_, rfl, fun a862q h863q => ?_⟩
          clear h854q a853q
          refine WL.block (c := 4) (m' := 5) h863q rfl [(12, .int .i64 (IntKind.i64.wrap ((IntKind.i64.wrap (r858q + 1)) + x695q))), (51, .int .i64 (IntKind.i64.wrap ((IntKind.i64.wrap (r858q + 1)) + x695q))), (50, .int .i64 x695q), (49, .int .i64 (IntKind.i64.wrap (r858q + 1)))] (by kernel_rfl) (fun a865q h866q => ?_)
          clear h863q a862q
          refine WL.done (by kernel_rfl) ?_
          refine wp_block ?_
          refine wp_seq ?_
          refine WL.start ?_
          refine WL.block (c := 1) (m' := 1) h866q rfl [(53, .pointer (some ⟨g851q, 0, none⟩))] (by kernel_rfl) (fun a867q h868q => ?_)
          clear h866q a865q
          refine WL.op' (m := 1) h868q rfl rfl ?_
          refine owp_run (v := .string (mkS ((gt z29 p0.f0 (IntKind.i64.wrap ((IntKind.i64.wrap ((p0.f0.length : Int) - 1)) - x695q))).f0))) h868q rfl (by kernel_rfl) (run_load1 rfl rfl Tryd.underlying9 rfl (hS864q.cell (i := 0) rfl)) (fun a869q h870q => ?_)
          clear h868q a867q
          refine WL.block (c := 1) (m' := 3) h870q rfl [(55, .string (mkS p1))] (by kernel_rfl) (fun a871q h872q => ?_)
          clear h870q a869q
          refine WL.op' (m := 3) h872q rfl rfl ?_
          refine owp_run (v := .bool (!decide (((gt z29 p0.f0 (IntKind.i64.wrap ((IntKind.i64.wrap ((p0.f0.length : Int) - 1)) - x695q))).f0) = p1))) h872q rfl (by kernel_rfl) (run_strne rfl rfl rfl) (fun a873q h874q => ?_)
          clear h872q a871q
          refine WL.block (c := 1) (m' := 5) h874q rfl [(52, .bool (!decide (((gt z29 p0.f0 (IntKind.i64.wrap ((IntKind.i64.wrap ((p0.f0.length : Int) - 1)) - x695q))).f0) = p1)))] (by kernel_rfl) (fun a875q h876q => ?_)
          clear h874q a873q
          refine WL.done (by kernel_rfl) ?_
          by_cases c877q : ((gt z29 p0.f0 (IntKind.i64.wrap ((IntKind.i64.wrap ((p0.f0.length : Int) - 1)) - x695q))).f0) = p1
          · rw [if_pos c877q] at H
            have hb_ : (decide (((gt z29 p0.f0 (IntKind.i64.wrap ((IntKind.i64.wrap ((p0.f0.length : Int) - 1)) - x695q))).f0) = p1)) = true := decide_eq_true c877q
            try rw [hb_] at h876q
            clear hb_
            refine wp_else h876q rfl ?_
            refine wp_seq ?_
            refine WL.start ?_
            refine WL.block (c := 1) (m' := 1) h876q rfl [(58, .pointer (some ⟨g851q, 1, none⟩))] (by kernel_rfl) (fun a878q h879q => ?_)
            clear h876q a875q
            refine WL.op' (m := 1) h879q rfl rfl ?_
            refine owp_run (v := .string (mkS ((gt z29 p0.f0 (IntKind.i64.wrap ((IntKind.i64.wrap ((p0.f0.length : Int) - 1)) - x695q))).f1))) h879q rfl (by kernel_rfl) (run_load1 rfl rfl Tryd.underlying9 rfl (hS864q.cell (i := 1) rfl)) (fun a880q h881q => ?_)
            clear h879q a878q
            refine WL.block (c := 1) (m' := 3) h881q rfl [(60, .string (mkS p2))] (by kernel_rfl) (fun a882q h883q => ?_)
            clear h881q a880q
            refine WL.op' (m := 3) h883q rfl rfl ?_
            refine owp_run (v := .bool (decide (((gt z29 p0.f0 (IntKind.i64.wrap ((IntKind.i64.wrap ((p0.f0.length : Int) - 1)) - x695q))).f1) = p2))) h883q rfl (by kernel_rfl) (run_streq rfl rfl rfl) (fun a884q h885q => ?_)
            clear h883q a882q
            refine WL.block (c := 1) (m' := 5) h885q rfl [(57, .bool (decide (((gt z29 p0.f0 (IntKind.i64.wrap ((IntKind.i64.wrap ((p0.f0.length : Int) - 1)) - x695q))).f1) = p2)))] (by kernel_rfl) (fun a886q h887q => ?_)
            clear h885q a884q
            refine WL.done (by kernel_rfl) ?_
            by_cases c888q : ((gt z29 p0.f0 (IntKind.i64.wrap ((IntKind.i64.wrap ((p0.f0.length : Int) - 1)) - x695q))).f1) = p2
            · rw [if_pos c888q] at H
              have hb_ : (decide (((gt z29 p0.f0 (IntKind.i64.wrap ((IntKind.i64.wrap ((p0.f0.length : Int) - 1)) - x695q))).f1) = p2)) = true := decide_eq_true c888q
              try rw [hb_] at h887q
              clear hb_
              refine wp_then h887q rfl ?_
              refine wp_seq ?_
              refine WL.start ?_
              refine WL.block (c := 3) (m' := 3) h887q rfl [(7, .bool true), (6, .int .i64 (IntKind.i64.wrap ((IntKind.i64.wrap (r858q + 1)) + x695q))), (62, .int .i64 (IntKind.i64.wrap ((IntKind.i64.wrap (r858q + 1)) + x695q)))] (by kernel_rfl) (fun a889q h890q => ?_)
              clear h887q a886q
              refine WL.done (by kernel_rfl) ?_
              refine wp_ret ?_
              have hS891q : St b w0 W859q R (M704q :: [(g851q, .cells ([.string (mkS ((gt z29 p0.f0 (IntKind.i64.wrap ((IntKind.i64.wrap ((p0.f0.length : Int) - 1)) - x695q))).f0)), .string (mkS ((gt z29 p0.f0 (IntKind.i64.wrap ((IntKind.i64.wrap ((p0.f0.length : Int) - 1)) - x695q))).f1)), .bool ((gt z29 p0.f0 (IntKind.i64.wrap ((IntKind.i64.wrap ((p0.f0.length : Int) - 1)) - x695q))).f2)] : List Value).toArray 29 (0, 0))] :: [(g659q, .cells ([.slice A709q p0.f0.length c710q, .int .i64 p0.f1, .int .i64 p0.f2] : List Value).toArray 51 (0, 0))] :: Fs) := hS864q.bring 2 rfl rfl
              have hS892q : St b w0 W859q R ([(g659q, .cells ([.slice A709q p0.f0.length c710q, .int .i64 p0.f1, .int .i64 p0.f2] : List Value).toArray 51 (0, 0))] :: M704q :: [(g851q, .cells ([.string (mkS ((gt z29 p0.f0 (IntKind.i64.wrap ((IntKind.i64.wrap ((p0.f0.length : Int) - 1)) - x695q))).f0)), .string (mkS ((gt z29 p0.f0 (IntKind.i64.wrap ((IntKind.i64.wrap ((p0.f0.length : Int) - 1)) - x695q))).f1)), .bool ((gt z29 p0.f0 (IntKind.i64.wrap ((IntKind.i64.wrap ((p0.f0.length : Int) - 1)) - x695q))).f2)] : List Value).toArray 29 (0, 0))] :: Fs) := hS891q.bring 2 rfl rfl
              obtain ⟨M894q, hr893q, hM_⟩ := k51qmk (b := b) (w0 := w0) (R := R) (x := p0) (gvf0 := hr708q)
              have hp895q : Ptr k51 51 b w0 R (.pointer (some ⟨g659q, 0, none⟩)) p0 ((g659q, .cells ([.slice A709q p0.f0.length c710q, .int .i64 p0.f1, .int .i64 p0.f2] : List Value).toArray 51 (0, 0)) :: M894q) := ⟨_, _, _, rfl, rfl, hr893q⟩
              rw [hM_] at hp895q
              have hS897q : St b w0 W859q R (((g659q, .cells ([.slice A709q p0.f0.length c710q, .int .i64 p0.f1, .int .i64 p0.f2] : List Value).toArray 51 (0, 0)) :: (M704q)) :: [(g851q, .cells ([.string (mkS ((gt z29 p0.f0 (IntKind.i64.wrap ((IntKind.i64.wrap ((p0.f0.length : Int) - 1)) - x695q))).f0)), .string (mkS ((gt z29 p0.f0 (IntKind.i64.wrap ((IntKind.i64.wrap ((p0.f0.length : Int) - 1)) - x695q))).f1)), .bool ((gt z29 p0.f0 (IntKind.i64.wrap ((IntKind.i64.wrap ((p0.f0.length : Int) - 1)) - x695q))).f2)] : List Value).toArray 29 (0, 0))] :: Fs) := hS892q.assoc (by simp only [List.flatten_cons, List.append_assoc, List.cons_append, List.nil_append, List.append_nil])
              obtain ⟨M898q, hM_⟩ : ∃ y : Frag, y = ((g659q, .cells ([.slice A709q p0.f0.length c710q, .int .i64 p0.f1, .int .i64 p0.f2] : List Value).toArray 51 (0, 0)) :: (M704q)) := ⟨_, rfl⟩
              rw [← hM_] at hp895q hS897q
              clear hM_
              have hS899q : St b w0 W859q R ([(g851q, .cells ([.string (mkS ((gt z29 p0.f0 (IntKind.i64.wrap ((IntKind.i64.wrap ((p0.f0.length : Int) - 1)) - x695q))).f0)), .string (mkS ((gt z29 p0.f0 (IntKind.i64.wrap ((IntKind.i64.wrap ((p0.f0.length : Int) - 1)) - x695q))).f1)), .bool ((gt z29 p0.f0 (IntKind.i64.wrap ((IntKind.i64.wrap ((p0.f0.length : Int) - 1)) - x695q))).f2)] : List Value).toArray 29 (0, 0))] :: M898q :: Fs) := hS897q.bring 1 rfl rfl
              have hS900q : St b w0 W859q R (M898q :: Fs) := hS899q.drop_
              obtain ⟨rfl, rfl⟩ := ret2 H
              repeat (first | refine then_ret ?_ | refine inBlock_ret ?_ | refine inBlock_go ?_)
              refine body_ret (v := .tuple #[.int .i64 (IntKind.i64.wrap ((IntKind.i64.wrap (r858q + 1)) + x695q)), .bool true]) h890q (by kernel_rfl) (by kernel_rfl) ?_
              exact ⟨M898q, rfl, hp895q, hS900q⟩
            · rw [if_neg c888q] at H
              have hb_ : (decide (((gt z29 p0.f0 (IntKind.i64.wrap ((IntKind.i64.wrap ((p0.f0.length : Int) - 1)) - x695q))).f1) = p2)) = false := decide_eq_false c888q
              try rw [hb_] at h887q
              clear hb_
              refine wp_else h887q rfl ?_
              refine wp_seq ?_
              refine WL.start ?_
              refine WL.block (c := 3) (m' := 3) h887q rfl [(63, .bool (decide (x694q = 0))), (65, .bool (decide (x694q = 0))), (64, .int .i64 x694q)] (by kernel_rfl) (fun a901q h902q => ?_)
              clear h887q a886q
              refine WL.done (by kernel_rfl) ?_
              by_cases c903q : x694q = 0
              · rw [if_pos c903q] at H
                have hb_ : (decide (x694q = 0)) = true := decide_eq_true c903q
                try rw [hb_] at h902q
                clear hb_
                refine wp_then h902q rfl ?_
                refine WL.start ?_
                refine WL.block (c := 2) (m' := 2) h902q rfl [(8, .int .i64 (IntKind.i64.wrap ((IntKind.i64.wrap (r858q + 1)) + x695q))), (66, .int .i64 (IntKind.i64.wrap ((IntKind.i64.wrap (r858q + 1)) + x695q)))] (by kernel_rfl) (fun a904q h905q => ?_)
                clear h902q a901q
                refine WL.done (by kernel_rfl) ?_
                refine WL.start ?_
                refine WL.block (c := 2) (m' := 2) h905q rfl [(31, .int .i64 (IntKind.i64.wrap (x695q + 1))), (67, .int .i64 (IntKind.i64.wrap (x695q + 1)))] (by kernel_rfl) (fun a906q h907q => ?_)
                clear h905q a904q
                refine WL.done (by kernel_rfl) ?_
                have hS908q : St b w0 W859q R (M704q :: [(g851q, .cells ([.string (mkS ((gt z29 p0.f0 (IntKind.i64.wrap ((IntKind.i64.wrap ((p0.f0.length : Int) - 1)) - x695q))).f0)), .string (mkS ((gt z29 p0.f0 (IntKind.i64.wrap ((IntKind.i64.wrap ((p0.f0.length : Int) - 1)) - x695q))).f1)), .bool ((gt z29 p0.f0 (IntKind.i64.wrap ((IntKind.i64.wrap ((p0.f0.length : Int) - 1)) - x695q))).f2)] : List Value).toArray 29 (0, 0))] :: [(g659q, .cells ([.slice A709q p0.f0.length c710q, .int .i64 p0.f1, .int .i64 p0.f2] : List Value).toArray 51 (0, 0))] :: Fs) := hS864q.bring 2 rfl rfl
                have hS909q : St b w0 W859q R ([(g659q, .cells ([.slice A709q p0.f0.length c710q, .int .i64 p0.f1, .int .i64 p0.f2] : List Value).toArray 51 (0, 0))] :: M704q :: [(g851q, .cells ([.string (mkS ((gt z29 p0.f0 (IntKind.i64.wrap ((IntKind.i64.wrap ((p0.f0.length : Int) - 1)) - x695q))).f0)), .string (mkS ((gt z29 p0.f0 (IntKind.i64.wrap ((IntKind.i64.wrap ((p0.f0.length : Int) - 1)) - x695q))).f1)), .bool ((gt z29 p0.f0 (IntKind.i64.wrap ((IntKind.i64.wrap ((p0.f0.length : Int) - 1)) - x695q))).f2)] : List Value).toArray 29 (0, 0))] :: Fs) := hS908q.bring 2 rfl rfl
                obtain ⟨M911q, hr910q, hM_⟩ := k51qmk (b := b) (w0 := w0) (R := R) (x := p0) (gvf0 := hr708q)
                have hp912q : Ptr k51 51 b w0 R (.pointer (some ⟨g659q, 0, none⟩)) p0 ((g659q, .cells ([.slice A709q p0.f0.length c710q, .int .i64 p0.f1, .int .i64 p0.f2] : List Value).toArray 51 (0, 0)) :: M911q) := ⟨_, _, _, rfl, rfl, hr910q⟩
                rw [hM_] at hp912q
                have hS914q : St b w0 W859q R (((g659q, .cells ([.slice A709q p0.f0.length c710q, .int .i64 p0.f1, .int .i64 p0.f2] : List Value).toArray 51 (0, 0)) :: (M704q)) :: [(g851q, .cells ([.string (mkS ((gt z29 p0.f0 (IntKind.i64.wrap ((IntKind.i64.wrap ((p0.f0.length : Int) - 1)) - x695q))).f0)), .string (mkS ((gt z29 p0.f0 (IntKind.i64.wrap ((IntKind.i64.wrap ((p0.f0.length : Int) - 1)) - x695q))).f1)), .bool ((gt z29 p0.f0 (IntKind.i64.wrap ((IntKind.i64.wrap ((p0.f0.length : Int) - 1)) - x695q))).f2)] : List Value).toArray 29 (0, 0))] :: Fs) := hS909q.assoc (by simp only [List.flatten_cons, List.append_assoc, List.cons_append, List.nil_append, List.append_nil])
                obtain ⟨M915q, hM_⟩ : ∃ y : Frag, y = ((g659q, .cells ([.slice A709q p0.f0.length c710q, .int .i64 p0.f1, .int .i64 p0.f2] : List Value).toArray 51 (0, 0)) :: (M704q)) := ⟨_, rfl⟩
                rw [← hM_] at hp912q hS914q
                clear hM_
                have hS916q : St b w0 W859q R ([(g851q, .cells ([.string (mkS ((gt z29 p0.f0 (IntKind.i64.wrap ((IntKind.i64.wrap ((p0.f0.length : Int) - 1)) - x695q))).f0)), .string (mkS ((gt z29 p0.f0 (IntKind.i64.wrap ((IntKind.i64.wrap ((p0.f0.length : Int) - 1)) - x695q))).f1)), .bool ((gt z29 p0.f0 (IntKind.i64.wrap ((IntKind.i64.wrap ((p0.f0.length : Int) - 1)) - x695q))).f2)] : List Value).toArray 29 (0, 0))] :: M915q :: Fs) := hS914q.bring 1 rfl rfl
                have hS917q : St b w0 W859q R (M915q :: Fs) := hS916q.drop_
                exact ⟨k696q, by omega, M915q, IntKind.i64.wrap ((IntKind.i64.wrap (r858q + 1)) + x695q), IntKind.i64.wrap (x695q + 1), h907q.keep ⟨rfl, rfl, rfl, rfl, rfl, rfl, trivial⟩, ⟨H⟩, ⟨by omega⟩, ⟨hS917q⟩, ⟨hp912q⟩⟩
              · rw [if_neg c903q] at H
                have hb_ : (decide (x694q = 0)) = false := decide_eq_false c903q
                try rw [hb_] at h902q
                clear hb_
                refine wp_else h902q rfl ?_
                refine wp_skip ?_
                refine WL.start ?_
                refine WL.block (c := 2) (m' := 2) h902q rfl [(31, .int .i64 (IntKind.i64.wrap (x695q + 1))), (67, .int .i64 (IntKind.i64.wrap (x695q + 1)))] (by kernel_rfl) (fun a918q h919q => ?_)
                clear h902q a901q
                refine WL.done (by kernel_rfl) ?_
                have hS920q : St b w0 W859q R (M704q :: [(g851q, .cells ([.string (mkS ((gt z29 p0.f0 (IntKind.i64.wrap ((IntKind.i64.wrap ((p0.f0.length : Int) - 1)) - x695q))).f0)), .string (mkS ((gt z29 p0.f0 (IntKind.i64.wrap ((IntKind.i64.wrap ((p0.f0.length : Int) - 1)) - x695q))).f1)), .bool ((gt z29 p0.f0 (IntKind.i64.wrap ((IntKind.i64.wrap ((p0.f0.length : Int) - 1)) - x695q))).f2)] : List Value).toArray 29 (0, 0))] :: [(g659q, .cells ([.slice A709q p0.f0.length c710q, .int .i64 p0.f1, .int .i64 p0.f2] : List Value).toArray 51 (0, 0))] :: Fs) := hS864q.bring 2 rfl rfl
                have hS921q : St b w0 W859q R ([(g659q, .cells ([.slice A709q p0.f0.length c710q, .int .i64 p0.f1, .int .i64 p0.f2] : List Value).toArray 51 (0, 0))] :: M704q :: [(g851q, .cells ([.string (mkS ((gt z29 p0.f0 (IntKind.i64.wrap ((IntKind.i64.wrap ((p0.f0.length : Int) - 1)) - x695q))).f0)), .string (mkS ((gt z29 p0.f0 (IntKind.i64.wrap ((IntKind.i64.wrap ((p0.f0.length : Int) - 1)) - x695q))).f1)), .bool ((gt z29 p0.f0 (IntKind.i64.wrap ((IntKind.i64.wrap ((p0.f0.length : Int) - 1)) - x695q))).f2)] : List Value).toArray 29 (0, 0))] :: Fs) := hS920q.bring 2 rfl rfl
                obtain ⟨M923q, hr922q, hM_⟩ := k51qmk (b := b) (w0 := w0) (R := R) (x := p0) (gvf0 := hr708q)
                have hp924q : Ptr k51 51 b w0 R (.pointer (some ⟨g659q, 0, none⟩)) p0 ((g659q, .cells ([.slice A709q p0.f0.length c710q, .int .i64 p0.f1, .int .i64 p0.f2] : List Value).toArray 51 (0, 0)) :: M923q) := ⟨_, _, _, rfl, rfl, hr922q⟩
                rw [hM_] at hp924q
                have hS926q : St b w0 W859q R (((g659q, .cells ([.slice A709q p0.f0.length c710q, .int .i64 p0.f1, .int .i64 p0.f2] : List Value).toArray 51 (0, 0)) :: (M704q)) :: [(g851q, .cells ([.string (mkS ((gt z29 p0.f0 (IntKind.i64.wrap ((IntKind.i64.wrap ((p0.f0.length : Int) - 1)) - x695q))).f0)), .string (mkS ((gt z29 p0.f0 (IntKind.i64.wrap ((IntKind.i64.wrap ((p0.f0.length : Int) - 1)) - x695q))).f1)), .bool ((gt z29 p0.f0 (IntKind.i64.wrap ((IntKind.i64.wrap ((p0.f0.length : Int) - 1)) - x695q))).f2)] : List Value).toArray 29 (0, 0))] :: Fs) := hS921q.assoc (by simp only [List.flatten_cons, List.append_assoc, List.cons_append, List.nil_append, List.append_nil])
                obtain ⟨M927q, hM_⟩ : ∃ y : Frag, y = ((g659q, .cells ([.slice A709q p0.f0.length c710q, .int .i64 p0.f1, .int .i64 p0.f2] : List Value).toArray 51 (0, 0)) :: (M704q)) := ⟨_, rfl⟩
                rw [← hM_] at hp924q hS926q
                clear hM_
                have hS928q : St b w0 W859q R ([(g851q, .cells ([.string (mkS ((gt z29 p0.f0 (IntKind.i64.wrap ((IntKind.i64.wrap ((p0.f0.length : Int) - 1)) - x695q))).f0)), .string (mkS ((gt z29 p0.f0 (IntKind.i64.wrap ((IntKind.i64.wrap ((p0.f0.length : Int) - 1)) - x695q))).f1)), .bool ((gt z29 p0.f0 (IntKind.i64.wrap ((IntKind.i64.wrap ((p0.f0.length : Int) - 1)) - x695q))).f2)] : List Value).toArray 29 (0, 0))] :: M927q :: Fs) := hS926q.bring 1 rfl rfl
                have hS929q : St b w0 W859q R (M927q :: Fs) := hS928q.drop_
                exact ⟨k696q, by omega, M927q, x694q, IntKind.i64.wrap (x695q + 1), h919q.keep ⟨rfl, rfl, rfl, rfl, rfl, rfl, trivial⟩, ⟨H⟩, ⟨by omega⟩, ⟨hS929q⟩, ⟨hp924q⟩⟩
          · rw [if_neg c877q] at H
            have hb_ : (decide (((gt z29 p0.f0 (IntKind.i64.wrap ((IntKind.i64.wrap ((p0.f0.length : Int) - 1)) - x695q))).f0) = p1)) = false := decide_eq_false c877q
            try rw [hb_] at h876q
            clear hb_
            refine wp_then h876q rfl ?_
            refine wp_skip ?_
            refine WL.start ?_
            refine WL.block (c := 2) (m' := 2) h876q rfl [(31, .int .i64 (IntKind.i64.wrap (x695q + 1))), (67, .int .i64 (IntKind.i64.wrap (x695q + 1)))] (by kernel_rfl) (fun a930q h931q => ?_)
            clear h876q a875q
            refine WL.done (by kernel_rfl) ?_
            have hS932q : St b w0 W859q R (M704q :: [(g851q, .cells ([.string (mkS ((gt z29 p0.f0 (IntKind.i64.wrap ((IntKind.i64.wrap ((p0.f0.length : Int) - 1)) - x695q))).f0)), .string (mkS ((gt z29 p0.f0 (IntKind.i64.wrap ((IntKind.i64.wrap ((p0.f0.length : Int) - 1)) - x695q))).f1)), .bool ((gt z29 p0.f0 (IntKind.i64.wrap ((IntKind.i64.wrap ((p0.f0.length : Int) - 1)) - x695q))).f2)] : List Value).toArray 29 (0, 0))] :: [(g659q, .cells ([.slice A709q p0.f0.length c710q, .int .i64 p0.f1, .int .i64 p0.f2] : List Value).toArray 51 (0, 0))] :: Fs) := hS864q.bring 2 rfl rfl
            have hS933q : St b w0 W859q R ([(g659q, .cells ([.slice A709q p0.f0.length c710q, .int .i64 p0.f1, .int .i64 p0.f2] : List Value).toArray 51 (0, 0))] :: M704q :: [(g851q, .cells ([.string (mkS ((gt z29 p0.f0 (IntKind.i64.wrap ((IntKind.i64.wrap ((p0.f0.length : Int) - 1)) - x695q))).f0)), .string (mkS ((gt z29 p0.f0 (IntKind.i64.wrap ((IntKind.i64.wrap ((p0.f0.length : Int) - 1)) - x695q))).f1)), .bool ((gt z29 p0.f0 (IntKind.i64.wrap ((IntKind.i64.wrap ((p0.f0.length : Int) - 1)) - x695q))).f2)] : List Value).toArray 29 (0, 0))] :: Fs) := hS932q.bring 2 rfl rfl
            obtain ⟨M935q, hr934q, hM_⟩ := k51qmk (b := b) (w0 := w0) (R := R) (x := p0) (gvf0 := hr708q)
            have hp936q : Ptr k51 51 b w0 R (.pointer (some ⟨g659q, 0, none⟩)) p0 ((g659q, .cells ([.slice A709q p0.f0.length c710q, .int .i64 p0.f1, .int .i64 p0.f2] : List Value).toArray 51 (0, 0)) :: M935q) := ⟨_, _, _, rfl, rfl, hr934q⟩
            rw [hM_] at hp936q
            have hS938q : St b w0 W859q R (((g659q, .cells ([.slice A709q p0.f0.length c710q, .int .i64 p0.f1, .int .i64 p0.f2] : List Value).toArray 51 (0, 0)) :: (M704q)) :: [(g851q, .cells ([.string (mkS ((gt z29 p0.f0 (IntKind.i64.wrap ((IntKind.i64.wrap ((p0.f0.length : Int) - 1)) - x695q))).f0)), .string (mkS ((gt z29 p0.f0 (IntKind.i64.wrap ((IntKind.i64.wrap ((p0.f0.length : Int) - 1)) - x695q))).f1)), .bool ((gt z29 p0.f0 (IntKind.i64.wrap ((IntKind.i64.wrap ((p0.f0.length : Int) - 1)) - x695q))).f2)] : List Value).toArray 29 (0, 0))] :: Fs) := hS933q.assoc (by simp only [List.flatten_cons, List.append_assoc, List.cons_append, List.nil_append, List.append_nil])
            obtain ⟨M939q, hM_⟩ : ∃ y : Frag, y = ((g659q, .cells ([.slice A709q p0.f0.length c710q, .int .i64 p0.f1, .int .i64 p0.f2] : List Value).toArray 51 (0, 0)) :: (M704q)) := ⟨_, rfl⟩
            rw [← hM_] at hp936q hS938q
            clear hM_
            have hS940q : St b w0 W859q R ([(g851q, .cells ([.string (mkS ((gt z29 p0.f0 (IntKind.i64.wrap ((IntKind.i64.wrap ((p0.f0.length : Int) - 1)) - x695q))).f0)), .string (mkS ((gt z29 p0.f0 (IntKind.i64.wrap ((IntKind.i64.wrap ((p0.f0.length : Int) - 1)) - x695q))).f1)), .bool ((gt z29 p0.f0 (IntKind.i64.wrap ((IntKind.i64.wrap ((p0.f0.length : Int) - 1)) - x695q))).f2)] : List Value).toArray 29 (0, 0))] :: M939q :: Fs) := hS938q.bring 1 rfl rfl
            have hS941q : St b w0 W859q R (M939q :: Fs) := hS940q.drop_
            exact ⟨k696q, by omega, M939q, x694q, IntKind.i64.wrap (x695q + 1), h931q.keep ⟨rfl, rfl, rfl, rfl, rfl, rfl, trivial⟩, ⟨H⟩, ⟨by omega⟩, ⟨hS941q⟩, ⟨hp936q⟩⟩
        · rw [if_neg c834q] at H
          cases H
      · rw [if_neg c833q] at H
        cases H
    · rw [if_neg c699q] at H
      have hb_ : (decide (x695q < (p0.f0.length : Int))) = false := decide_eq_false c699q
      try rw [hb_] at h698q
      clear hb_
      refine wp_else h698q rfl ?_
      refine wp_exit ?_
      refine wp_seq ?_
      refine WL.start ?_
      refine WL.block (c := 3) (m' := 3) h698q rfl [(7, .bool false), (6, .int .i64 x694q), (68, .int .i64 x694q)] (by kernel_rfl) (fun a942q h943q => ?_)
      clear h698q a697q
      refine WL.done (by kernel_rfl) ?_
      refine wp_ret ?_
      obtain ⟨rfl, rfl⟩ := ret2 H
      repeat (first | refine then_ret ?_ | refine inBlock_ret ?_ | refine inBlock_go ?_)
      refine body_ret (v := .tuple #[.int .i64 x694q, .bool false]) h943q (by kernel_rfl) (by kernel_rfl) ?_
      exact ⟨M692q, rfl, hr693q, hS690q⟩

/-! ### (*louver/dyntable.Table).Find -/
def dyntable_Table_Find_nil.f (k : Nat) (p1 : (List UInt8)) (p2 : (List UInt8)) : Option (Int × Bool) := bnd2 (statics_Find.f k p1 p2) fun r40q r41q => (if r41q = true then (some (r40q, true)) else (some (r40q, false)))
set_option maxHeartbeats 2000000 in
set_option maxRecDepth 100000 in
theorem dyntable_Table_Find_nil.calls (k : Nat) {b : Nat} {w0 W : World} {R : Frag} {Fs : List Frag} {p1 : (List UInt8)} {p2 : (List UInt8)}  {r0q : Int} {r1q : Bool} (hg0 : Rds k29 b w0 [] (.slice (some ⟨0, 0, none⟩) 61 61) G0) (H : dyntable_Table_Find_nil.f k p1 p2 = some (r0q, r1q)) (hS : St b w0 W R (Fs)) :
    Calls Tryd.prog 15 ([.pointer none, .string (mkS p1), .string (mkS p2)] : List Value).toArray W (fun e W' => e = .returned (.tuple #[.int .i64 r0q, .bool r1q]) ∧ St b w0 W' R (Fs)) := by
  unfold dyntable_Table_Find_nil.f at H
  refine calls_enter Tryd.func15 rfl 69 rfl (by kernel_rfl) (fun a h => ?_)
  refine wp_seq ?_
  refine WL.start ?_
  refine WL.block (c := 2) (m' := 2) h rfl [(7, .bool false), (6, .int .i64 0)] (by kernel_rfl) (fun a35q h36q => ?_)
  refine WL.done (by kernel_rfl) ?_
  refine wp_seq ?_
  refine WL.start ?_
  refine WL.block (c := 2) (m' := 2) h36q rfl [(15, .string (mkS p2)), (14, .string (mkS p1))] (by kernel_rfl) (fun a37q h38q => ?_)
  clear h36q a35q
  obtain ⟨r40q, r41q, A39q, H⟩ := bind2 H
  refine WL.op' (m := 2) h38q rfl rfl ?_
  refine owp_call [.string (mkS p1), .string (mkS p2)] h38q rfl (by kernel_rfl) rfl Tryd.func28 (by kernel_rfl) rfl (by kernel_rfl) (statics_Find.calls k hg0 A39q hS) (fun e43q W42q hp44q => ?_)
  obtain ⟨rfl, hS47q⟩ := hp44q
  refine ⟨_, rfl, fun a45q h46q => ?_⟩
  clear h38q a37q
  refine WL.block (c := 5) (m' := 8) h46q rfl [(9, .bool r41q), (8, .int .i64 r40q), (18, .bool r41q), (17, .int .i64 r40q), (13, .tuple #[.int .i64 r40q, .bool r41q])] (by kernel_rfl) (fun a48q h49q => ?_)
  clear h46q a45q
  refine WL.done (by kernel_rfl) ?_
  refine wp_seq ?_
  refine wp_seq ?_
  refine WL.start ?_
  refine WL.block (c := 2) (m' := 2) h49q rfl [(20, .bool r41q), (19, .bool r41q)] (by kernel_rfl) (fun a50q h51q => ?_)
  clear h49q a48q
  by_cases c52q : r41q = true
  · rw [if_pos c52q] at H
    have hb_ : r41q = true := c52q
    try rw [hb_] at h51q
    clear hb_
    refine WL.skipped (m := 2) h51q rfl rfl (by kernel_rfl) rfl (fun a53q h54q => ?_)
    clear h51q a50q
    refine WL.skipped (m := 3) h54q rfl rfl (by kernel_rfl) rfl (fun a55q h56q => ?_)
    clear h54q a53q
    refine WL.block (c := 1) (m' := 5) h56q rfl [(23, .bool true)] (by kernel_rfl) (fun a57q h58q => ?_)
    clear h56q a55q
    refine WL.done (by kernel_rfl) ?_
    refine wp_then h58q rfl ?_
    refine wp_seq ?_
    refine WL.start ?_
    refine WL.block (c := 4) (m' := 4) h58q rfl [(7, .bool true), (6, .int .i64 r40q), (25, .bool true), (24, .int .i64 r40q)] (by kernel_rfl) (fun a59q h60q => ?_)
    clear h58q a57q
    refine WL.done (by kernel_rfl) ?_
    refine wp_ret ?_
    obtain ⟨rfl, rfl⟩ := ret2 H
    repeat (first | refine then_ret ?_ | refine inBlock_ret ?_ | refine inBlock_go ?_)
    refine body_ret (v := .tuple #[.int .i64 r40q, .bool true]) h60q (by kernel_rfl) (by kernel_rfl) ?_
    exact ⟨rfl, hS47q⟩
  · rw [if_neg c52q] at H
    have hb_ : r41q = false := (Bool.eq_false_iff.2 c52q)
    try rw [hb_] at h51q
    clear hb_
    refine WL.op' (m := 2) h51q rfl rfl (owp_run h51q rfl (by kernel_rfl) (v := .pointer none) (by kernel_rfl) (fun a61q h62q => ?_))
    clear h51q a50q
    refine WL.op' (m := 3) h62q rfl rfl (owp_run h62q rfl (by kernel_rfl) (v := .bool true) (by kernel_rfl) (fun a63q h64q => ?_))
    clear h62q a61q
    refine WL.block (c := 1) (m' := 5) h64q rfl [(23, .bool true)] (by kernel_rfl) (fun a65q h66q => ?_)
    clear h64q a63q
    refine WL.done (by kernel_rfl) ?_
    refine wp_then h66q rfl ?_
    refine wp_seq ?_
    refine WL.start ?_
    refine WL.block (c := 4) (m' := 4) h66q rfl [(7, .bool false), (6, .int .i64 r40q), (25, .bool false), (24, .int .i64 r40q)] (by kernel_rfl) (fun a67q h68q => ?_)
    clear h66q a65q
    refine WL.done (by kernel_rfl) ?_
    refine wp_ret ?_
    obtain ⟨rfl, rfl⟩ := ret2 H
    repeat (first | refine then_ret ?_ | refine inBlock_ret ?_ | refine inBlock_go ?_)
    refine body_ret (v := .tuple #[.int .i64 r40q, .bool false]) h68q (by kernel_rfl) (by kernel_rfl) ?_
    exact ⟨rfl, hS47q⟩

/-! ### louver/louverlaw05.DyntableSame -/
mutual
def louverlaw05qDyntableSame.l0 : Nat → S51 → S51 → S51 → Int → (List S29) → Option (Bool)
  | 0, _, _, _, _, _ => none
  | k + 1, x1676q, x1679q, x1682q, x1685q, p2 => if x1685q < (p2.length : Int) then (if 0 ≤ x1685q then (bnd1 (dyntable_Table_Add.f k x1676q (⟨(gt z29 p2 x1685q).f0, (gt z29 p2 x1685q).f1, (gt z29 p2 x1685q).f2⟩ : S29)) fun r1721q => (bnd2 (dyntable_Table_Find.f k x1679q ((gt z29 p2 x1685q).f0) ((gt z29 p2 x1685q).f1)) fun r1741q r1742q => (bnd1 (dyntable_Table_Add.f k x1679q (⟨(gt z29 p2 x1685q).f0, (gt z29 p2 x1685q).f1, (gt z29 p2 x1685q).f2⟩ : S29)) fun r1758q => (bnd1 (dyntable_Table_Add.f k x1682q (⟨(gt z29 p2 x1685q).f0, (gt z29 p2 x1685q).f1, (gt z29 p2 x1685q).f2⟩ : S29)) fun r1774q => (louverlaw05qDyntableSame.l0 k r1721q r1758q r1774q (IntKind.i64.wrap (x1685q + 1)) p2))))) else (none)) else (bnd1 (dyntable_Table_Len.f x1676q) fun r1792q => (bnd1 (dyntable_Table_Len.f x1679q) fun r1805q => (if r1792q = r1805q then (bnd1 (dyntable_Table_Len.f x1676q) fun r1821q => (bnd1 (dyntable_Table_Len.f x1682q) fun r1834q => (if r1821q > r1834q then (some false) else (bnd1 (dyntable_Table_Len.f x1676q) fun r1857q => (louverlaw05qDyntableSame.l1 k 0 r1857q x1676q x1679q x1682q))))) else (some false))))
def louverlaw05qDyntableSame.l1 : Nat → Int → Int → S51 → S51 → S51 → Option (Bool)
  | 0, _, _, _, _, _ => none
  | k + 1, x1879q, r1857q, x1676q, x1679q, x1682q => if x1879q < r1857q then (bnd2 (dyntable_Table_At.f x1676q (IntKind.i64.wrap (62 + x1879q))) fun r1892q r1893q => (bnd2 (dyntable_Table_At.f x1679q (IntKind.i64.wrap (62 + x1879q))) fun r1919q r1920q => (bnd2 (dyntable_Table_At.f x1682q (IntKind.i64.wrap (62 + x1879q))) fun r1946q r1947q => (if (decide (r1892q.f0 = r1919q.f0) && (decide (r1892q.f1 = r1919q.f1) && decide (r1892q.f2 = r1919q.f2))) = true then (if (decide (r1892q.f0 = r1946q.f0) && (decide (r1892q.f1 = r1946q.f1) && decide (r1892q.f2 = r1946q.f2))) = true then (louverlaw05qDyntableSame.l1 k (IntKind.i64.wrap (x1879q + 1)) r1857q x1676q x1679q x1682q) else (some false)) else (some false))))) else (bnd1 (louverlaw05qfixed.f k) fun r2023q => (some r2023q))
end
def louverlaw05qDyntableSame.f (k : Nat) (p0 : Int) (p1 : Int) (p2 : (List S29)) : Option (Bool) := bnd1 (louverref05qGreat.f k p2) fun r1581q => (if r1581q = true then (bnd1 (louverlaw05qfixed.f k) fun r1600q => (some r1600q)) else (if (p2.length : Int) > 200 then (bnd1 (louverlaw05qfixed.f k) fun r1619q => (some r1619q)) else (bnd1 (dyntable_New.f p0) fun r1631q => (bnd1 (dyntable_New.f p0) fun r1644q => (bnd1 (dyntable_New.f (mxI p0 p1)) fun r1657q => (louverlaw05qDyntableSame.l0 k r1631q r1644q r1657q 0 p2))))))
set_option maxHeartbeats 2000000 in
set_option maxRecDepth 100000 in
theorem louverlaw05qDyntableSame.calls (k : Nat) {b : Nat} {w0 W : World} {R : Frag} {Fs : List Frag} {p0 : Int} {p1 : Int} {p2 : (List S29)} {v2 : Value} {r0q : Bool} (hp2 : Rds k29 b w0 R v2 p2) (hg0 : Rds k29 b w0 [] (.slice (some ⟨0, 0, none⟩) 61 61) G0) (H : louverlaw05qDyntableSame.f k p0 p1 p2 = some r0q) (hS : St b w0 W R (Fs)) :
    Calls Tryd.prog 4 ([.int .u32 p0, .int .u32 p1, v2] : List Value).toArray W (fun e W' => e = .returned (.bool r0q) ∧ St b w0 W' R (Fs)) := by
  obtain ⟨A2, c2, rfl⟩ := hp2.form
  unfold louverlaw05qDyntableSame.f at H
  refine calls_enter Tryd.func4 rfl 105 rfl (by kernel_rfl) (fun a h => ?_)
  refine wp_seq ?_
  refine WL.start ?_
  refine WL.block (c := 1) (m' := 1) h rfl [(6, .bool false)] (by kernel_rfl) (fun a1576q h1577q => ?_)
  refine WL.done (by kernel_rfl) ?_
  refine wp_seq ?_
  refine wp_seq ?_
  refine WL.start ?_
  refine WL.block (c := 1) (m' := 1) h1577q rfl [(19, .slice A2 p2.length c2)] (by kernel_rfl) (fun a1578q h1579q => ?_)
  clear h1577q a1576q
  obtain ⟨r1581q, A1580q, H⟩ := bind1 H
  refine WL.op' (m := 1) h1579q rfl rfl ?_
  refine owp_call [.slice A2 p2.length c2] h1579q rfl (by kernel_rfl) rfl Tryd.func7 (by kernel_rfl) rfl (by kernel_rfl) (louverref05qGreat.calls k hp2 A1580q hS) (fun e1583q W1582q hp1584q => ?_)
  obtain ⟨rfl, hS1587q⟩ := hp1584q
  refine ⟨_, rfl, fun a1585q h1586q => ?_⟩
  clear h1579q a1578q
  refine WL.block (c := 1) (m' := 3) h1586q rfl [(21, .bool r1581q)] (by kernel_rfl) (fun a1588q h1589q => ?_)
  clear h1586q a1585q
  by_cases c1590q : r1581q = true
  · rw [if_pos c1590q] at H
    have hb_ : r1581q = true := c1590q
    try rw [hb_] at h1589q
    clear hb_
    refine WL.skipped (m := 3) h1589q rfl rfl (by kernel_rfl) rfl (fun a1591q h1592q => ?_)
    clear h1589q a1588q
    refine WL.skipped (m := 4) h1592q rfl rfl (by kernel_rfl) rfl (fun a1593q h1594q => ?_)
    clear h1592q a1591q
    refine WL.skipped (m := 5) h1594q rfl rfl (by kernel_rfl) rfl (fun a1595q h1596q => ?_)
    clear h1594q a1593q
    refine WL.block (c := 1) (m' := 7) h1596q rfl [(25, .bool true)] (by kernel_rfl) (fun a1597q h1598q => ?_)
    clear h1596q a1595q
    refine WL.done (by kernel_rfl) ?_
    refine wp_then h1598q rfl ?_
    refine wp_seq ?_
    refine WL.start ?_
    obtain ⟨r1600q, A1599q, H⟩ := bind1 H
    refine WL.op' (m := 0) h1598q rfl rfl ?_
    refine owp_call [] h1598q rfl (by kernel_rfl) rfl Tryd.func8 (by kernel_rfl) rfl (by kernel_rfl) (louverlaw05qfixed.calls k hg0 A1599q hS1587q) (fun e1602q W1601q hp1603q => ?_)
    obtain ⟨rfl, hS1606q⟩ := hp1603q
    refine ⟨_, rfl, fun a1604q h1605q => ?_⟩
    clear h1598q a1597q
    refine WL.block (c := 1) (m' := 2) h1605q rfl [(6, .bool r1600q)] (by kernel_rfl) (fun a1607q h1608q => ?_)
    clear h1605q a1604q
    refine WL.done (by kernel_rfl) ?_
    refine wp_ret ?_
    obtain rfl := Option.some.inj H
    repeat (first | refine then_ret ?_ | refine inBlock_ret ?_ | refine inBlock_go ?_)
    refine body_ret (v := .bool r1600q) h1608q (by kernel_rfl) (by kernel_rfl) ?_
    exact ⟨rfl, hS1606q⟩
  · rw [if_neg c1590q] at H
    have hb_ : r1581q = false := (Bool.eq_false_iff.2 c1590q)
    try rw [hb_] at h1589q
    clear hb_
    refine WL.op' (m := 3) h1589q rfl rfl (owp_run h1589q rfl (by kernel_rfl) (v := .slice A2 p2.length c2) (by kernel_rfl) (fun a1609q h1610q => ?_))
    clear h1589q a1588q
    refine WL.op' (m := 4) h1610q rfl rfl (owp_run h1610q rfl (by kernel_rfl) (v := .int .i64 (p2.length : Int)) (by kernel_rfl) (fun a1611q h1612q => ?_))
    clear h1610q a1609q
    refine WL.op' (m := 5) h1612q rfl rfl (owp_run h1612q rfl (by kernel_rfl) (v := .bool (decide ((p2.length : Int) > 200))) (by kernel_rfl) (fun a1613q h1614q => ?_))
    clear h1612q a1611q
    refine WL.block (c := 1) (m' := 7) h1614q rfl [(25, .bool (decide ((p2.length : Int) > 200)))] (by kernel_rfl) (fun a1615q h1616q => ?_)
    clear h1614q a1613q
    refine WL.done (by kernel_rfl) ?_
    by_cases c1617q : (p2.length : Int) > 200
    · rw [if_pos c1617q] at H
      have hb_ : (decide ((p2.length : Int) > 200)) = true := decide_eq_true c1617q
      try rw [hb_] at h1616q
      clear hb_
      refine wp_then h1616q rfl ?_
      refine wp_seq ?_
      refine WL.start ?_
      obtain ⟨r1619q, A1618q, H⟩ := bind1 H
      refine WL.op' (m := 0) h1616q rfl rfl ?_
      refine owp_call [] h1616q rfl (by kernel_rfl) rfl Tryd.func8 (by kernel_rfl) rfl (by kernel_rfl) (louverlaw05qfixed.calls k hg0 A1618q hS1587q) (fun e1621q W1620q hp1622q => ?_)
      obtain ⟨rfl, hS1625q⟩ := hp1622q
      refine ⟨_, rfl, fun a1623q h1624q => ?_⟩
      clear h1616q a1615q
      refine WL.block (c := 1) (m' := 2) h1624q rfl [(6, .bool r1619q)] (by kernel_rfl) (fun a1626q h1627q => ?_)
      clear h1624q a1623q
      refine WL.done (by kernel_rfl) ?_
      refine wp_ret ?_
      obtain rfl := Option.some.inj H
      repeat (first | refine then_ret ?_ | refine inBlock_ret ?_ | refine inBlock_go ?_)
      refine body_ret (v := .bool r1619q) h1627q (by kernel_rfl) (by kernel_rfl) ?_
      exact ⟨rfl, hS1625q⟩
    · rw [if_neg c1617q] at H
      have hb_ : (decide ((p2.length : Int) > 200)) = false := decide_eq_false c1617q
      try rw [hb_] at h1616q
      clear hb_
      refine wp_else h1616q rfl ?_
      refine wp_skip ?_
      refine wp_seq ?_
      refine WL.start ?_
      refine WL.block (c := 1) (m' := 1) h1616q rfl [(27, .int .u32 p0)] (by kernel_rfl) (fun a1628q h1629q => ?_)
      clear h1616q a1615q
      obtain ⟨r1631q, A1630q, H⟩ := bind1 H
      refine WL.op' (m := 1) h1629q rfl rfl ?_
      refine owp_call [.int .u32 p0] h1629q rfl (by kernel_rfl) rfl Tryd.func9 (by kernel_rfl) rfl (by kernel_rfl) (dyntable_New.calls  A1630q hS1587q) (fun e1633q W1632q hp1634q => ?_)
      obtain ⟨v1637q, M1638q, rfl, hr1639q, hS1640q⟩ := hp1634q
      refine ⟨_, rfl, fun a1635q h1636q => ?_⟩
      clear h1629q a1628q
      refine WL.block (c := 1) (m' := 3) h1636q rfl [(29, .int .u32 p0)] (by kernel_rfl) (fun a1641q h1642q => ?_)
      clear h1636q a1635q
      obtain ⟨r1644q, A1643q, H⟩ := bind1 H
      refine WL.op' (m := 3) h1642q rfl rfl ?_
      refine owp_call [.int .u32 p0] h1642q rfl (by kernel_rfl) rfl Tryd.func9 (by kernel_rfl) rfl (by kernel_rfl) (dyntable_New.calls  A1643q hS1640q) (fun e1646q W1645q hp1647q => ?_)
      obtain ⟨v1650q, M1651q, rfl, hr1652q, hS1653q⟩ := hp1647q
      refine ⟨_, rfl, fun a1648q h1649q => ?_⟩
      clear h1642q a1641q
      refine WL.block (c := 3) (m' := 7) h1649q rfl [(33, .int .u32 (mxI p0 p1)), (32, .int .u32 p1), (31, .int .u32 p0)] (by kernel_rfl) (fun a1654q h1655q => ?_)
      clear h1649q a1648q
      obtain ⟨r1657q, A1656q, H⟩ := bind1 H
      refine WL.op' (m := 7) h1655q rfl rfl ?_
      refine owp_call [.int .u32 (mxI p0 p1)] h1655q rfl (by kernel_rfl) rfl Tryd.func9 (by kernel_rfl) rfl (by kernel_rfl) (dyntable_New.calls  A1656q hS1653q) (fun e1659q W1658q hp1660q => ?_)
      obtain ⟨v1663q, M1664q, rfl, hr1665q, hS1666q⟩ := hp1660q
      refine ⟨_, rfl, fun a1661q h1662q => ?_⟩
      clear h1655q a1654q
      refine WL.block (c := 3) (m' := 11) h1662q rfl [(9, v1663q), (8, v1650q), (7, v1637q)] (by kernel_rfl) (fun a1667q h1668q => ?_)
      clear h1662q a1661q
      refine WL.done (by kernel_rfl) ?_
      refine wp_seq ?_
      refine wp_seq ?_
      refine WL.start ?_
      refine WL.block (c := 3) (m' := 3) h1668q rfl [(37, .int .i64 0), (36, .int .i64 (p2.length : Int)), (35, .slice A2 p2.length c2)] (by kernel_rfl) (fun a1669q h1670q => ?_)
      clear h1668q a1667q
      refine WL.done (by kernel_rfl) ?_
      refine wp_block ?_
      have hS1686q : St b w0 W1658q R (M1651q :: M1664q :: M1638q :: Fs) := hS1666q.bring 1 rfl rfl
      have hS1687q : St b w0 W1658q R (M1638q :: M1651q :: M1664q :: Fs) := hS1686q.bring 2 rfl rfl
      refine wp_loop_ghost (fun kq_ a_ W_ => ∃ (x1676q : S51), ∃ (M1677q : Frag), ∃ (x1679q : S51), ∃ (M1680q : Frag), ∃ (x1682q : S51), ∃ (M1683q : Frag), ∃ (x1685q : Int), Hd a_ 105 [(7, v1637q), (8, v1650q), (9, v1663q), (35, .slice A2 p2.length c2), (36, .int .i64 (p2.length : Int)), (37, .int .i64 x1685q)] ∧ Asd (louverlaw05qDyntableSame.l0 kq_ x1676q x1679q x1682q x1685q p2 = some r0q) ∧ Asd (kq_ ≤ k) ∧ Asd (St b w0 W_ R (M1677q :: M1680q :: M1683q :: Fs)) ∧ Asd (Ptr k51 51 b w0 R v1637q x1676q M1677q) ∧ Asd (Ptr k51 51 b w0 R v1650q x1679q M1680q) ∧ Asd (Ptr k51 51 b w0 R v1663q x1682q M1683q)) k ⟨r1631q, M1638q, r1644q, M1651q, r1657q, M1664q, 0, h1670q.keep ⟨rfl, rfl, rfl, rfl, rfl, rfl, trivial⟩, ⟨H⟩, ⟨Nat.le_refl _⟩, ⟨hS1687q⟩, ⟨hr1639q⟩, ⟨hr1652q⟩, ⟨hr1665q⟩⟩ ?_
      clear H hS1687q
      rintro k1675q a1672q W1673q ⟨x1676q, M1677q, x1679q, M1680q, x1682q, M1683q, x1685q, h1671q, ⟨H⟩, ⟨hkk1675q⟩, ⟨hS1674q⟩, ⟨hr1678q⟩, ⟨hr1681q⟩, ⟨hr1684q⟩⟩
      obtain _ | k1688q := k1675q
      · exact absurd H (by simp [louverlaw05qDyntableSame.l0])
      simp only [louverlaw05qDyntableSame.l0] at H
      refine wp_seq ?_
      refine WL.start ?_
      refine WL.block (c := 1) (m' := 1) h1671q rfl [(38, .bool (decide (x1685q < (p2.length : Int))))] (by kernel_rfl) (fun a1689q h1690q => ?_)
      clear h1671q a1672q
      refine WL.done (by kernel_rfl) ?_
      refine wp_seq ?_
      by_cases c1691q : x1685q < (p2.length : Int)
      · rw [if_pos c1691q] at H
        have hb_ : (decide (x1685q < (p2.length : Int))) = true := decide_eq_true c1691q
        try rw [hb_] at h1690q
        clear hb_
        refine wp_then h1690q rfl ?_
        refine wp_skip ?_
        refine wp_seq ?_
        refine wp_block ?_
        refine wp_seq ?_
        refine WL.start ?_
        by_cases c1692q : 0 ≤ x1685q
        · rw [if_pos c1692q] at H
          have hi1695q : 0 ≤ x1685q := by first | assumption | omega
          have hi1696q : x1685q < (p2.length : Int) := by first | assumption | omega
          obtain ⟨ad1693q, _, ha1694q, -, -⟩ := Rds.elemAny hp2 hi1695q (gt_get (z := z29) hi1695q hi1696q)
          refine WL.op' (m := 0) h1690q rfl rfl ?_
          refine owp_run (v := .pointer (some (ad1693q.add (x1685q.toNat * 3)))) h1690q rfl (by kernel_rfl) (run_idx (ad := ad1693q) (sz := 3) rfl (by rw [← ha1694q]; rfl) rfl Tryd.underlying23 (by kernel_rfl) hi1695q hi1696q) (fun a1697q h1698q => ?_)
          clear h1690q a1689q
          obtain ⟨ad1699q, cs1700q, ha1701q, hr1703q, hc1702q⟩ := Rds.elemAny hp2 hi1695q (gt_get (z := z29) hi1695q hi1696q)
          rw [ha1694q] at ha1701q; obtain rfl := Option.some.inj ha1701q
          obtain rfl := k29qrd hr1703q
          refine WL.op' (m := 1) h1698q rfl rfl ?_
          refine owp_run (v := .agg #[.string (mkS ((gt z29 p2 x1685q).f0)), .string (mkS ((gt z29 p2 x1685q).f1)), .bool ((gt z29 p2 x1685q).f2)]) h1698q rfl (by kernel_rfl) (run_loadN rfl rfl Tryd.underlying29 rfl (cs := ([.string (mkS ((gt z29 p2 x1685q).f0)), .string (mkS ((gt z29 p2 x1685q).f1)), .bool ((gt z29 p2 x1685q).f2)] : List Value)) (by kernel_rfl) (hc1702q _ (fun _ _ hk_ => hS1674q.kn hk_))) (fun a1704q h1705q => ?_)
          clear h1698q a1697q
          refine WL.op' (m := 2) h1705q rfl rfl ?_
          refine owp_new (fun g_ => .pointer (some ⟨g_, 0, none⟩)) (.cells ([.string (mkS ([] : List UInt8)), .string (mkS ([] : List UInt8)), .bool false] : List Value).toArray 29 (0, 0)) h1705q rfl (by kernel_rfl) (by kernel_rfl) hS1674q (fun a1706q W1708q g1709q h1707q hS1710q => ?_)
          clear h1705q a1704q
          refine WL.op' (m := 3) h1707q rfl rfl ?_
          refine owp_store (i := 0) (vs := ([.string (mkS ((gt z29 p2 x1685q).f0)), .string (mkS ((gt z29 p2 x1685q).f1)), .bool ((gt z29 p2 x1685q).f2)] : List Value)) h1707q rfl (by kernel_rfl) rfl rfl rfl rfl (by simp [Value.oneCell']) (by kernel_rfl) hS1710q (by simp) (cs' := ([.string (mkS ((gt z29 p2 x1685q).f0)), .string (mkS ((gt z29 p2 x1685q).f1)), .bool ((gt z29 p2 x1685q).f2)] : List Value)) rfl (fun a1711q W1713q h1712q hS1714q => ?_)
          clear h1707q a1706q
          refine WL.done (by kernel_rfl) ?_
          refine wp_seq ?_
          refine WL.start ?_
          refine WL.block (c := 1) (m' := 1) h1712q rfl [(41, v1637q)] (by kernel_rfl) (fun a1715q h1716q => ?_)
          clear h1712q a1711q
          refine WL.op' (m := 1) h1716q rfl rfl ?_
          refine owp_run (v := .agg #[.string (mkS ((gt z29 p2 x1685q).f0)), .string (mkS ((gt z29 p2 x1685q).f1)), .bool ((gt z29 p2 x1685q).f2)]) h1716q rfl (by kernel_rfl) (run_loadN rfl rfl Tryd.underlying29 rfl (cs := ([.string (mkS ((gt z29 p2 x1685q).f0)), .string (mkS ((gt z29 p2 x1685q).f1)), .bool ((gt z29 p2 x1685q).f2)] : List Value)) (by kernel_rfl) (hS1714q.cells (vs := ([.string (mkS ((gt z29 p2 x1685q).f0)), .string (mkS ((gt z29 p2 x1685q).f1)), .bool ((gt z29 p2 x1685q).f2)] : List Value)) rfl)) (fun a1717q h1718q => ?_)
          clear h1716q a1715q
          have hS1719q : St b w0 W1713q R (M1677q :: [(g1709q, .cells ([.string (mkS ((gt z29 p2 x1685q).f0)), .string (mkS ((gt z29 p2 x1685q).f1)), .bool ((gt z29 p2 x1685q).f2)] : List Value).toArray 29 (0, 0))] :: M1680q :: M1683q :: Fs) := hS1714q.bring 1 rfl rfl
          obtain ⟨r1721q, A1720q, H⟩ := bind1 H
          refine WL.op' (m := 2) h1718q rfl rfl ?_
          refine owp_call [v1637q, .agg #[.string (mkS ((gt z29 p2 x1685q).f0)), .string (mkS ((gt z29 p2 x1685q).f1)), .bool ((gt z29 p2 x1685q).f2)]] h1718q rfl (by kernel_rfl) rfl Tryd.func10 (by kernel_rfl) rfl (by kernel_rfl) (dyntable_Table_Add.calls (p1 := (⟨(gt z29 p2 x1685q).f0, (gt z29 p2 x1685q).f1, (gt z29 p2 x1685q).f2⟩ : S29)) k1688q hr1678q A1720q hS1719q) (fun e1723q W1722q hp1724q => ?_)
          obtain ⟨M1727q, rfl, hr1728q, hS1729q⟩ := hp1724q
          refine ⟨_, rfl, fun a1725q h1726q => ?_⟩
          clear h1718q a1717q
          refine WL.done (by kernel_rfl) ?_
          refine wp_seq ?_
          refine WL.start ?_
          refine WL.block (c := 2) (m' := 2) h1726q rfl [(45, .pointer (some ⟨g1709q, 0, none⟩)), (44, v1650q)] (by kernel_rfl) (fun a1730q h1731q => ?_)
          clear h1726q a1725q
          have hS1732q : St b w0 W1722q R ([(g1709q, .cells ([.string (mkS ((gt z29 p2 x1685q).f0)), .string (mkS ((gt z29 p2 x1685q).f1)), .bool ((gt z29 p2 x1685q).f2)] : List Value).toArray 29 (0, 0))] :: M1727q :: M1680q :: M1683q :: Fs) := hS1729q.bring 1 rfl rfl
          refine WL.op' (m := 2) h1731q rfl rfl ?_
          refine owp_run (v := .string (mkS ((gt z29 p2 x1685q).f0))) h1731q rfl (by kernel_rfl) (run_load1 rfl rfl Tryd.underlying9 rfl (hS1732q.cell (i := 0) rfl)) (fun a1733q h1734q => ?_)
          clear h1731q a1730q
          refine WL.block (c := 1) (m' := 4) h1734q rfl [(47, .pointer (some ⟨g1709q, 1, none⟩))] (by kernel_rfl) (fun a1735q h1736q => ?_)
          clear h1734q a1733q
          refine WL.op' (m := 4) h1736q rfl rfl ?_
          refine owp_run (v := .string (mkS ((gt z29 p2 x1685q).f1))) h1736q rfl (by kernel_rfl) (run_load1 rfl rfl Tryd.underlying9 rfl (hS1732q.cell (i := 1) rfl)) (fun a1737q h1738q => ?_)
          clear h1736q a1735q
          have hS1739q : St b w0 W1722q R (M1680q :: [(g1709q, .cells ([.string (mkS ((gt z29 p2 x1685q).f0)), .string (mkS ((gt z29 p2 x1685q).f1)), .bool ((gt z29 p2 x1685q).f2)] : List Value).toArray 29 (0, 0))] :: M1727q :: M1683q :: Fs) := hS1732q.bring 2 rfl rfl
          obtain ⟨r1741q, r1742q, A1740q, H⟩ := bind2 H
          refine WL.op' (m := 5) h1738q rfl rfl ?_
          refine owp_call [v1650q, .string (mkS ((gt z29 p2 x1685q).f0)), .string (mkS ((gt z29 p2 x1685q).f1))] h1738q rfl (by kernel_rfl) rfl Tryd.func15 (by kernel_rfl) rfl (by kernel_rfl) (dyntable_Table_Find.calls k1688q hr1681q hg0 A1740q hS1739q) (fun e1744q W1743q hp1745q => ?_)
          obtain ⟨M1748q, rfl, hr1749q, hS1750q⟩ := hp1745q
          refine ⟨_, rfl, fun a1746q h1747q => ?_⟩
          clear h1738q a1737q
          refine WL.done (by kernel_rfl) ?_
          refine wp_seq ?_
          refine WL.start ?_
          refine WL.block (c := 1) (m' := 1) h1747q rfl [(50, v1650q)] (by kernel_rfl) (fun a1751q h1752q => ?_)
          clear h1747q a1746q
          have hS1753q : St b w0 W1743q R ([(g1709q, .cells ([.string (mkS ((gt z29 p2 x1685q).f0)), .string (mkS ((gt z29 p2 x1685q).f1)), .bool ((gt z29 p2 x1685q).f2)] : List Value).toArray 29 (0, 0))] :: M1748q :: M1727q :: M1683q :: Fs) := hS1750q.bring 1 rfl rfl
          refine WL.op' (m := 1) h1752q rfl rfl ?_
          refine owp_run (v := .agg #[.string (mkS ((gt z29 p2 x1685q).f0)), .string (mkS ((gt z29 p2 x1685q).f1)), .bool ((gt z29 p2 x1685q).f2)]) h1752q rfl (by kernel_rfl) (run_loadN rfl rfl Tryd.underlying29 rfl (cs := ([.string (mkS ((gt z29 p2 x1685q).f0)), .string (mkS ((gt z29 p2 x1685q).f1)), .bool ((gt z29 p2 x1685q).f2)] : List Value)) (by kernel_rfl) (hS1753q.cells (vs := ([.string (mkS ((gt z29 p2 x1685q).f0)), .string (mkS ((gt z29 p2 x1685q).f1)), .bool ((gt z29 p2 x1685q).f2)] : List Value)) rfl)) (fun a1754q h1755q => ?_)
          clear h1752q a1751q
          have hS1756q : St b w0 W1743q R (M1748q :: [(g1709q, .cells ([.string (mkS ((gt z29 p2 x1685q).f0)), .string (mkS ((gt z29 p2 x1685q).f1)), .bool ((gt z29 p2 x1685q).f2)] : List Value).toArray 29 (0, 0))] :: M1727q :: M1683q :: Fs) := hS1753q.bring 1 rfl rfl
          obtain ⟨r1758q, A1757q, H⟩ := bind1 H
          refine WL.op' (m := 2) h1755q rfl rfl ?_
          refine owp_call [v1650q, .agg #[.string (mkS ((gt z29 p2 x1685q).f0)), .string (mkS ((gt z29 p2 x1685q).f1)), .bool ((gt z29 p2 x1685q).f2)]] h1755q rfl (by kernel_rfl) rfl Tryd.func10 (by kernel_rfl) rfl (by kernel_rfl) (dyntable_Table_Add.calls (p1 := (⟨(gt z29 p2 x1685q).f0, (gt z29 p2 x1685q).f1, (gt z29 p2 x1685q).f2⟩ : S29)) k1688q hr1749q A1757q hS1756q) (fun e1760q W1759q hp1761q => ?_)
          obtain ⟨M1764q, rfl, hr1765q, hS1766q⟩ := hp1761q
          refine ⟨_, rfl, fun a1762q h1763q => ?_⟩
          clear h1755q a1754q
          refine WL.done (by kernel_rfl) ?_
          refine WL.start ?_
          refine WL.block (c := 1) (m' := 1) h1763q rfl [(53, v1663q)] (by kernel_rfl) (fun a1767q h1768q => ?_)
          clear h1763q a1762q
          have hS1769q : St b w0 W1759q R ([(g1709q, .cells ([.string (mkS ((gt z29 p2 x1685q).f0)), .string (mkS ((gt z29 p2 x1685q).f1)), .bool ((gt z29 p2 x1685q).f2)] : List Value).toArray 29 (0, 0))] :: M1764q :: M1727q :: M1683q :: Fs) := hS1766q.bring 1 rfl rfl
          refine WL.op' (m := 1) h1768q rfl rfl ?_
          refine owp_run (v := .agg #[.string (mkS ((gt z29 p2 x1685q).f0)), .string (mkS ((gt z29 p2 x1685q).f1)), .bool ((gt z29 p2 x1685q).f2)]) h1768q rfl (by kernel_rfl) (run_loadN rfl rfl Tryd.underlying29 rfl (cs := ([.string (mkS ((gt z29 p2 x1685q).f0)), .string (mkS ((gt z29 p2 x1685q).f1)), .bool ((gt z29 p2 x1685q).f2)] : List Value)) (by kernel_rfl) (hS1769q.cells (vs := ([.string (mkS ((gt z29 p2 x1685q).f0)), .string (mkS ((gt z29 p2 x1685q).f1)), .bool ((gt z29 p2 x1685q).f2)] : List Value)) rfl)) (fun a1770q h1771q => ?_)
          clear h1768q a1767q
          have hS1772q : St b w0 W1759q R (M1683q :: [(g1709q, .cells ([.string (mkS ((gt z29 p2 x1685q).f0)), .string (mkS ((gt z29 p2 x1685q).f1)), .bool ((gt z29 p2 x1685q).f2)] : List Value).toArray 29 (0, 0))] :: M1764q :: M1727q :: Fs) := hS1769q.bring 3 rfl rfl
          obtain ⟨r1774q, A1773q, H⟩ := bind1 H
          refine WL.op' (m := 2) h1771q rfl rfl ?_
          refine owp_call [v1663q, .agg #[.string (mkS ((gt z29 p2 x1685q).f0)), .string (mkS ((gt z29 p2 x1685q).f1)), .bool ((gt z29 p2 x1685q).f2)]] h1771q rfl (by kernel_rfl) rfl Tryd.func10 (by kernel_rfl) rfl (by kernel_rfl) (dyntable_Table_Add.calls (p1 := (⟨(gt z29 p2 x1685q).f0, (gt z29 p2 x1685q).f1, (gt z29 p2 x1685q).f2⟩ : S29)) k1688q hr1684q A1773q hS1772q) (fun e1776q W1775q hp1777q => ?_)
          obtain ⟨M1780q, rfl, hr1781q, hS1782q⟩ := hp1777q
          refine ⟨_, rfl, fun a1778q h1779q => ?_⟩
          clear h1771q a1770q
          refine WL.done (by kernel_rfl) ?_
          refine WL.start ?_
          refine WL.block (c := 2) (m' := 2) h1779q rfl [(37, .int .i64 (IntKind.i64.wrap (x1685q + 1))), (56, .int .i64 (IntKind.i64.wrap (x1685q + 1)))] (by kernel_rfl) (fun a1783q h1784q => ?_)
          clear h1779q a1778q
          refine WL.done (by kernel_rfl) ?_
          have hS1785q : St b w0 W1775q R ([(g1709q, .cells ([.string (mkS ((gt z29 p2 x1685q).f0)), .string (mkS ((gt z29 p2 x1685q).f1)), .bool ((gt z29 p2 x1685q).f2)] : List Value).toArray 29 (0, 0))] :: M1780q :: M1764q :: M1727q :: Fs) := hS1782q.bring 1 rfl rfl
          have hS1786q : St b w0 W1775q R (M1780q :: M1764q :: M1727q :: Fs) := hS1785q.drop_
          have hS1787q : St b w0 W1775q R (M1764q :: M1780q :: M1727q :: Fs) := hS1786q.bring 1 rfl rfl
          have hS1788q : St b w0 W1775q R (M1727q :: M1764q :: M1780q :: Fs) := hS1787q.bring 2 rfl rfl
          exact ⟨k1688q, by omega, r1721q, M1727q, r1758q, M1764q, r1774q, M1780q, IntKind.i64.wrap (x1685q + 1), h1784q.keep ⟨rfl, rfl, rfl, rfl, rfl, rfl, trivial⟩, ⟨H⟩, ⟨by omega⟩, ⟨hS1788q⟩, ⟨hr1728q⟩, ⟨hr1765q⟩, ⟨hr1781q⟩⟩
        · rw [if_neg c1692q] at H
          cases H
      · rw [if_neg c1691q] at H
        have hb_ : (decide (x1685q < (p2.length : Int))) = false := decide_eq_false c1691q
        try rw [hb_] at h1690q
        clear hb_
        refine wp_else h1690q rfl ?_
        refine wp_exit ?_
        refine wp_seq ?_
        refine wp_seq ?_
        refine WL.start ?_
        refine WL.block (c := 1) (m' := 1) h1690q rfl [(57, v1637q)] (by kernel_rfl) (fun a1789q h1790q => ?_)
        clear h1690q a1689q
        obtain ⟨r1792q, A1791q, H⟩ := bind1 H
        refine WL.op' (m := 1) h1790q rfl rfl ?_
        refine owp_call [v1637q] h1790q rfl (by kernel_rfl) rfl Tryd.func11 (by kernel_rfl) rfl (by kernel_rfl) (dyntable_Table_Len.calls hr1678q A1791q hS1674q) (fun e1794q W1793q hp1795q => ?_)
        obtain ⟨M1798q, rfl, hr1799q, hS1800q⟩ := hp1795q
        refine ⟨_, rfl, fun a1796q h1797q => ?_⟩
        clear h1790q a1789q
        refine WL.block (c := 1) (m' := 3) h1797q rfl [(59, v1650q)] (by kernel_rfl) (fun a1801q h1802q => ?_)
        clear h1797q a1796q
        have hS1803q : St b w0 W1793q R (M1680q :: M1798q :: M1683q :: Fs) := hS1800q.bring 1 rfl rfl
        obtain ⟨r1805q, A1804q, H⟩ := bind1 H
        refine WL.op' (m := 3) h1802q rfl rfl ?_
        refine owp_call [v1650q] h1802q rfl (by kernel_rfl) rfl Tryd.func11 (by kernel_rfl) rfl (by kernel_rfl) (dyntable_Table_Len.calls hr1681q A1804q hS1803q) (fun e1807q W1806q hp1808q => ?_)
        obtain ⟨M1811q, rfl, hr1812q, hS1813q⟩ := hp1808q
        refine ⟨_, rfl, fun a1809q h1810q => ?_⟩
        clear h1802q a1801q
        refine WL.block (c := 2) (m' := 6) h1810q rfl [(62, .bool (!decide (r1792q = r1805q))), (61, .bool (!decide (r1792q = r1805q)))] (by kernel_rfl) (fun a1814q h1815q => ?_)
        clear h1810q a1809q
        by_cases c1816q : r1792q = r1805q
        · rw [if_pos c1816q] at H
          have hb_ : (decide (r1792q = r1805q)) = true := decide_eq_true c1816q
          try rw [hb_] at h1815q
          clear hb_
          refine WL.op' (m := 6) h1815q rfl rfl (owp_run h1815q rfl (by kernel_rfl) (v := v1637q) (by kernel_rfl) (fun a1817q h1818q => ?_))
          clear h1815q a1814q
          have hS1819q : St b w0 W1806q R (M1798q :: M1811q :: M1683q :: Fs) := hS1813q.bring 1 rfl rfl
          obtain ⟨r1821q, A1820q, H⟩ := bind1 H
          refine WL.op' (m := 7) h1818q rfl rfl ?_
          refine owp_call [v1637q] h1818q rfl (by kernel_rfl) rfl Tryd.func11 (by kernel_rfl) rfl (by kernel_rfl) (dyntable_Table_Len.calls hr1799q A1820q hS1819q) (fun e1823q W1822q hp1824q => ?_)
          obtain ⟨M1827q, rfl, hr1828q, hS1829q⟩ := hp1824q
          refine ⟨_, rfl, fun a1825q h1826q => ?_⟩
          clear h1818q a1817q
          refine WL.op' (m := 8) h1826q rfl rfl (owp_run h1826q rfl (by kernel_rfl) (v := v1663q) (by kernel_rfl) (fun a1830q h1831q => ?_))
          clear h1826q a1825q
          have hS1832q : St b w0 W1822q R (M1683q :: M1827q :: M1811q :: Fs) := hS1829q.bring 2 rfl rfl
          obtain ⟨r1834q, A1833q, H⟩ := bind1 H
          refine WL.op' (m := 9) h1831q rfl rfl ?_
          refine owp_call [v1663q] h1831q rfl (by kernel_rfl) rfl Tryd.func11 (by kernel_rfl) rfl (by kernel_rfl) (dyntable_Table_Len.calls hr1684q A1833q hS1832q) (fun e1836q W1835q hp1837q => ?_)
          obtain ⟨M1840q, rfl, hr1841q, hS1842q⟩ := hp1837q
          refine ⟨_, rfl, fun a1838q h1839q => ?_⟩
          clear h1831q a1830q
          refine WL.op' (m := 10) h1839q rfl rfl (owp_run h1839q rfl (by kernel_rfl) (v := .bool (decide (r1821q > r1834q))) (by kernel_rfl) (fun a1843q h1844q => ?_))
          clear h1839q a1838q
          refine WL.block (c := 1) (m' := 12) h1844q rfl [(68, .bool (decide (r1821q > r1834q)))] (by kernel_rfl) (fun a1845q h1846q => ?_)
          clear h1844q a1843q
          refine WL.done (by kernel_rfl) ?_
          by_cases c1847q : r1821q > r1834q
          · rw [if_pos c1847q] at H
            have hb_ : (decide (r1821q > r1834q)) = true := decide_eq_true c1847q
            try rw [hb_] at h1846q
            clear hb_
            refine wp_then h1846q rfl ?_
            refine wp_seq ?_
            refine WL.start ?_
            refine WL.block (c := 1) (m' := 1) h1846q rfl [(6, .bool false)] (by kernel_rfl) (fun a1848q h1849q => ?_)
            clear h1846q a1845q
            refine WL.done (by kernel_rfl) ?_
            refine wp_ret ?_
            have hS1850q : St b w0 W1835q R (M1827q :: M1811q :: Fs) := hS1842q.drop_
            have hS1851q : St b w0 W1835q R (M1811q :: Fs) := hS1850q.drop_
            have hS1852q : St b w0 W1835q R (Fs) := hS1851q.drop_
            obtain rfl := Option.some.inj H
            repeat (first | refine then_ret ?_ | refine inBlock_ret ?_ | refine inBlock_go ?_)
            refine body_ret (v := .bool false) h1849q (by kernel_rfl) (by kernel_rfl) ?_
            exact ⟨rfl, hS1852q⟩
          · rw [if_neg c1847q] at H
            have hb_ : (decide (r1821q > r1834q)) = false := decide_eq_false c1847q
            try rw [hb_] at h1846q
            clear hb_
            refine wp_else h1846q rfl ?_
            refine wp_skip ?_
            refine wp_seq ?_
            refine wp_seq ?_
            refine WL.start ?_
            refine WL.block (c := 1) (m' := 1) h1846q rfl [(69, v1637q)] (by kernel_rfl) (fun a1853q h1854q => ?_)
            clear h1846q a1845q
            have hS1855q : St b w0 W1835q R (M1827q :: M1840q :: M1811q :: Fs) := hS1842q.bring 1 rfl rfl
            obtain ⟨r1857q, A1856q, H⟩ := bind1 H
            refine WL.op' (m := 1) h1854q rfl rfl ?_
            refine owp_call [v1637q] h1854q rfl (by kernel_rfl) rfl Tryd.func11 (by kernel_rfl) rfl (by kernel_rfl) (dyntable_Table_Len.calls hr1828q A1856q hS1855q) (fun e1859q W1858q hp1860q => ?_)
            obtain ⟨M1863q, rfl, hr1864q, hS1865q⟩ := hp1860q
            refine ⟨_, rfl, fun a1861q h1862q => ?_⟩
            clear h1854q a1853q
            refine WL.block (c := 1) (m' := 3) h1862q rfl [(71, .int .i64 0)] (by kernel_rfl) (fun a1866q h1867q => ?_)
            clear h1862q a1861q
            refine WL.done (by kernel_rfl) ?_
            refine wp_block ?_
            have hS1880q : St b w0 W1858q R (M1840q :: M1863q :: M1811q :: Fs) := hS1865q.bring 1 rfl rfl
            have hS1881q : St b w0 W1858q R (M1811q :: M1840q :: M1863q :: Fs) := hS1880q.bring 2 rfl rfl
            have hS1882q : St b w0 W1858q R (M1863q :: M1811q :: M1840q :: Fs) := hS1881q.bring 2 rfl rfl
            refine wp_loop_ghost (fun kq_ a_ W_ => ∃ (M1873q : Frag), ∃ (M1875q : Frag), ∃ (M1877q : Frag), ∃ (x1879q : Int), Hd a_ 105 [(7, v1637q), (8, v1650q), (9, v1663q), (70, .int .i64 r1857q), (71, .int .i64 x1879q)] ∧ Asd (louverlaw05qDyntableSame.l1 kq_ x1879q r1857q x1676q x1679q x1682q = some r0q) ∧ Asd (kq_ ≤ k1688q) ∧ Asd (St b w0 W_ R (M1873q :: M1875q :: M1877q :: Fs)) ∧ Asd (Ptr k51 51 b w0 R v1637q x1676q M1873q) ∧ Asd (Ptr k51 51 b w0 R v1650q x1679q M1875q) ∧ Asd (Ptr k51 51 b w0 R v1663q x1682q M1877q)) k1688q ⟨M1863q, M1811q, M1840q, 0, h1867q.keep ⟨rfl, rfl, rfl, rfl, rfl, trivial⟩, ⟨H⟩, ⟨Nat.le_refl _⟩, ⟨hS1882q⟩, ⟨hr1864q⟩, ⟨hr1812q⟩, ⟨hr1841q⟩⟩ ?_
            clear H hS1882q
            rintro k1872q a1869q W1870q ⟨M1873q, M1875q, M1877q, x1879q, h1868q, ⟨H⟩, ⟨hkk1872q⟩, ⟨hS1871q⟩, ⟨hr1874q⟩, ⟨hr1876q⟩, ⟨hr1878q⟩⟩
            obtain _ | k1883q := k1872q
            · exact absurd H (by simp [louverlaw05qDyntableSame.l1])
            simp only [louverlaw05qDyntableSame.l1] at H
            refine wp_seq ?_
            refine WL.start ?_
            refine WL.block (c := 1) (m' := 1) h1868q rfl [(72, .bool (decide (x1879q < r1857q)))] (by kernel_rfl) (fun a1884q h1885q => ?_)
            clear h1868q a1869q
            refine WL.done (by kernel_rfl) ?_
            refine wp_seq ?_
            by_cases c1886q : x1879q < r1857q
            · rw [if_pos c1886q] at H
              have hb_ : (decide (x1879q < r1857q)) = true := decide_eq_true c1886q
              try rw [hb_] at h1885q
              clear hb_
              refine wp_then h1885q rfl ?_
              refine wp_skip ?_
              refine wp_seq ?_
              refine wp_block ?_
              refine wp_seq ?_
              refine WL.start ?_
              refine WL.block (c := 2) (m' := 2) h1885q rfl [(12, .int .i64 x1879q), (73, .int .i64 x1879q)] (by kernel_rfl) (fun a1887q h1888q => ?_)
              clear h1885q a1884q
              refine WL.done (by kernel_rfl) ?_
              refine wp_seq ?_
              refine WL.start ?_
              refine WL.block (c := 3) (m' := 3) h1888q rfl [(77, .int .i64 (IntKind.i64.wrap (62 + x1879q))), (76, .int .i64 x1879q), (75, v1637q)] (by kernel_rfl) (fun a1889q h1890q => ?_)
              clear h1888q a1887q
              obtain ⟨r1892q, r1893q, A1891q, H⟩ := bind2 H
              refine WL.op' (m := 3) h1890q rfl rfl ?_
              refine owp_call [v1637q, .int .i64 (IntKind.i64.wrap (62 + x1879q))] h1890q rfl (by kernel_rfl) rfl Tryd.func14 (by kernel_rfl) rfl (by kernel_rfl) (dyntable_Table_At.calls hr1874q hg0 A1891q hS1871q) (fun e1895q W1894q hp1896q => ?_)
              obtain ⟨M1899q, rfl, hr1900q, hS1901q⟩ := hp1896q
              refine ⟨_, rfl, fun a1897q h1898q => ?_⟩
              clear h1890q a1889q
              refine WL.block (c := 3) (m' := 7) h1898q rfl [(80, .bool r1893q), (79, .agg #[.string (mkS r1892q.f0), .string (mkS r1892q.f1), .bool r1892q.f2]), (74, .tuple #[.agg #[.string (mkS r1892q.f0), .string (mkS r1892q.f1), .bool r1892q.f2], .bool r1893q])] (by kernel_rfl) (fun a1902q h1903q => ?_)
              clear h1898q a1897q
              refine WL.op' (m := 7) h1903q rfl rfl ?_
              refine owp_new (fun g_ => .pointer (some ⟨g_, 0, none⟩)) (.cells ([.string (mkS ([] : List UInt8)), .string (mkS ([] : List UInt8)), .bool false] : List Value).toArray 29 (0, 0)) h1903q rfl (by kernel_rfl) (by kernel_rfl) hS1901q (fun a1904q W1906q g1907q h1905q hS1908q => ?_)
              clear h1903q a1902q
              refine WL.op' (m := 8) h1905q rfl rfl ?_
              refine owp_store (i := 0) (vs := ([.string (mkS r1892q.f0), .string (mkS r1892q.f1), .bool r1892q.f2] : List Value)) h1905q rfl (by kernel_rfl) rfl rfl rfl rfl (by simp [Value.oneCell']) (by kernel_rfl) hS1908q (by simp) (cs' := ([.string (mkS r1892q.f0), .string (mkS r1892q.f1), .bool r1892q.f2] : List Value)) rfl (fun a1909q W1911q h1910q hS1912q => ?_)
              clear h1905q a1904q
              refine WL.block (c := 1) (m' := 10) h1910q rfl [(14, .bool r1893q)] (by kernel_rfl) (fun a1913q h1914q => ?_)
              clear h1910q a1909q
              refine WL.done (by kernel_rfl) ?_
              refine wp_seq ?_
              refine WL.start ?_
              refine WL.block (c := 3) (m' := 3) h1914q rfl [(84, .int .i64 (IntKind.i64.wrap (62 + x1879q))), (83, .int .i64 x1879q), (82, v1650q)] (by kernel_rfl) (fun a1915q h1916q => ?_)
              clear h1914q a1913q
              have hS1917q : St b w0 W1911q R (M1875q :: [(g1907q, .cells ([.string (mkS r1892q.f0), .string (mkS r1892q.f1), .bool r1892q.f2] : List Value).toArray 29 (0, 0))] :: M1899q :: M1877q :: Fs) := hS1912q.bring 2 rfl rfl
              obtain ⟨r1919q, r1920q, A1918q, H⟩ := bind2 H
              refine WL.op' (m := 3) h1916q rfl rfl ?_
              refine owp_call [v1650q, .int .i64 (IntKind.i64.wrap (62 + x1879q))] h1916q rfl (by kernel_rfl) rfl Tryd.func14 (by kernel_rfl) rfl (by kernel_rfl) (dyntable_Table_At.calls hr1876q hg0 A1918q hS1917q) (fun e1922q W1921q hp1923q => ?_)
              obtain ⟨M1926q, rfl, hr1927q, hS1928q⟩ := hp1923q
              refine ⟨_, rfl, fun a1924q h1925q => ?_⟩
              clear h1916q a1915q
              refine WL.block (c := 3) (m' := 7) h1925q rfl [(87, .bool r1920q), (86, .agg #[.string (mkS r1919q.f0), .string (mkS r1919q.f1), .bool r1919q.f2]), (81, .tuple #[.agg #[.string (mkS r1919q.f0), .string (mkS r1919q.f1), .bool r1919q.f2], .bool r1920q])] (by kernel_rfl) (fun a1929q h1930q => ?_)
              clear h1925q a1924q
              refine WL.op' (m := 7) h1930q rfl rfl ?_
              refine owp_new (fun g_ => .pointer (some ⟨g_, 0, none⟩)) (.cells ([.string (mkS ([] : List UInt8)), .string (mkS ([] : List UInt8)), .bool false] : List Value).toArray 29 (0, 0)) h1930q rfl (by kernel_rfl) (by kernel_rfl) hS1928q (fun a1931q W1933q g1934q h1932q hS1935q => ?_)
              clear h1930q a1929q
              refine WL.op' (m := 8) h1932q rfl rfl ?_
              refine owp_store (i := 0) (vs := ([.string (mkS r1919q.f0), .string (mkS r1919q.f1), .bool r1919q.f2] : List Value)) h1932q rfl (by kernel_rfl) rfl rfl rfl rfl (by simp [Value.oneCell']) (by kernel_rfl) hS1935q (by simp) (cs' := ([.string (mkS r1919q.f0), .string (mkS r1919q.f1), .bool r1919q.f2] : List Value)) rfl (fun a1936q W1938q h1937q hS1939q => ?_)
              clear h1932q a1931q
              refine WL.block (c := 1) (m' := 10) h1937q rfl [(16, .bool r1920q)] (by kernel_rfl) (fun a1940q h1941q => ?_)
              clear h1937q a1936q
              refine WL.done (by kernel_rfl) ?_
              refine wp_seq ?_
              refine WL.start ?_
              refine WL.block (c := 3) (m' := 3) h1941q rfl [(91, .int .i64 (IntKind.i64.wrap (62 + x1879q))), (90, .int .i64 x1879q), (89, v1663q)] (by kernel_rfl) (fun a1942q h1943q => ?_)
              clear h1941q a1940q
              have hS1944q : St b w0 W1938q R (M1877q :: [(g1934q, .cells ([.string (mkS r1919q.f0), .string (mkS r1919q.f1), .bool r1919q.f2] : List Value).toArray 29 (0, 0))] :: M1926q :: [(g1907q, .cells ([.string (mkS r1892q.f0), .string (mkS r1892q.f1), .bool r1892q.f2] : List Value).toArray 29 (0, 0))] :: M1899q :: Fs) := hS1939q.bring 4 rfl rfl
              obtain ⟨r1946q, r1947q, A1945q, H⟩ := bind2 H
              refine WL.op' (m := 3) h1943q rfl rfl ?_
              refine owp_call [v1663q, .int .i64 (IntKind.i64.wrap (62 + x1879q))] h1943q rfl (by kernel_rfl) rfl Tryd.func14 (by kernel_rfl) rfl (by kernel_rfl) (dyntable_Table_At.calls hr1878q hg0 A1945q hS1944q) (fun e1949q W1948q hp1950q => ?_)
              obtain ⟨M1953q, rfl, hr1954q, hS1955q⟩ := hp1950q
              refine ⟨_, rfl, fun a1951q h1952q => ?_⟩
              clear h1943q a1942q
              refine WL.block (c := 3) (m' := 7) h1952q rfl [(94, .bool r1947q), (93, .agg #[.string (mkS r1946q.f0), .string (mkS r1946q.f1), .bool r1946q.f2]), (88, .tuple #[.agg #[.string (mkS r1946q.f0), .string (mkS r1946q.f1), .bool r1946q.f2], .bool r1947q])] (by kernel_rfl) (fun a1956q h1957q => ?_)
              clear h1952q a1951q
              refine WL.op' (m := 7) h1957q rfl rfl ?_
              refine owp_new (fun g_ => .pointer (some ⟨g_, 0, none⟩)) (.cells ([.string (mkS ([] : List UInt8)), .string (mkS ([] : List UInt8)), .bool false] : List Value).toArray 29 (0, 0)) h1957q rfl (by kernel_rfl) (by kernel_rfl) hS1955q (fun a1958q W1960q g1961q h1959q hS1962q => ?_)
              clear h1957q a1956q
              refine WL.op' (m := 8) h1959q rfl rfl ?_
              refine owp_store (i := 0) (vs := ([.string (mkS r1946q.f0), .string (mkS r1946q.f1), .bool r1946q.f2] : List Value)) h1959q rfl (by kernel_rfl) rfl rfl rfl rfl (by simp [Value.oneCell']) (by kernel_rfl) hS1962q (by simp) (cs' := ([.string (mkS r1946q.f0), .string (mkS r1946q.f1), .bool r1946q.f2] : List Value)) rfl (fun a1963q W1965q h1964q hS1966q => ?_)
              clear h1959q a1958q
              refine WL.block (c := 1) (m' := 10) h1964q rfl [(18, .bool r1947q)] (by kernel_rfl) (fun a1967q h1968q => ?_)
              clear h1964q a1963q
              refine WL.done (by kernel_rfl) ?_
              refine wp_seq ?_
              refine WL.start ?_
              have hS1969q : St b w0 W1965q R ([(g1907q, .cells ([.string (mkS r1892q.f0), .string (mkS r1892q.f1), .bool r1892q.f2] : List Value).toArray 29 (0, 0))] :: [(g1961q, .cells ([.string (mkS r1946q.f0), .string (mkS r1946q.f1), .bool r1946q.f2] : List Value).toArray 29 (0, 0))] :: M1953q :: [(g1934q, .cells ([.string (mkS r1919q.f0), .string (mkS r1919q.f1), .bool r1919q.f2] : List Value).toArray 29 (0, 0))] :: M1926q :: M1899q :: Fs) := hS1966q.bring 4 rfl rfl
              refine WL.op' (m := 0) h1968q rfl rfl ?_
              refine owp_run (v := .agg #[.string (mkS r1892q.f0), .string (mkS r1892q.f1), .bool r1892q.f2]) h1968q rfl (by kernel_rfl) (run_loadN rfl rfl Tryd.underlying29 rfl (cs := ([.string (mkS r1892q.f0), .string (mkS r1892q.f1), .bool r1892q.f2] : List Value)) (by kernel_rfl) (hS1969q.cells (vs := ([.string (mkS r1892q.f0), .string (mkS r1892q.f1), .bool r1892q.f2] : List Value)) rfl)) (fun a1970q h1971q => ?_)
              clear h1968q a1967q
              have hS1972q : St b w0 W1965q R ([(g1934q, .cells ([.string (mkS r1919q.f0), .string (mkS r1919q.f1), .bool r1919q.f2] : List Value).toArray 29 (0, 0))] :: [(g1907q, .cells ([.string (mkS r1892q.f0), .string (mkS r1892q.f1), .bool r1892q.f2] : List Value).toArray 29 (0, 0))] :: [(g1961q, .cells ([.string (mkS r1946q.f0), .string (mkS r1946q.f1), .bool r1946q.f2] : List Value).toArray 29 (0, 0))] :: M1953q :: M1926q :: M1899q :: Fs) := hS1969q.bring 3 rfl rfl
              refine WL.op' (m := 1) h1971q rfl rfl ?_
              refine owp_run (v := .agg #[.string (mkS r1919q.f0), .string (mkS r1919q.f1), .bool r1919q.f2]) h1971q rfl (by kernel_rfl) (run_loadN rfl rfl Tryd.underlying29 rfl (cs := ([.string (mkS r1919q.f0), .string (mkS r1919q.f1), .bool r1919q.f2] : List Value)) (by kernel_rfl) (hS1972q.cells (vs := ([.string (mkS r1919q.f0), .string (mkS r1919q.f1), .bool r1919q.f2] : List Value)) rfl)) (fun a1973q h1974q => ?_)
              clear h1971q a1970q
              refine WL.op' (m := 2) h1974q rfl rfl ?_
              refine owp_run (v := .bool (!(decide (r1892q.f0 = r1919q.f0) && (decide (r1892q.f1 = r1919q.f1) && decide (r1892q.f2 = r1919q.f2))))) h1974q rfl (by kernel_rfl) (run_stne (xs := [.string (mkS r1892q.f0), .string (mkS r1892q.f1), .bool r1892q.f2]) (ys := [.string (mkS r1919q.f0), .string (mkS r1919q.f1), .bool r1919q.f2]) rfl rfl rfl (by kernel_rfl) (eqs_of Tryd.underlying29 (by kernel_rfl) (eqf_cons rfl (by kernel_rfl) rfl rfl (eqi_str Tryd.underlying9) (eqf_cons rfl (by kernel_rfl) rfl rfl (eqi_str Tryd.underlying9) (eqf_last rfl (by kernel_rfl) rfl rfl (eqi_bool Tryd.underlying4)))))) (fun a1975q h1976q => ?_)
              clear h1974q a1973q
              refine WL.block (c := 1) (m' := 4) h1976q rfl [(98, .bool (!(decide (r1892q.f0 = r1919q.f0) && (decide (r1892q.f1 = r1919q.f1) && decide (r1892q.f2 = r1919q.f2)))))] (by kernel_rfl) (fun a1977q h1978q => ?_)
              clear h1976q a1975q
              by_cases c1979q : (decide (r1892q.f0 = r1919q.f0) && (decide (r1892q.f1 = r1919q.f1) && decide (r1892q.f2 = r1919q.f2))) = true
              · rw [if_pos c1979q] at H
                have hb_ : (decide (r1892q.f0 = r1919q.f0) && (decide (r1892q.f1 = r1919q.f1) && decide (r1892q.f2 = r1919q.f2))) = true := c1979q
                try rw [hb_] at h1978q
                clear hb_
                have hS1980q : St b w0 W1965q R ([(g1907q, .cells ([.string (mkS r1892q.f0), .string (mkS r1892q.f1), .bool r1892q.f2] : List Value).toArray 29 (0, 0))] :: [(g1934q, .cells ([.string (mkS r1919q.f0), .string (mkS r1919q.f1), .bool r1919q.f2] : List Value).toArray 29 (0, 0))] :: [(g1961q, .cells ([.string (mkS r1946q.f0), .string (mkS r1946q.f1), .bool r1946q.f2] : List Value).toArray 29 (0, 0))] :: M1953q :: M1926q :: M1899q :: Fs) := hS1972q.bring 1 rfl rfl
                refine WL.op' (m := 4) h1978q rfl rfl ?_
                refine owp_run (v := .agg #[.string (mkS r1892q.f0), .string (mkS r1892q.f1), .bool r1892q.f2]) h1978q rfl (by kernel_rfl) (run_loadN rfl rfl Tryd.underlying29 rfl (cs := ([.string (mkS r1892q.f0), .string (mkS r1892q.f1), .bool r1892q.f2] : List Value)) (by kernel_rfl) (hS1980q.cells (vs := ([.string (mkS r1892q.f0), .string (mkS r1892q.f1), .bool r1892q.f2] : List Value)) rfl)) (fun a1981q h1982q => ?_)
                clear h1978q a1977q
                have hS1983q : St b w0 W1965q R ([(g1961q, .cells ([.string (mkS r1946q.f0), .string (mkS r1946q.f1), .bool r1946q.f2] : List Value).toArray 29 (0, 0))] :: [(g1907q, .cells ([.string (mkS r1892q.f0), .string (mkS r1892q.f1), .bool r1892q.f2] : List Value).toArray 29 (0, 0))] :: [(g1934q, .cells ([.string (mkS r1919q.f0), .string (mkS r1919q.f1), .bool r1919q.f2] : List Value).toArray 29 (0, 0))] :: M1953q :: M1926q :: M1899q :: Fs) := hS1980q.bring 2 rfl rfl
                refine WL.op' (m := 5) h1982q rfl rfl ?_
                refine owp_run (v := .agg #[.string (mkS r1946q.f0), .string (mkS r1946q.f1), .bool r1946q.f2]) h1982q rfl (by kernel_rfl) (run_loadN rfl rfl Tryd.underlying29 rfl (cs := ([.string (mkS r1946q.f0), .string (mkS r1946q.f1), .bool r1946q.f2] : List Value)) (by kernel_rfl) (hS1983q.cells (vs := ([.string (mkS r1946q.f0), .string (mkS r1946q.f1), .bool r1946q.f2] : List Value)) rfl)) (fun a1984q h1985q => ?_)
                clear h1982q a1981q
                refine WL.op' (m := 6) h1985q rfl rfl ?_
                refine owp_run (v := .bool (!(decide (r1892q.f0 = r1946q.f0) && (decide (r1892q.f1 = r1946q.f1) && decide (r1892q.f2 = r1946q.f2))))) h1985q rfl (by kernel_rfl) (run_stne (xs := [.string (mkS r1892q.f0), .string (mkS r1892q.f1), .bool r1892q.f2]) (ys := [.string (mkS r1946q.f0), .string (mkS r1946q.f1), .bool r1946q.f2]) rfl rfl rfl (by kernel_rfl) (eqs_of Tryd.underlying29 (by kernel_rfl) (eqf_cons rfl (by kernel_rfl) rfl rfl (eqi_str Tryd.underlying9) (eqf_cons rfl (by kernel_rfl) rfl rfl (eqi_str Tryd.underlying9) (eqf_last rfl (by kernel_rfl) rfl rfl (eqi_bool Tryd.underlying4)))))) (fun a1986q h1987q => ?_)
                clear h1985q a1984q
                refine WL.block (c := 1) (m' := 8) h1987q rfl [(102, .bool (!(decide (r1892q.f0 = r1946q.f0) && (decide (r1892q.f1 = r1946q.f1) && decide (r1892q.f2 = r1946q.f2)))))] (by kernel_rfl) (fun a1988q h1989q => ?_)
                clear h1987q a1986q
                refine WL.done (by kernel_rfl) ?_
                by_cases c1990q : (decide (r1892q.f0 = r1946q.f0) && (decide (r1892q.f1 = r1946q.f1) && decide (r1892q.f2 = r1946q.f2))) = true
                · rw [if_pos c1990q] at H
                  have hb_ : (decide (r1892q.f0 = r1946q.f0) && (decide (r1892q.f1 = r1946q.f1) && decide (r1892q.f2 = r1946q.f2))) = true := c1990q
                  try rw [hb_] at h1989q
                  clear hb_
                  refine wp_else h1989q rfl ?_
                  refine wp_skip ?_
                  refine WL.start ?_
                  refine WL.block (c := 2) (m' := 2) h1989q rfl [(71, .int .i64 (IntKind.i64.wrap (x1879q + 1))), (103, .int .i64 (IntKind.i64.wrap (x1879q + 1)))] (by kernel_rfl) (fun a1991q h1992q => ?_)
                  clear h1989q a1988q
                  refine WL.done (by kernel_rfl) ?_
                  have hS1993q : St b w0 W1965q R ([(g1907q, .cells ([.string (mkS r1892q.f0), .string (mkS r1892q.f1), .bool r1892q.f2] : List Value).toArray 29 (0, 0))] :: [(g1934q, .cells ([.string (mkS r1919q.f0), .string (mkS r1919q.f1), .bool r1919q.f2] : List Value).toArray 29 (0, 0))] :: M1953q :: M1926q :: M1899q :: Fs) := hS1983q.drop_
                  have hS1994q : St b w0 W1965q R ([(g1934q, .cells ([.string (mkS r1919q.f0), .string (mkS r1919q.f1), .bool r1919q.f2] : List Value).toArray 29 (0, 0))] :: M1953q :: M1926q :: M1899q :: Fs) := hS1993q.drop_
                  have hS1995q : St b w0 W1965q R (M1953q :: M1926q :: M1899q :: Fs) := hS1994q.drop_
                  have hS1996q : St b w0 W1965q R (M1926q :: M1953q :: M1899q :: Fs) := hS1995q.bring 1 rfl rfl
                  have hS1997q : St b w0 W1965q R (M1899q :: M1926q :: M1953q :: Fs) := hS1996q.bring 2 rfl rfl
                  exact ⟨k1883q, by omega, M1899q, M1926q, M1953q, IntKind.i64.wrap (x1879q + 1), h1992q.keep ⟨rfl, rfl, rfl, rfl, rfl, trivial⟩, ⟨H⟩, ⟨by omega⟩, ⟨hS1997q⟩, ⟨hr1900q⟩, ⟨hr1927q⟩, ⟨hr1954q⟩⟩
                · rw [if_neg c1990q] at H
                  have hb_ : (decide (r1892q.f0 = r1946q.f0) && (decide (r1892q.f1 = r1946q.f1) && decide (r1892q.f2 = r1946q.f2))) = false := (Bool.eq_false_iff.2 c1990q)
                  try rw [hb_] at h1989q
                  clear hb_
                  refine wp_then h1989q rfl ?_
                  refine wp_seq ?_
                  refine WL.start ?_
                  refine WL.block (c := 1) (m' := 1) h1989q rfl [(6, .bool false)] (by kernel_rfl) (fun a1998q h1999q => ?_)
                  clear h1989q a1988q
                  refine WL.done (by kernel_rfl) ?_
                  refine wp_ret ?_
                  have hS2000q : St b w0 W1965q R ([(g1907q, .cells ([.string (mkS r1892q.f0), .string (mkS r1892q.f1), .bool r1892q.f2] : List Value).toArray 29 (0, 0))] :: [(g1934q, .cells ([.string (mkS r1919q.f0), .string (mkS r1919q.f1), .bool r1919q.f2] : List Value).toArray 29 (0, 0))] :: M1953q :: M1926q :: M1899q :: Fs) := hS1983q.drop_
                  have hS2001q : St b w0 W1965q R ([(g1934q, .cells ([.string (mkS r1919q.f0), .string (mkS r1919q.f1), .bool r1919q.f2] : List Value).toArray 29 (0, 0))] :: M1953q :: M1926q :: M1899q :: Fs) := hS2000q.drop_
                  have hS2002q : St b w0 W1965q R (M1953q :: M1926q :: M1899q :: Fs) := hS2001q.drop_
                  have hS2003q : St b w0 W1965q R (M1926q :: M1899q :: Fs) := hS2002q.drop_
                  have hS2004q : St b w0 W1965q R (M1899q :: Fs) := hS2003q.drop_
                  have hS2005q : St b w0 W1965q R (Fs) := hS2004q.drop_
                  obtain rfl := Option.some.inj H
                  repeat (first | refine then_ret ?_ | refine inBlock_ret ?_ | refine inBlock_go ?_)
                  refine body_ret (v := .bool false) h1999q (by kernel_rfl) (by kernel_rfl) ?_
                  exact ⟨rfl, hS2005q⟩
              · rw [if_neg c1979q] at H
                have hb_ : (decide (r1892q.f0 = r1919q.f0) && (decide (r1892q.f1 = r1919q.f1) && decide (r1892q.f2 = r1919q.f2))) = false := (Bool.eq_false_iff.2 c1979q)
                try rw [hb_] at h1978q
                clear hb_
                refine WL.skipped (m := 4) h1978q rfl rfl (by kernel_rfl) rfl (fun a2006q h2007q => ?_)
                clear h1978q a1977q
                refine WL.skipped (m := 5) h2007q rfl rfl (by kernel_rfl) rfl (fun a2008q h2009q => ?_)
                clear h2007q a2006q
                refine WL.skipped (m := 6) h2009q rfl rfl (by kernel_rfl) rfl (fun a2010q h2011q => ?_)
                clear h2009q a2008q
                refine WL.block (c := 1) (m' := 8) h2011q rfl [(102, .bool true)] (by kernel_rfl) (fun a2012q h2013q => ?_)
                clear h2011q a2010q
                refine WL.done (by kernel_rfl) ?_
                refine wp_then h2013q rfl ?_
                refine wp_seq ?_
                refine WL.start ?_
                refine WL.block (c := 1) (m' := 1) h2013q rfl [(6, .bool false)] (by kernel_rfl) (fun a2014q h2015q => ?_)
                clear h2013q a2012q
                refine WL.done (by kernel_rfl) ?_
                refine wp_ret ?_
                have hS2016q : St b w0 W1965q R ([(g1907q, .cells ([.string (mkS r1892q.f0), .string (mkS r1892q.f1), .bool r1892q.f2] : List Value).toArray 29 (0, 0))] :: [(g1961q, .cells ([.string (mkS r1946q.f0), .string (mkS r1946q.f1), .bool r1946q.f2] : List Value).toArray 29 (0, 0))] :: M1953q :: M1926q :: M1899q :: Fs) := hS1972q.drop_
                have hS2017q : St b w0 W1965q R ([(g1961q, .cells ([.string (mkS r1946q.f0), .string (mkS r1946q.f1), .bool r1946q.f2] : List Value).toArray 29 (0, 0))] :: M1953q :: M1926q :: M1899q :: Fs) := hS2016q.drop_
                have hS2018q : St b w0 W1965q R (M1953q :: M1926q :: M1899q :: Fs) := hS2017q.drop_
                have hS2019q : St b w0 W1965q R (M1926q :: M1899q :: Fs) := hS2018q.drop_
                have hS2020q : St b w0 W1965q R (M1899q :: Fs) := hS2019q.drop_
                have hS2021q : St b w0 W1965q R (Fs) := hS2020q.drop_
                obtain rfl := Option.some.inj H
                repeat (first | refine then_ret ?_ | refine inBlock_ret ?_ | refine inBlock_go ?_)
                refine body_ret (v := .bool false) h2015q (by kernel_rfl) (by kernel_rfl) ?_
                exact ⟨rfl, hS2021q⟩
            · rw [if_neg c1886q] at H
              have hb_ : (decide (x1879q < r1857q)) = false := decide_eq_false c1886q
              try rw [hb_] at h1885q
              clear hb_
              refine wp_else h1885q rfl ?_
              refine wp_exit ?_
              refine wp_seq ?_
              refine WL.start ?_
              obtain ⟨r2023q, A2022q, H⟩ := bind1 H
              refine WL.op' (m := 0) h1885q rfl rfl ?_
              refine owp_call [] h1885q rfl (by kernel_rfl) rfl Tryd.func8 (by kernel_rfl) rfl (by kernel_rfl) (louverlaw05qfixed.calls k1883q hg0 A2022q hS1871q) (fun e2025q W2024q hp2026q => ?_)
              obtain ⟨rfl, hS2029q⟩ := hp2026q
              refine ⟨_, rfl, fun a2027q h2028q => ?_⟩
              clear h1885q a1884q
              refine WL.block (c := 1) (m' := 2) h2028q rfl [(6, .bool r2023q)] (by kernel_rfl) (fun a2030q h2031q => ?_)
              clear h2028q a2027q
              refine WL.done (by kernel_rfl) ?_
              refine wp_ret ?_
              have hS2032q : St b w0 W2024q R (M1875q :: M1877q :: Fs) := hS2029q.drop_
              have hS2033q : St b w0 W2024q R (M1877q :: Fs) := hS2032q.drop_
              have hS2034q : St b w0 W2024q R (Fs) := hS2033q.drop_
              obtain rfl := Option.some.inj H
              repeat (first | refine then_ret ?_ | refine inBlock_ret ?_ | refine inBlock_go ?_)
              refine body_ret (v := .bool r2023q) h2031q (by kernel_rfl) (by kernel_rfl) ?_
              exact ⟨rfl, hS2034q⟩
        · rw [if_neg c1816q] at H
          have hb_ : (decide (r1792q = r1805q)) = false := decide_eq_false c1816q
          try rw [hb_] at h1815q
          clear hb_
          refine WL.skipped (m := 6) h1815q rfl rfl (by kernel_rfl) rfl (fun a2035q h2036q => ?_)
          clear h1815q a1814q
          refine WL.skipped (m := 7) h2036q rfl rfl (by kernel_rfl) rfl (fun a2037q h2038q => ?_)
          clear h2036q a2035q
          refine WL.skipped (m := 8) h2038q rfl rfl (by kernel_rfl) rfl (fun a2039q h2040q => ?_)
          clear h2038q a2037q
          refine WL.skipped (m := 9) h2040q rfl rfl (by kernel_rfl) rfl (fun a2041q h2042q => ?_)
          clear h2040q a2039q
          refine WL.skipped (m := 10) h2042q rfl rfl (by kernel_rfl) rfl (fun a2043q h2044q => ?_)
          clear h2042q a2041q
          refine WL.block (c := 1) (m' := 12) h2044q rfl [(68, .bool true)] (by kernel_rfl) (fun a2045q h2046q => ?_)
          clear h2044q a2043q
          refine WL.done (by kernel_rfl) ?_
          refine wp_then h2046q rfl ?_
          refine wp_seq ?_
          refine WL.start ?_
          refine WL.block (c := 1) (m' := 1) h2046q rfl [(6, .bool false)] (by kernel_rfl) (fun a2047q h2048q => ?_)
          clear h2046q a2045q
          refine WL.done (by kernel_rfl) ?_
          refine wp_ret ?_
          have hS2049q : St b w0 W1806q R (M1798q :: M1683q :: Fs) := hS1813q.drop_
          have hS2050q : St b w0 W1806q R (M1683q :: Fs) := hS2049q.drop_
          have hS2051q : St b w0 W1806q R (Fs) := hS2050q.drop_
          obtain rfl := Option.some.inj H
          repeat (first | refine then_ret ?_ | refine inBlock_ret ?_ | refine inBlock_go ?_)
          refine body_ret (v := .bool false) h2048q (by kernel_rfl) (by kernel_rfl) ?_
          exact ⟨rfl, hS2051q⟩

structure S43 where
  f0 : Int
  f1 : S29
  f2 : Int
  f3 : Int
  deriving DecidableEq
def z43 : S43 := ⟨(0 : Int), z29, (0 : Int), (0 : Int)⟩
def k43 : Kd S43 := kIso (kPair (kInt .i64) (kPair k29 (kPair (kInt .u32) (kInt .i64)))) (fun x : S43 => (x.f0, (x.f1, (x.f2, x.f3))))
theorem k43qflat : k43.Flat := kIso_flat (kPair_flat (kInt_flat _) (kPair_flat k29qflat (kPair_flat (kInt_flat _) (kInt_flat _))))
theorem k43qind : k43.Ind := kIso_ind (kPair_ind (kInt_ind _) (kPair_ind k29qind (kPair_ind (kInt_ind _) (kInt_ind _))))
theorem k43qrd {b : Nat} {w0 : World} {R : Frag} {x : S43} {cs : List Value} (h : k43.rd b w0 R x cs) : cs = [.int .i64 x.f0, .string (mkS x.f1.f0), .string (mkS x.f1.f1), .bool x.f1.f2, .int .u32 x.f2, .int .i64 x.f3] := by
  obtain ⟨c1q, c2q, rfl, h3q, h4q⟩ := h
  obtain ⟨c5q, c6q, rfl, h7q, h8q⟩ := h4q
  obtain ⟨c9q, c10q, rfl, h11q, h12q⟩ := h8q
  obtain rfl := h3q
  obtain ⟨c13q, c14q, rfl, h15q, h16q⟩ := h7q
  obtain ⟨c17q, c18q, rfl, h19q, h20q⟩ := h16q
  obtain rfl := h15q
  obtain rfl := h19q
  obtain rfl := h20q
  obtain rfl := h11q
  obtain rfl := h12q
  exact rfl
theorem k43qrep {b : Nat} {w0 : World} {R : Frag} {x : S43} {cs : List Value} {M : Frag} (h : k43.rep b w0 R x cs M) : cs = [.int .i64 x.f0, .string (mkS x.f1.f0), .string (mkS x.f1.f1), .bool x.f1.f2, .int .u32 x.f2, .int .i64 x.f3] ∧ M = [] := by
  obtain ⟨c21q, c22q, M25q, M26q, rfl, rfl, h23q, h24q⟩ := h
  obtain ⟨c27q, c28q, M31q, M32q, rfl, rfl, h29q, h30q⟩ := h24q
  obtain ⟨c33q, c34q, M37q, M38q, rfl, rfl, h35q, h36q⟩ := h30q
  obtain ⟨rfl, rfl⟩ := h23q
  obtain ⟨c39q, c40q, M43q, M44q, rfl, rfl, h41q, h42q⟩ := h29q
  obtain ⟨c45q, c46q, M49q, M50q, rfl, rfl, h47q, h48q⟩ := h42q
  obtain ⟨rfl, rfl⟩ := h41q
  obtain ⟨rfl, rfl⟩ := h47q
  obtain ⟨rfl, rfl⟩ := h48q
  obtain ⟨rfl, rfl⟩ := h35q
  obtain ⟨rfl, rfl⟩ := h36q
  exact ⟨rfl, by simp⟩
theorem k43qno {b : Nat} {w0 : World} {R : Frag} {x : S43} {cs : List Value} {M : Frag} (h : k43.rep b w0 R x cs M) : M = [] := by
  obtain ⟨_, hM_⟩ := k43qrep h
  exact hM_
theorem k43qmk {b : Nat} {w0 : World} {R : Frag} {x : S43}  : ∃ M, k43.rep b w0 R x [.int .i64 x.f0, .string (mkS x.f1.f0), .string (mkS x.f1.f1), .bool x.f1.f2, .int .u32 x.f2, .int .i64 x.f3] M ∧ M = [] := ⟨_, ⟨_, _, _, _, rfl, rfl, ⟨rfl, rfl⟩, ⟨_, _, _, _, rfl, rfl, ⟨_, _, _, _, rfl, rfl, ⟨rfl, rfl⟩, ⟨_, _, _, _, rfl, rfl, ⟨rfl, rfl⟩, ⟨rfl, rfl⟩⟩⟩, ⟨_, _, _, _, rfl, rfl, ⟨rfl, rfl⟩, ⟨rfl, rfl⟩⟩⟩⟩, by simp⟩
/-! ### louver/louverlaw05.great -/
def louverlaw05qgreat.l0 : Nat → (List S29) → Int → (List S43) → Option (Bool)
  | 0, _, _, _ => none
  | k + 1, x316q, x321q, p0 => if x321q < (p0.length : Int) then (if 0 ≤ x321q then (if x316q.length + 1 ≤ 3518437208883 then (lt1 (x316q ++ ([(⟨(gt z43 p0 x321q).f1.f0, (gt z43 p0 x321q).f1.f1, (gt z43 p0 x321q).f1.f2⟩ : S29)] : List S29) : List S29) fun y370q => (louverlaw05qgreat.l0 k y370q (IntKind.i64.wrap (x321q + 1)) p0)) else (none)) else (none)) else (if (p0.length : Int) > 200 then (some true) else (bnd1 (louverref05qGreat.f k x316q) fun r394q => (some r394q)))
def louverlaw05qgreat.f (k : Nat) (p0 : (List S43)) : Option (Bool) := louverlaw05qgreat.l0 k ([] : List S29) 0 p0
set_option maxHeartbeats 2000000 in
set_option maxRecDepth 100000 in
theorem louverlaw05qgreat.calls (k : Nat) {b : Nat} {w0 W : World} {R : Frag} {Fs : List Frag} {p0 : (List S43)} {v0 : Value} {r0q : Bool} (hp0 : Rds k43 b w0 R v0 p0) (H : louverlaw05qgreat.f k p0 = some r0q) (hS : St b w0 W R (Fs)) :
    Calls Tryd.prog 16 ([v0] : List Value).toArray W (fun e W' => e = .returned (.bool r0q) ∧ St b w0 W' R (Fs)) := by
  obtain ⟨A0, c0, rfl⟩ := hp0.form
  unfold louverlaw05qgreat.f at H
  refine calls_enter Tryd.func16 rfl 25 rfl (by kernel_rfl) (fun a h => ?_)
  refine wp_seq ?_
  refine WL.start ?_
  refine WL.block (c := 1) (m' := 1) h rfl [(2, .bool false)] (by kernel_rfl) (fun a305q h306q => ?_)
  refine WL.done (by kernel_rfl) ?_
  refine wp_seq ?_
  refine WL.start ?_
  refine WL.block (c := 1) (m' := 1) h306q rfl [(3, .slice none 0 0)] (by kernel_rfl) (fun a307q h308q => ?_)
  clear h306q a305q
  refine WL.done (by kernel_rfl) ?_
  refine wp_seq ?_
  refine wp_seq ?_
  refine WL.start ?_
  refine WL.block (c := 3) (m' := 3) h308q rfl [(8, .int .i64 0), (7, .int .i64 (p0.length : Int)), (6, .slice A0 p0.length c0)] (by kernel_rfl) (fun a309q h310q => ?_)
  clear h308q a307q
  refine WL.done (by kernel_rfl) ?_
  refine wp_block ?_
  have hS322q : St b w0 W R (([] : Frag) :: Fs) := hS.nil_
  refine wp_loop_ghost (fun kq_ a_ W_ => ∃ (x316q : (List S29)), ∃ (A317q : Option Addr), ∃ (c318q : Nat), ∃ (M319q : Frag), ∃ (x321q : Int), Hd a_ 25 [(0, .slice A0 p0.length c0), (3, .slice A317q x316q.length c318q), (6, .slice A0 p0.length c0), (7, .int .i64 (p0.length : Int)), (8, .int .i64 x321q)] ∧ Asd (louverlaw05qgreat.l0 kq_ x316q x321q p0 = some r0q) ∧ Asd (kq_ ≤ k) ∧ Asd (St b w0 W_ R (M319q :: Fs)) ∧ Asd (Row k29 29 b w0 R (.slice A317q x316q.length c318q) x316q M319q)) k ⟨([] : List S29), none, 0, ([] : Frag), 0, h310q.keep ⟨rfl, rfl, rfl, rfl, rfl, trivial⟩, ⟨H⟩, ⟨Nat.le_refl _⟩, ⟨hS322q⟩, ⟨Row.nil⟩⟩ ?_
  clear H hS322q
  rintro k315q a312q W313q ⟨x316q, A317q, c318q, M319q, x321q, h311q, ⟨H⟩, ⟨hkk315q⟩, ⟨hS314q⟩, ⟨hr320q⟩⟩
  obtain _ | k323q := k315q
  · exact absurd H (by simp [louverlaw05qgreat.l0])
  simp only [louverlaw05qgreat.l0] at H
  refine wp_seq ?_
  refine WL.start ?_
  refine WL.block (c := 1) (m' := 1) h311q rfl [(9, .bool (decide (x321q < (p0.length : Int))))] (by kernel_rfl) (fun a324q h325q => ?_)
  clear h311q a312q
  refine WL.done (by kernel_rfl) ?_
  refine wp_seq ?_
  by_cases c326q : x321q < (p0.length : Int)
  · rw [if_pos c326q] at H
    have hb_ : (decide (x321q < (p0.length : Int))) = true := decide_eq_true c326q
    try rw [hb_] at h325q
    clear hb_
    refine wp_then h325q rfl ?_
    refine wp_skip ?_
    refine wp_seq ?_
    refine wp_block ?_
    refine wp_seq ?_
    refine WL.start ?_
    by_cases c327q : 0 ≤ x321q
    · rw [if_pos c327q] at H
      have hi330q : 0 ≤ x321q := by first | assumption | omega
      have hi331q : x321q < (p0.length : Int) := by first | assumption | omega
      obtain ⟨ad328q, _, ha329q, -, -⟩ := Rds.elemAny hp0 hi330q (gt_get (z := z43) hi330q hi331q)
      refine WL.op' (m := 0) h325q rfl rfl ?_
      refine owp_run (v := .pointer (some (ad328q.add (x321q.toNat * 6)))) h325q rfl (by kernel_rfl) (run_idx (ad := ad328q) (sz := 6) rfl (by rw [← ha329q]; rfl) rfl Tryd.underlying38 (by kernel_rfl) hi330q hi331q) (fun a332q h333q => ?_)
      clear h325q a324q
      obtain ⟨ad334q, cs335q, ha336q, hr338q, hc337q⟩ := Rds.elemAny hp0 hi330q (gt_get (z := z43) hi330q hi331q)
      rw [ha329q] at ha336q; obtain rfl := Option.some.inj ha336q
      obtain rfl := k43qrd hr338q
      refine WL.op' (m := 1) h333q rfl rfl ?_
      refine owp_run (v := .agg #[.int .i64 ((gt z43 p0 x321q).f0), .string (mkS ((gt z43 p0 x321q).f1.f0)), .string (mkS ((gt z43 p0 x321q).f1.f1)), .bool ((gt z43 p0 x321q).f1.f2), .int .u32 ((gt z43 p0 x321q).f2), .int .i64 ((gt z43 p0 x321q).f3)]) h333q rfl (by kernel_rfl) (run_loadN rfl rfl Tryd.underlying43 rfl (cs := ([.int .i64 ((gt z43 p0 x321q).f0), .string (mkS ((gt z43 p0 x321q).f1.f0)), .string (mkS ((gt z43 p0 x321q).f1.f1)), .bool ((gt z43 p0 x321q).f1.f2), .int .u32 ((gt z43 p0 x321q).f2), .int .i64 ((gt z43 p0 x321q).f3)] : List Value)) (by kernel_rfl) (hc337q _ (fun _ _ hk_ => hS314q.kn hk_))) (fun a339q h340q => ?_)
      clear h333q a332q
      refine WL.op' (m := 2) h340q rfl rfl ?_
      refine owp_new (fun g_ => .pointer (some ⟨g_, 0, none⟩)) (.cells ([.int .i64 0, .string (mkS ([] : List UInt8)), .string (mkS ([] : List UInt8)), .bool false, .int .u32 0, .int .i64 0] : List Value).toArray 43 (0, 0)) h340q rfl (by kernel_rfl) (by kernel_rfl) hS314q (fun a341q W343q g344q h342q hS345q => ?_)
      clear h340q a339q
      refine WL.op' (m := 3) h342q rfl rfl ?_
      refine owp_store (i := 0) (vs := ([.int .i64 ((gt z43 p0 x321q).f0), .string (mkS ((gt z43 p0 x321q).f1.f0)), .string (mkS ((gt z43 p0 x321q).f1.f1)), .bool ((gt z43 p0 x321q).f1.f2), .int .u32 ((gt z43 p0 x321q).f2), .int .i64 ((gt z43 p0 x321q).f3)] : List Value)) h342q rfl (by kernel_rfl) rfl rfl rfl rfl (by simp [Value.oneCell']) (by kernel_rfl) hS345q (by simp) (cs' := ([.int .i64 ((gt z43 p0 x321q).f0), .string (mkS ((gt z43 p0 x321q).f1.f0)), .string (mkS ((gt z43 p0 x321q).f1.f1)), .bool ((gt z43 p0 x321q).f1.f2), .int .u32 ((gt z43 p0 x321q).f2), .int .i64 ((gt z43 p0 x321q).f3)] : List Value)) rfl (fun a346q W348q h347q hS349q => ?_)
      clear h342q a341q
      refine WL.done (by kernel_rfl) ?_
      refine WL.start ?_
      refine WL.block (c := 2) (m' := 2) h347q rfl [(13, .pointer (some ⟨g344q, 1, none⟩)), (12, .slice A317q x316q.length c318q)] (by kernel_rfl) (fun a350q h351q => ?_)
      clear h347q a346q
      refine WL.op' (m := 2) h351q rfl rfl ?_
      refine owp_run (v := .agg #[.string (mkS ((gt z43 p0 x321q).f1.f0)), .string (mkS ((gt z43 p0 x321q).f1.f1)), .bool ((gt z43 p0 x321q).f1.f2)]) h351q rfl (by kernel_rfl) (run_loadN rfl rfl Tryd.underlying29 rfl (cs := ([.string (mkS ((gt z43 p0 x321q).f1.f0)), .string (mkS ((gt z43 p0 x321q).f1.f1)), .bool ((gt z43 p0 x321q).f1.f2)] : List Value)) (by kernel_rfl) (hS349q.cells (vs := ([.string (mkS ((gt z43 p0 x321q).f1.f0)), .string (mkS ((gt z43 p0 x321q).f1.f1)), .bool ((gt z43 p0 x321q).f1.f2)] : List Value)) rfl)) (fun a352q h353q => ?_)
      clear h351q a350q
      obtain ⟨_, hrep_, hMe_⟩ := k29qmk (b := b) (w0 := w0) (R := R) (x := (⟨(gt z43 p0 x321q).f1.f0, (gt z43 p0 x321q).f1.f1, (gt z43 p0 x321q).f1.f2⟩ : S29)) 
      subst hMe_
      have hq354q := hrep_; clear hrep_
      refine WL.op' (m := 3) h353q rfl rfl ?_
      refine owp_new (fun g_ => .slice (some ⟨g_, 0, none⟩) 1 1) (.cells ([.string (mkS ((gt z43 p0 x321q).f1.f0)), .string (mkS ((gt z43 p0 x321q).f1.f1)), .bool ((gt z43 p0 x321q).f1.f2)] : List Value).toArray 29 (0, 0)) h353q rfl (by kernel_rfl) (by kernel_rfl) hS349q (fun a355q W357q g358q h356q hS359q => ?_)
      clear h353q a352q
      have hr360q : Row k29 29 b w0 R (.slice (some ⟨g358q, 0, none⟩) 1 1) ([(⟨(gt z43 p0 x321q).f1.f0, (gt z43 p0 x321q).f1.f1, (gt z43 p0 x321q).f1.f2⟩ : S29)] : List S29) [(g358q, .cells ([.string (mkS ((gt z43 p0 x321q).f1.f0)), .string (mkS ((gt z43 p0 x321q).f1.f1)), .bool ((gt z43 p0 x321q).f1.f2)] : List Value).toArray 29 (0, 0))] := Row.lit (xs := ([(⟨(gt z43 p0 x321q).f1.f0, (gt z43 p0 x321q).f1.f1, (gt z43 p0 x321q).f1.f2⟩ : S29)] : List S29)) (Mi := []) ⟨_, _, [], _, rfl, rfl, hq354q, ⟨rfl, rfl⟩⟩ (by simp [maxLen])
      by_cases c361q : x316q.length + 1 ≤ 3518437208883
      · rw [if_pos c361q] at H
        have hS362q : St b w0 W357q R (M319q :: [(g358q, .cells ([.string (mkS ((gt z43 p0 x321q).f1.f0)), .string (mkS ((gt z43 p0 x321q).f1.f1)), .bool ((gt z43 p0 x321q).f1.f2)] : List Value).toArray 29 (0, 0))] :: [(g344q, .cells ([.int .i64 ((gt z43 p0 x321q).f0), .string (mkS ((gt z43 p0 x321q).f1.f0)), .string (mkS ((gt z43 p0 x321q).f1.f1)), .bool ((gt z43 p0 x321q).f1.f2), .int .u32 ((gt z43 p0 x321q).f2), .int .i64 ((gt z43 p0 x321q).f3)] : List Value).toArray 43 (0, 0))] :: Fs) := hS359q.bring 2 rfl rfl
        refine WL.op' (m := 4) h356q rfl rfl ?_
        refine owp_app_take (z := .agg #[.string (mkS []), .string (mkS []), .bool false]) (bytes := 40) (dk := k29) h356q rfl (by kernel_rfl) rfl rfl rfl hr320q hr360q hS362q Tryd.underlying23 (by kernel_rfl) rfl (by decide) (by decide) (by first | omega | (simp only [List.length_cons, List.length_nil] at *; omega)) (fun a363q W365q v366q M367q h364q hr368q hS369q => ?_)
        clear h356q a355q
        obtain ⟨y370q, hy371q, H⟩ := lete H
        have hr372q : Row k29 29 b w0 R v366q y370q M367q := by rw [hy371q]; exact hr368q
        clear hr368q
        obtain ⟨A373q, c374q, rfl⟩ := hr372q.form
        refine WL.block (c := 1) (m' := 6) h364q rfl [(3, .slice A373q y370q.length c374q)] (by kernel_rfl) (fun a375q h376q => ?_)
        clear h364q a363q
        refine WL.done (by kernel_rfl) ?_
        refine WL.start ?_
        refine WL.block (c := 2) (m' := 2) h376q rfl [(8, .int .i64 (IntKind.i64.wrap (x321q + 1))), (17, .int .i64 (IntKind.i64.wrap (x321q + 1)))] (by kernel_rfl) (fun a377q h378q => ?_)
        clear h376q a375q
        refine WL.done (by kernel_rfl) ?_
        have hS379q : St b w0 W365q R ([(g344q, .cells ([.int .i64 ((gt z43 p0 x321q).f0), .string (mkS ((gt z43 p0 x321q).f1.f0)), .string (mkS ((gt z43 p0 x321q).f1.f1)), .bool ((gt z43 p0 x321q).f1.f2), .int .u32 ((gt z43 p0 x321q).f2), .int .i64 ((gt z43 p0 x321q).f3)] : List Value).toArray 43 (0, 0))] :: M367q :: Fs) := hS369q.bring 1 rfl rfl
        have hS380q : St b w0 W365q R (M367q :: Fs) := hS379q.drop_
        exact ⟨k323q, by omega, y370q, A373q, c374q, M367q, IntKind.i64.wrap (x321q + 1), h378q.keep ⟨rfl, rfl, rfl, rfl, rfl, trivial⟩, ⟨H⟩, ⟨by omega⟩, ⟨hS380q⟩, ⟨hr372q⟩⟩
      · rw [if_neg c361q] at H
        cases H
    · rw [if_neg c327q] at H
      cases H
  · rw [if_neg c326q] at H
    have hb_ : (decide (x321q < (p0.length : Int))) = false := decide_eq_false c326q
    try rw [hb_] at h325q
    clear hb_
    refine wp_else h325q rfl ?_
    refine wp_exit ?_
    refine wp_seq ?_
    refine WL.start ?_
    refine WL.block (c := 4) (m' := 4) h325q rfl [(21, .bool (decide ((p0.length : Int) > 200))), (20, .bool (decide ((p0.length : Int) > 200))), (19, .int .i64 (p0.length : Int)), (18, .slice A0 p0.length c0)] (by kernel_rfl) (fun a381q h382q => ?_)
    clear h325q a324q
    by_cases c383q : (p0.length : Int) > 200
    · rw [if_pos c383q] at H
      have hb_ : (decide ((p0.length : Int) > 200)) = true := decide_eq_true c383q
      try rw [hb_] at h382q
      clear hb_
      refine WL.skipped (m := 4) h382q rfl rfl (by kernel_rfl) rfl (fun a384q h385q => ?_)
      clear h382q a381q
      refine WL.skipped (m := 5) h385q rfl rfl (by kernel_rfl) rfl (fun a386q h387q => ?_)
      clear h385q a384q
      refine WL.block (c := 2) (m' := 8) h387q rfl [(2, .bool true), (24, .bool true)] (by kernel_rfl) (fun a388q h389q => ?_)
      clear h387q a386q
      refine WL.done (by kernel_rfl) ?_
      refine wp_ret ?_
      have hS390q : St b w0 W313q R (Fs) := hS314q.drop_
      obtain rfl := Option.some.inj H
      repeat (first | refine then_ret ?_ | refine inBlock_ret ?_ | refine inBlock_go ?_)
      refine body_ret (v := .bool true) h389q (by kernel_rfl) (by kernel_rfl) ?_
      exact ⟨rfl, hS390q⟩
    · rw [if_neg c383q] at H
      have hb_ : (decide ((p0.length : Int) > 200)) = false := decide_eq_false c383q
      try rw [hb_] at h382q
      clear hb_
      refine WL.op' (m := 4) h382q rfl rfl (owp_run h382q rfl (by kernel_rfl) (v := .slice A317q x316q.length c318q) (by kernel_rfl) (fun a391q h392q => ?_))
      clear h382q a381q
      obtain ⟨r394q, A393q, H⟩ := bind1 H
      refine WL.op' (m := 5) h392q rfl rfl ?_
      refine owp_call [.slice A317q x316q.length c318q] h392q rfl (by kernel_rfl) rfl Tryd.func7 (by kernel_rfl) rfl (by kernel_rfl) (louverref05qGreat.calls k323q hr320q.rds A393q (hS314q.pool)) (fun e396q W395q hp397q => ?_)
      obtain ⟨rfl, hS400q⟩ := hp397q
      have hS401q : St b w0 W395q R (M319q :: Fs) := hS400q.unpool
      refine ⟨_, rfl, fun a398q h399q => ?_⟩
      clear h392q a391q
      refine WL.block (c := 2) (m' := 8) h399q rfl [(2, .bool r394q), (24, .bool r394q)] (by kernel_rfl) (fun a402q h403q => ?_)
      clear h399q a398q
      refine WL.done (by kernel_rfl) ?_
      refine wp_ret ?_
      have hS404q : St b w0 W395q R (Fs) := hS401q.drop_
      obtain rfl := Option.some.inj H
      repeat (first | refine then_ret ?_ | refine inBlock_ret ?_ | refine inBlock_go ?_)
      refine body_ret (v := .bool r394q) h403q (by kernel_rfl) (by kernel_rfl) ?_
      exact ⟨rfl, hS404q⟩

/-! ### louver/louverref05.Size -/
def louverref05qSize.f (p0 : S29) : Option (Int) := some (IntKind.i64.wrap ((IntKind.i64.wrap (32 + (p0.f0.length : Int))) + (p0.f1.length : Int)))
set_option maxHeartbeats 2000000 in
set_option maxRecDepth 100000 in
theorem louverref05qSize.calls {b : Nat} {w0 W : World} {R : Frag} {Fs : List Frag} {p0 : S29}  {r0q : Int}  (H : louverref05qSize.f p0 = some r0q) (hS : St b w0 W R (Fs)) :
    Calls Tryd.prog 24 ([.agg #[.string (mkS p0.f0), .string (mkS p0.f1), .bool p0.f2]] : List Value).toArray W (fun e W' => e = .returned (.int .i64 r0q) ∧ St b w0 W' R (Fs)) := by
  unfold louverref05qSize.f at H
  refine calls_enter Tryd.func24 rfl 11 rfl (by kernel_rfl) (fun a h => ?_)
  refine wp_seq ?_
  refine WL.start ?_
  refine WL.op' (m := 0) h rfl rfl ?_
  refine owp_new (fun g_ => .pointer (some ⟨g_, 0, none⟩)) (.cells ([.string (mkS p0.f0), .string (mkS p0.f1), .bool p0.f2] : List Value).toArray 29 (0, 0)) h rfl (by kernel_rfl) (by kernel_rfl) hS (fun a19q W21q g22q h20q hS23q => ?_)
  refine WL.block (c := 1) (m' := 2) h20q rfl [(2, .int .i64 0)] (by kernel_rfl) (fun a24q h25q => ?_)
  clear h20q a19q
  refine WL.done (by kernel_rfl) ?_
  refine wp_seq ?_
  refine WL.start ?_
  refine WL.block (c := 1) (m' := 1) h25q rfl [(3, .pointer (some ⟨g22q, 0, none⟩))] (by kernel_rfl) (fun a26q h27q => ?_)
  clear h25q a24q
  refine WL.op' (m := 1) h27q rfl rfl ?_
  refine owp_run (v := .string (mkS p0.f0)) h27q rfl (by kernel_rfl) (run_load1 rfl rfl Tryd.underlying9 rfl (hS23q.cell (i := 0) rfl)) (fun a28q h29q => ?_)
  clear h27q a26q
  refine WL.block (c := 3) (m' := 5) h29q rfl [(7, .pointer (some ⟨g22q, 1, none⟩)), (6, .int .i64 (IntKind.i64.wrap (32 + (p0.f0.length : Int)))), (5, .int .i64 (p0.f0.length : Int))] (by kernel_rfl) (fun a30q h31q => ?_)
  clear h29q a28q
  refine WL.op' (m := 5) h31q rfl rfl ?_
  refine owp_run (v := .string (mkS p0.f1)) h31q rfl (by kernel_rfl) (run_load1 rfl rfl Tryd.underlying9 rfl (hS23q.cell (i := 1) rfl)) (fun a32q h33q => ?_)
  clear h31q a30q
  refine WL.block (c := 3) (m' := 9) h33q rfl [(2, .int .i64 (IntKind.i64.wrap ((IntKind.i64.wrap (32 + (p0.f0.length : Int))) + (p0.f1.length : Int)))), (10, .int .i64 (IntKind.i64.wrap ((IntKind.i64.wrap (32 + (p0.f0.length : Int))) + (p0.f1.length : Int)))), (9, .int .i64 (p0.f1.length : Int))] (by kernel_rfl) (fun a34q h35q => ?_)
  clear h33q a32q
  refine WL.done (by kernel_rfl) ?_
  refine wp_ret ?_
  have hS36q : St b w0 W21q R (Fs) := hS23q.drop_
  obtain rfl := Option.some.inj H
  repeat (first | refine then_ret ?_ | refine inBlock_ret ?_ | refine inBlock_go ?_)
  refine body_ret (v := .int .i64 (IntKind.i64.wrap ((IntKind.i64.wrap (32 + (p0.f0.length : Int))) + (p0.f1.length : Int)))) h35q (by kernel_rfl) (by kernel_rfl) ?_
  exact ⟨rfl, hS36q⟩

structure S41 where
  f0 : (List S29)
  f1 : Int
  deriving DecidableEq
def z41 : S41 := ⟨[], (0 : Int)⟩
def k41 : Kd S41 := kIso (kPair (kRow k29 29) (kInt .i64)) (fun x : S41 => (x.f0, x.f1))
theorem k41qrd {b : Nat} {w0 : World} {R : Frag} {x : S41} {cs : List Value} (h : k41.rd b w0 R x cs) : ∃ (vf0 : Value), cs = [vf0, .int .i64 x.f1] ∧ Rds k29 b w0 R vf0 x.f0 := by
  obtain ⟨c1q, c2q, rfl, h3q, h4q⟩ := h
  obtain ⟨v5q, rfl, g6q⟩ := h3q
  obtain rfl := h4q
  exact ⟨v5q, rfl, g6q⟩
theorem k41qrep {b : Nat} {w0 : World} {R : Frag} {x : S41} {cs : List Value} {M : Frag} (h : k41.rep b w0 R x cs M) : ∃ (vf0 : Value), ∃ (Mvf0 : Frag), cs = [vf0, .int .i64 x.f1] ∧ M = Mvf0 ∧ Row k29 29 b w0 R vf0 x.f0 Mvf0 := by
  obtain ⟨c7q, c8q, M11q, M12q, rfl, rfl, h9q, h10q⟩ := h
  obtain ⟨v13q, rfl, g14q⟩ := h9q
  obtain ⟨rfl, rfl⟩ := h10q
  exact ⟨v13q, _, rfl, by simp, g14q⟩
theorem k41qmk {b : Nat} {w0 : World} {R : Frag} {x : S41} {vf0 : Value} {Mvf0 : Frag} (gvf0 : Row k29 29 b w0 R vf0 x.f0 Mvf0) : ∃ M, k41.rep b w0 R x [vf0, .int .i64 x.f1] M ∧ M = Mvf0 := ⟨_, ⟨_, _, _, _, rfl, rfl, ⟨vf0, rfl, gvf0⟩, ⟨rfl, rfl⟩⟩, by simp⟩
/-! ### (louver/louverref05.T).Within -/
def louverref05qT_Within.l0 : Nat → (List S29) → Int → Int → S41 → Int → Option (S41)
  | 0, _, _, _, _, _ => none
  | k + 1, x499q, x504q, x505q, p0, p1 => if x505q < (p0.f0.length : Int) then (if 0 ≤ x505q then (bnd1 (louverref05qSize.f (⟨(gt z29 p0.f0 x505q).f0, (gt z29 p0.f0 x505q).f1, (gt z29 p0.f0 x505q).f2⟩ : S29)) fun r538q => (if (IntKind.i64.wrap (x504q + r538q)) > p1 then (some (⟨x499q, p0.f1⟩ : S41)) else (if x499q.length + 1 ≤ 3518437208883 then (lt1 (x499q ++ ([(⟨(gt z29 p0.f0 x505q).f0, (gt z29 p0.f0 x505q).f1, (gt z29 p0.f0 x505q).f2⟩ : S29)] : List S29) : List S29) fun y604q => (louverref05qT_Within.l0 k y604q (IntKind.i64.wrap (x504q + r538q)) (IntKind.i64.wrap (x505q + 1)) p0 p1)) else (none)))) else (none)) else (some (⟨x499q, p0.f1⟩ : S41))
def louverref05qT_Within.f (k : Nat) (p0 : S41) (p1 : Int) : Option (S41) := louverref05qT_Within.l0 k ([] : List S29) 0 0 p0 p1
set_option maxHeartbeats 2000000 in
set_option maxRecDepth 100000 in
theorem louverref05qT_Within.calls (k : Nat) {b : Nat} {w0 W : World} {R : Frag} {Fs : List Frag} {p0 : S41} {p1 : Int} {v0q0 : Value} {M0q0 : Frag} {r0q : S41} (hp0q0 : Row k29 29 b w0 R v0q0 p0.f0 M0q0) (H : louverref05qT_Within.f k p0 p1 = some r0q) (hS : St b w0 W R (M0q0 :: Fs)) :
    Calls Tryd.prog 29 ([.agg #[v0q0, .int .i64 p0.f1], .int .i64 p1] : List Value).toArray W (fun e W' => ∃ (u0qv0qf0 : Value) (Nu0qv0qf0 : Frag), e = .returned (.agg #[u0qv0qf0, .int .i64 r0q.f1]) ∧ Row k29 29 b w0 R u0qv0qf0 r0q.f0 Nu0qv0qf0 ∧ St b w0 W' R (Nu0qv0qf0 :: Fs)) := by
  obtain ⟨A0q0, c0q0, rfl⟩ := hp0q0.form
  unfold louverref05qT_Within.f at H
  refine calls_enter Tryd.func29 rfl 38 rfl (by kernel_rfl) (fun a h => ?_)
  refine wp_seq ?_
  refine WL.start ?_
  refine WL.op' (m := 0) h rfl rfl ?_
  refine owp_new (fun g_ => .pointer (some ⟨g_, 0, none⟩)) (.cells ([.slice A0q0 p0.f0.length c0q0, .int .i64 p0.f1] : List Value).toArray 41 (0, 0)) h rfl (by kernel_rfl) (by kernel_rfl) hS (fun a467q W469q g470q h468q hS471q => ?_)
  refine WL.op' (m := 1) h468q rfl rfl ?_
  refine owp_new (fun g_ => .pointer (some ⟨g_, 0, none⟩)) (.cells ([.slice none 0 0, .int .i64 0] : List Value).toArray 41 (0, 0)) h468q rfl (by kernel_rfl) (by kernel_rfl) hS471q (fun a472q W474q g475q h473q hS476q => ?_)
  clear h468q a467q
  refine WL.done (by kernel_rfl) ?_
  refine wp_seq ?_
  refine WL.start ?_
  refine WL.op' (m := 0) h473q rfl rfl ?_
  refine owp_new (fun g_ => .slice (some ⟨g_, 0, none⟩) 0 0) (.cells ([] : List Value).toArray 29 (0, 0)) h473q rfl (by kernel_rfl) (by kernel_rfl) hS476q (fun a477q W479q g480q h478q hS481q => ?_)
  clear h473q a472q
  have hr482q : Row k29 29 b w0 R (.slice (some ⟨g480q, 0, none⟩) 0 0) ([] : List S29) [(g480q, .cells ([] : List Value).toArray 29 (0, 0))] := Row.lit (xs := ([] : List S29)) (Mi := []) ⟨rfl, rfl⟩ (by simp [maxLen])
  refine WL.block (c := 1) (m' := 2) h478q rfl [(5, .slice (some ⟨g480q, 0, none⟩) 0 0)] (by kernel_rfl) (fun a483q h484q => ?_)
  clear h478q a477q
  refine WL.done (by kernel_rfl) ?_
  refine wp_seq ?_
  refine WL.start ?_
  refine WL.block (c := 1) (m' := 1) h484q rfl [(6, .int .i64 0)] (by kernel_rfl) (fun a485q h486q => ?_)
  clear h484q a483q
  refine WL.done (by kernel_rfl) ?_
  refine wp_seq ?_
  refine wp_seq ?_
  refine WL.start ?_
  refine WL.block (c := 1) (m' := 1) h486q rfl [(9, .pointer (some ⟨g470q, 0, none⟩))] (by kernel_rfl) (fun a487q h488q => ?_)
  clear h486q a485q
  have hS489q : St b w0 W479q R ([(g470q, .cells ([.slice A0q0 p0.f0.length c0q0, .int .i64 p0.f1] : List Value).toArray 41 (0, 0))] :: [(g480q, .cells ([] : List Value).toArray 29 (0, 0))] :: [(g475q, .cells ([.slice none 0 0, .int .i64 0] : List Value).toArray 41 (0, 0))] :: M0q0 :: Fs) := hS481q.bring 2 rfl rfl
  refine WL.op' (m := 1) h488q rfl rfl ?_
  refine owp_run (v := .slice A0q0 p0.f0.length c0q0) h488q rfl (by kernel_rfl) (run_load1 rfl rfl Tryd.underlying23 rfl (hS489q.cell (i := 0) rfl)) (fun a490q h491q => ?_)
  clear h488q a487q
  refine WL.block (c := 2) (m' := 4) h491q rfl [(12, .int .i64 0), (11, .int .i64 (p0.f0.length : Int))] (by kernel_rfl) (fun a492q h493q => ?_)
  clear h491q a490q
  refine WL.done (by kernel_rfl) ?_
  refine wp_block ?_
  have hS506q : St b w0 W479q R ([(g480q, .cells ([] : List Value).toArray 29 (0, 0))] :: [(g470q, .cells ([.slice A0q0 p0.f0.length c0q0, .int .i64 p0.f1] : List Value).toArray 41 (0, 0))] :: [(g475q, .cells ([.slice none 0 0, .int .i64 0] : List Value).toArray 41 (0, 0))] :: M0q0 :: Fs) := hS489q.bring 1 rfl rfl
  have hS507q : St b w0 W479q R ([(g475q, .cells ([.slice none 0 0, .int .i64 0] : List Value).toArray 41 (0, 0))] :: [(g480q, .cells ([] : List Value).toArray 29 (0, 0))] :: [(g470q, .cells ([.slice A0q0 p0.f0.length c0q0, .int .i64 p0.f1] : List Value).toArray 41 (0, 0))] :: M0q0 :: Fs) := hS506q.bring 2 rfl rfl
  have hS508q : St b w0 W479q R (M0q0 :: [(g475q, .cells ([.slice none 0 0, .int .i64 0] : List Value).toArray 41 (0, 0))] :: [(g480q, .cells ([] : List Value).toArray 29 (0, 0))] :: [(g470q, .cells ([.slice A0q0 p0.f0.length c0q0, .int .i64 p0.f1] : List Value).toArray 41 (0, 0))] :: Fs) := hS507q.bring 3 rfl rfl
  have hS509q : St b w0 W479q R ([(g470q, .cells ([.slice A0q0 p0.f0.length c0q0, .int .i64 p0.f1] : List Value).toArray 41 (0, 0))] :: M0q0 :: [(g475q, .cells ([.slice none 0 0, .int .i64 0] : List Value).toArray 41 (0, 0))] :: [(g480q, .cells ([] : List Value).toArray 29 (0, 0))] :: Fs) := hS508q.bring 3 rfl rfl
  refine wp_loop_ghost (fun kq_ a_ W_ => ∃ (x499q : (List S29)), ∃ (A500q : Option Addr), ∃ (c501q : Nat), ∃ (M502q : Frag), ∃ (x504q : Int), ∃ (x505q : Int), Hd a_ 38 [(1, .int .i64 p1), (2, .pointer (some ⟨g470q, 0, none⟩)), (4, .pointer (some ⟨g475q, 0, none⟩)), (5, .slice A500q x499q.length c501q), (6, .int .i64 x504q), (11, .int .i64 (p0.f0.length : Int)), (12, .int .i64 x505q)] ∧ Asd (louverref05qT_Within.l0 kq_ x499q x504q x505q p0 p1 = some r0q) ∧ Asd (kq_ ≤ k) ∧ Asd (St b w0 W_ R ([(g470q, .cells ([.slice A0q0 p0.f0.length c0q0, .int .i64 p0.f1] : List Value).toArray 41 (0, 0))] :: M0q0 :: [(g475q, .cells ([.slice none 0 0, .int .i64 0] : List Value).toArray 41 (0, 0))] :: M502q :: Fs)) ∧ Asd (Row k29 29 b w0 R (.slice A500q x499q.length c501q) x499q M502q)) k ⟨([] : List S29), (some ⟨g480q, 0, none⟩), 0, [(g480q, .cells ([] : List Value).toArray 29 (0, 0))], 0, 0, h493q.keep ⟨rfl, rfl, rfl, rfl, rfl, rfl, rfl, trivial⟩, ⟨H⟩, ⟨Nat.le_refl _⟩, ⟨hS509q⟩, ⟨hr482q⟩⟩ ?_
  clear H hS509q
  rintro k498q a495q W496q ⟨x499q, A500q, c501q, M502q, x504q, x505q, h494q, ⟨H⟩, ⟨hkk498q⟩, ⟨hS497q⟩, ⟨hr503q⟩⟩
  obtain _ | k510q := k498q
  · exact absurd H (by simp [louverref05qT_Within.l0])
  simp only [louverref05qT_Within.l0] at H
  refine wp_seq ?_
  refine WL.start ?_
  refine WL.block (c := 1) (m' := 1) h494q rfl [(13, .bool (decide (x505q < (p0.f0.length : Int))))] (by kernel_rfl) (fun a511q h512q => ?_)
  clear h494q a495q
  refine WL.done (by kernel_rfl) ?_
  refine wp_seq ?_
  by_cases c513q : x505q < (p0.f0.length : Int)
  · rw [if_pos c513q] at H
    have hb_ : (decide (x505q < (p0.f0.length : Int))) = true := decide_eq_true c513q
    try rw [hb_] at h512q
    clear hb_
    refine wp_then h512q rfl ?_
    refine wp_skip ?_
    refine wp_seq ?_
    refine wp_block ?_
    refine wp_seq ?_
    refine WL.start ?_
    refine WL.block (c := 2) (m' := 2) h512q rfl [(7, .int .i64 x505q), (14, .int .i64 x505q)] (by kernel_rfl) (fun a514q h515q => ?_)
    clear h512q a511q
    refine WL.done (by kernel_rfl) ?_
    refine wp_seq ?_
    refine WL.start ?_
    refine WL.block (c := 2) (m' := 2) h515q rfl [(16, .pointer (some ⟨g470q, 0, none⟩)), (15, .int .i64 x504q)] (by kernel_rfl) (fun a516q h517q => ?_)
    clear h515q a514q
    refine WL.op' (m := 2) h517q rfl rfl ?_
    refine owp_run (v := .slice A0q0 p0.f0.length c0q0) h517q rfl (by kernel_rfl) (run_load1 rfl rfl Tryd.underlying23 rfl (hS497q.cell (i := 0) rfl)) (fun a518q h519q => ?_)
    clear h517q a516q
    refine WL.block (c := 1) (m' := 4) h519q rfl [(18, .int .i64 x505q)] (by kernel_rfl) (fun a520q h521q => ?_)
    clear h519q a518q
    by_cases c522q : 0 ≤ x505q
    · rw [if_pos c522q] at H
      have hi525q : 0 ≤ x505q := by first | assumption | omega
      have hi526q : x505q < (p0.f0.length : Int) := by first | assumption | omega
      obtain ⟨ad523q, _, ha524q, -, -⟩ := Rds.elemAny hp0q0.rds hi525q (gt_get (z := z29) hi525q hi526q)
      refine WL.op' (m := 4) h521q rfl rfl ?_
      refine owp_run (v := .pointer (some (ad523q.add (x505q.toNat * 3)))) h521q rfl (by kernel_rfl) (run_idx (ad := ad523q) (sz := 3) rfl (by rw [← ha524q]; rfl) rfl Tryd.underlying23 (by kernel_rfl) hi525q hi526q) (fun a527q h528q => ?_)
      clear h521q a520q
      have hS529q : St b w0 W496q R (M0q0 :: [(g470q, .cells ([.slice A0q0 p0.f0.length c0q0, .int .i64 p0.f1] : List Value).toArray 41 (0, 0))] :: [(g475q, .cells ([.slice none 0 0, .int .i64 0] : List Value).toArray 41 (0, 0))] :: M502q :: Fs) := hS497q.bring 1 rfl rfl
      obtain ⟨ad530q, cs531q, ha532q, hr534q, hc533q⟩ := Rds.elemAny hp0q0.rds hi525q (gt_get (z := z29) hi525q hi526q)
      rw [ha524q] at ha532q; obtain rfl := Option.some.inj ha532q
      obtain rfl := k29qrd hr534q
      refine WL.op' (m := 5) h528q rfl rfl ?_
      refine owp_run (v := .agg #[.string (mkS ((gt z29 p0.f0 x505q).f0)), .string (mkS ((gt z29 p0.f0 x505q).f1)), .bool ((gt z29 p0.f0 x505q).f2)]) h528q rfl (by kernel_rfl) (run_loadN rfl rfl Tryd.underlying29 rfl (cs := ([.string (mkS ((gt z29 p0.f0 x505q).f0)), .string (mkS ((gt z29 p0.f0 x505q).f1)), .bool ((gt z29 p0.f0 x505q).f2)] : List Value)) (by kernel_rfl) (hc533q _ (fun _ _ hk_ => (hS529q).pool.kn hk_))) (fun a535q h536q => ?_)
      clear h528q a527q
      obtain ⟨r538q, A537q, H⟩ := bind1 H
      refine WL.op' (m := 6) h536q rfl rfl ?_
      refine owp_call [.agg #[.string (mkS ((gt z29 p0.f0 x505q).f0)), .string (mkS ((gt z29 p0.f0 x505q).f1)), .bool ((gt z29 p0.f0 x505q).f2)]] h536q rfl (by kernel_rfl) rfl Tryd.func24 (by kernel_rfl) rfl (by kernel_rfl) (louverref05qSize.calls (p0 := (⟨(gt z29 p0.f0 x505q).f0, (gt z29 p0.f0 x505q).f1, (gt z29 p0.f0 x505q).f2⟩ : S29))  A537q hS529q) (fun e540q W539q hp541q => ?_)
      obtain ⟨rfl, hS544q⟩ := hp541q
      refine ⟨_, rfl, fun a542q h543q => ?_⟩
      clear h536q a535q
      refine WL.block (c := 2) (m' := 9) h543q rfl [(6, .int .i64 (IntKind.i64.wrap (x504q + r538q))), (22, .int .i64 (IntKind.i64.wrap (x504q + r538q)))] (by kernel_rfl) (fun a545q h546q => ?_)
      clear h543q a542q
      refine WL.done (by kernel_rfl) ?_
      refine wp_seq ?_
      refine wp_seq ?_
      refine WL.start ?_
      refine WL.block (c := 3) (m' := 3) h546q rfl [(25, .bool (decide ((IntKind.i64.wrap (x504q + r538q)) > p1))), (24, .int .i64 p1), (23, .int .i64 (IntKind.i64.wrap (x504q + r538q)))] (by kernel_rfl) (fun a547q h548q => ?_)
      clear h546q a545q
      refine WL.done (by kernel_rfl) ?_
      by_cases c549q : (IntKind.i64.wrap (x504q + r538q)) > p1
      · rw [if_pos c549q] at H
        have hb_ : (decide ((IntKind.i64.wrap (x504q + r538q)) > p1)) = true := decide_eq_true c549q
        try rw [hb_] at h548q
        clear hb_
        refine wp_then h548q rfl ?_
        refine wp_exit ?_
        refine wp_seq ?_
        refine WL.start ?_
        refine WL.block (c := 2) (m' := 2) h548q rfl [(36, .pointer (some ⟨g470q, 0, none⟩)), (35, .slice A500q x499q.length c501q)] (by kernel_rfl) (fun a550q h551q => ?_)
        clear h548q a547q
        have hS552q : St b w0 W539q R ([(g470q, .cells ([.slice A0q0 p0.f0.length c0q0, .int .i64 p0.f1] : List Value).toArray 41 (0, 0))] :: M0q0 :: [(g475q, .cells ([.slice none 0 0, .int .i64 0] : List Value).toArray 41 (0, 0))] :: M502q :: Fs) := hS544q.bring 1 rfl rfl
        refine WL.op' (m := 2) h551q rfl rfl ?_
        refine owp_store (i := 0) (vs := ([.slice A500q x499q.length c501q] : List Value)) h551q rfl (by kernel_rfl) rfl rfl rfl rfl (by simp [Value.oneCell']) (by kernel_rfl) hS552q (by simp) (cs' := ([.slice A500q x499q.length c501q, .int .i64 p0.f1] : List Value)) rfl (fun a553q W555q h554q hS556q => ?_)
        clear h551q a550q
        refine WL.done (by kernel_rfl) ?_
        refine wp_seq ?_
        refine WL.start ?_
        refine WL.op' (m := 0) h554q rfl rfl ?_
        refine owp_run (v := .agg #[.slice A500q x499q.length c501q, .int .i64 p0.f1]) h554q rfl (by kernel_rfl) (run_loadN rfl rfl Tryd.underlying41 rfl (cs := ([.slice A500q x499q.length c501q, .int .i64 p0.f1] : List Value)) (by kernel_rfl) (hS556q.cells (vs := ([.slice A500q x499q.length c501q, .int .i64 p0.f1] : List Value)) rfl)) (fun a557q h558q => ?_)
        clear h554q a553q
        have hS559q : St b w0 W555q R ([(g475q, .cells ([.slice none 0 0, .int .i64 0] : List Value).toArray 41 (0, 0))] :: [(g470q, .cells ([.slice A500q x499q.length c501q, .int .i64 p0.f1] : List Value).toArray 41 (0, 0))] :: M0q0 :: M502q :: Fs) := hS556q.bring 2 rfl rfl
        refine WL.op' (m := 1) h558q rfl rfl ?_
        refine owp_store (i := 0) (vs := ([.slice A500q x499q.length c501q, .int .i64 p0.f1] : List Value)) h558q rfl (by kernel_rfl) rfl rfl rfl rfl (by simp [Value.oneCell']) (by kernel_rfl) hS559q (by simp) (cs' := ([.slice A500q x499q.length c501q, .int .i64 p0.f1] : List Value)) rfl (fun a560q W562q h561q hS563q => ?_)
        clear h558q a557q
        refine WL.done (by kernel_rfl) ?_
        refine wp_ret ?_
        have hS564q : St b w0 W562q R ([(g470q, .cells ([.slice A500q x499q.length c501q, .int .i64 p0.f1] : List Value).toArray 41 (0, 0))] :: M0q0 :: M502q :: Fs) := hS563q.drop_
        have hS565q : St b w0 W562q R (M0q0 :: M502q :: Fs) := hS564q.drop_
        have hS566q : St b w0 W562q R (M502q :: Fs) := hS565q.drop_
        obtain rfl := Option.some.inj H
        repeat (first | refine then_ret ?_ | refine inBlock_ret ?_ | refine inBlock_go ?_)
        refine body_ret (v := .agg #[.slice A500q x499q.length c501q, .int .i64 p0.f1]) h561q (by kernel_rfl) (res_one rfl ⟨_, rfl, loadVarN Tryd.underlying41 rfl (cs := ([.slice A500q x499q.length c501q, .int .i64 p0.f1] : List Value)) (by kernel_rfl) (hS563q.cells (vs := ([.slice A500q x499q.length c501q, .int .i64 p0.f1] : List Value)) rfl)⟩) ?_
        exact ⟨.slice A500q x499q.length c501q, M502q, rfl, hr503q, hS566q⟩
      · rw [if_neg c549q] at H
        have hb_ : (decide ((IntKind.i64.wrap (x504q + r538q)) > p1)) = false := decide_eq_false c549q
        try rw [hb_] at h548q
        clear hb_
        refine wp_else h548q rfl ?_
        refine wp_skip ?_
        refine WL.start ?_
        refine WL.block (c := 2) (m' := 2) h548q rfl [(27, .pointer (some ⟨g470q, 0, none⟩)), (26, .slice A500q x499q.length c501q)] (by kernel_rfl) (fun a567q h568q => ?_)
        clear h548q a547q
        have hS569q : St b w0 W539q R ([(g470q, .cells ([.slice A0q0 p0.f0.length c0q0, .int .i64 p0.f1] : List Value).toArray 41 (0, 0))] :: M0q0 :: [(g475q, .cells ([.slice none 0 0, .int .i64 0] : List Value).toArray 41 (0, 0))] :: M502q :: Fs) := hS544q.bring 1 rfl rfl
        refine WL.op' (m := 2) h568q rfl rfl ?_
        refine owp_run (v := .slice A0q0 p0.f0.length c0q0) h568q rfl (by kernel_rfl) (run_load1 rfl rfl Tryd.underlying23 rfl (hS569q.cell (i := 0) rfl)) (fun a570q h571q => ?_)
        clear h568q a567q
        refine WL.block (c := 1) (m' := 4) h571q rfl [(29, .int .i64 x505q)] (by kernel_rfl) (fun a572q h573q => ?_)
        clear h571q a570q
        have hi576q : 0 ≤ x505q := by first | assumption | omega
        have hi577q : x505q < (p0.f0.length : Int) := by first | assumption | omega
        obtain ⟨ad574q, _, ha575q, -, -⟩ := Rds.elemAny hp0q0.rds hi576q (gt_get (z := z29) hi576q hi577q)
        refine WL.op' (m := 4) h573q rfl rfl ?_
        refine owp_run (v := .pointer (some (ad574q.add (x505q.toNat * 3)))) h573q rfl (by kernel_rfl) (run_idx (ad := ad574q) (sz := 3) rfl (by rw [← ha575q]; rfl) rfl Tryd.underlying23 (by kernel_rfl) hi576q hi577q) (fun a578q h579q => ?_)
        clear h573q a572q
        have hS580q : St b w0 W539q R (M0q0 :: [(g470q, .cells ([.slice A0q0 p0.f0.length c0q0, .int .i64 p0.f1] : List Value).toArray 41 (0, 0))] :: [(g475q, .cells ([.slice none 0 0, .int .i64 0] : List Value).toArray 41 (0, 0))] :: M502q :: Fs) := hS569q.bring 1 rfl rfl
        obtain ⟨ad581q, cs582q, ha583q, hr585q, hc584q⟩ := Rds.elemAny hp0q0.rds hi576q (gt_get (z := z29) hi576q hi577q)
        rw [ha575q] at ha583q; obtain rfl := Option.some.inj ha583q
        obtain rfl := k29qrd hr585q
        refine WL.op' (m := 5) h579q rfl rfl ?_
        refine owp_run (v := .agg #[.string (mkS ((gt z29 p0.f0 x505q).f0)), .string (mkS ((gt z29 p0.f0 x505q).f1)), .bool ((gt z29 p0.f0 x505q).f2)]) h579q rfl (by kernel_rfl) (run_loadN rfl rfl Tryd.underlying29 rfl (cs := ([.string (mkS ((gt z29 p0.f0 x505q).f0)), .string (mkS ((gt z29 p0.f0 x505q).f1)), .bool ((gt z29 p0.f0 x505q).f2)] : List Value)) (by kernel_rfl) (hc584q _ (fun _ _ hk_ => (hS580q).pool.kn hk_))) (fun a586q h587q => ?_)
        clear h579q a578q
        obtain ⟨_, hrep_, hMe_⟩ := k29qmk (b := b) (w0 := w0) (R := R) (x := (⟨(gt z29 p0.f0 x505q).f0, (gt z29 p0.f0 x505q).f1, (gt z29 p0.f0 x505q).f2⟩ : S29)) 
        subst hMe_
        have hq588q := hrep_; clear hrep_
        refine WL.op' (m := 6) h587q rfl rfl ?_
        refine owp_new (fun g_ => .slice (some ⟨g_, 0, none⟩) 1 1) (.cells ([.string (mkS ((gt z29 p0.f0 x505q).f0)), .string (mkS ((gt z29 p0.f0 x505q).f1)), .bool ((gt z29 p0.f0 x505q).f2)] : List Value).toArray 29 (0, 0)) h587q rfl (by kernel_rfl) (by kernel_rfl) hS580q (fun a589q W591q g592q h590q hS593q => ?_)
        clear h587q a586q
        have hr594q : Row k29 29 b w0 R (.slice (some ⟨g592q, 0, none⟩) 1 1) ([(⟨(gt z29 p0.f0 x505q).f0, (gt z29 p0.f0 x505q).f1, (gt z29 p0.f0 x505q).f2⟩ : S29)] : List S29) [(g592q, .cells ([.string (mkS ((gt z29 p0.f0 x505q).f0)), .string (mkS ((gt z29 p0.f0 x505q).f1)), .bool ((gt z29 p0.f0 x505q).f2)] : List Value).toArray 29 (0, 0))] := Row.lit (xs := ([(⟨(gt z29 p0.f0 x505q).f0, (gt z29 p0.f0 x505q).f1, (gt z29 p0.f0 x505q).f2⟩ : S29)] : List S29)) (Mi := []) ⟨_, _, [], _, rfl, rfl, hq588q, ⟨rfl, rfl⟩⟩ (by simp [maxLen])
        by_cases c595q : x499q.length + 1 ≤ 3518437208883
        · rw [if_pos c595q] at H
          have hS596q : St b w0 W591q R (M502q :: [(g592q, .cells ([.string (mkS ((gt z29 p0.f0 x505q).f0)), .string (mkS ((gt z29 p0.f0 x505q).f1)), .bool ((gt z29 p0.f0 x505q).f2)] : List Value).toArray 29 (0, 0))] :: M0q0 :: [(g470q, .cells ([.slice A0q0 p0.f0.length c0q0, .int .i64 p0.f1] : List Value).toArray 41 (0, 0))] :: [(g475q, .cells ([.slice none 0 0, .int .i64 0] : List Value).toArray 41 (0, 0))] :: Fs) := hS593q.bring 4 rfl rfl
          refine WL.op' (m := 7) h590q rfl rfl ?_
          refine owp_app_take (z := .agg #[.string (mkS []), .string (mkS []), .bool false]) (bytes := 40) (dk := k29) h590q rfl (by kernel_rfl) rfl rfl rfl hr503q hr594q hS596q Tryd.underlying23 (by kernel_rfl) rfl (by decide) (by decide) (by first | omega | (simp only [List.length_cons, List.length_nil] at *; omega)) (fun a597q W599q v600q M601q h598q hr602q hS603q => ?_)
          clear h590q a589q
          obtain ⟨y604q, hy605q, H⟩ := lete H
          have hr606q : Row k29 29 b w0 R v600q y604q M601q := by rw [hy605q]; exact hr602q
          clear hr602q
          obtain ⟨A607q, c608q, rfl⟩ := hr606q.form
          refine WL.block (c := 1) (m' := 9) h598q rfl [(5, .slice A607q y604q.length c608q)] (by kernel_rfl) (fun a609q h610q => ?_)
          clear h598q a597q
          refine WL.done (by kernel_rfl) ?_
          refine WL.start ?_
          refine WL.block (c := 2) (m' := 2) h610q rfl [(12, .int .i64 (IntKind.i64.wrap (x505q + 1))), (34, .int .i64 (IntKind.i64.wrap (x505q + 1)))] (by kernel_rfl) (fun a611q h612q => ?_)
          clear h610q a609q
          refine WL.done (by kernel_rfl) ?_
          have hS613q : St b w0 W599q R ([(g475q, .cells ([.slice none 0 0, .int .i64 0] : List Value).toArray 41 (0, 0))] :: M601q :: M0q0 :: [(g470q, .cells ([.slice A0q0 p0.f0.length c0q0, .int .i64 p0.f1] : List Value).toArray 41 (0, 0))] :: Fs) := hS603q.bring 3 rfl rfl
          have hS614q : St b w0 W599q R (M0q0 :: [(g475q, .cells ([.slice none 0 0, .int .i64 0] : List Value).toArray 41 (0, 0))] :: M601q :: [(g470q, .cells ([.slice A0q0 p0.f0.length c0q0, .int .i64 p0.f1] : List Value).toArray 41 (0, 0))] :: Fs) := hS613q.bring 2 rfl rfl
          have hS615q : St b w0 W599q R ([(g470q, .cells ([.slice A0q0 p0.f0.length c0q0, .int .i64 p0.f1] : List Value).toArray 41 (0, 0))] :: M0q0 :: [(g475q, .cells ([.slice none 0 0, .int .i64 0] : List Value).toArray 41 (0, 0))] :: M601q :: Fs) := hS614q.bring 3 rfl rfl
          exact ⟨k510q, by omega, y604q, A607q, c608q, M601q, IntKind.i64.wrap (x504q + r538q), IntKind.i64.wrap (x505q + 1), h612q.keep ⟨rfl, rfl, rfl, rfl, rfl, rfl, rfl, trivial⟩, ⟨H⟩, ⟨by omega⟩, ⟨hS615q⟩, ⟨hr606q⟩⟩
        · rw [if_neg c595q] at H
          cases H
    · rw [if_neg c522q] at H
      cases H
  · rw [if_neg c513q] at H
    have hb_ : (decide (x505q < (p0.f0.length : Int))) = false := decide_eq_false c513q
    try rw [hb_] at h512q
    clear hb_
    refine wp_else h512q rfl ?_
    refine wp_exit ?_
    refine wp_seq ?_
    refine WL.start ?_
    refine WL.block (c := 2) (m' := 2) h512q rfl [(36, .pointer (some ⟨g470q, 0, none⟩)), (35, .slice A500q x499q.length c501q)] (by kernel_rfl) (fun a616q h617q => ?_)
    clear h512q a511q
    refine WL.op' (m := 2) h617q rfl rfl ?_
    refine owp_store (i := 0) (vs := ([.slice A500q x499q.length c501q] : List Value)) h617q rfl (by kernel_rfl) rfl rfl rfl rfl (by simp [Value.oneCell']) (by kernel_rfl) hS497q (by simp) (cs' := ([.slice A500q x499q.length c501q, .int .i64 p0.f1] : List Value)) rfl (fun a618q W620q h619q hS621q => ?_)
    clear h617q a616q
    refine WL.done (by kernel_rfl) ?_
    refine wp_seq ?_
    refine WL.start ?_
    refine WL.op' (m := 0) h619q rfl rfl ?_
    refine owp_run (v := .agg #[.slice A500q x499q.length c501q, .int .i64 p0.f1]) h619q rfl (by kernel_rfl) (run_loadN rfl rfl Tryd.underlying41 rfl (cs := ([.slice A500q x499q.length c501q, .int .i64 p0.f1] : List Value)) (by kernel_rfl) (hS621q.cells (vs := ([.slice A500q x499q.length c501q, .int .i64 p0.f1] : List Value)) rfl)) (fun a622q h623q => ?_)
    clear h619q a618q
    have hS624q : St b w0 W620q R ([(g475q, .cells ([.slice none 0 0, .int .i64 0] : List Value).toArray 41 (0, 0))] :: [(g470q, .cells ([.slice A500q x499q.length c501q, .int .i64 p0.f1] : List Value).toArray 41 (0, 0))] :: M0q0 :: M502q :: Fs) := hS621q.bring 2 rfl rfl
    refine WL.op' (m := 1) h623q rfl rfl ?_
    refine owp_store (i := 0) (vs := ([.slice A500q x499q.length c501q, .int .i64 p0.f1] : List Value)) h623q rfl (by kernel_rfl) rfl rfl rfl rfl (by simp [Value.oneCell']) (by kernel_rfl) hS624q (by simp) (cs' := ([.slice A500q x499q.length c501q, .int .i64 p0.f1] : List Value)) rfl (fun a625q W627q h626q hS628q => ?_)
    clear h623q a622q
    refine WL.done (by kernel_rfl) ?_
    refine wp_ret ?_
    have hS629q : St b w0 W627q R ([(g470q, .cells ([.slice A500q x499q.length c501q, .int .i64 p0.f1] : List Value).toArray 41 (0, 0))] :: M0q0 :: M502q :: Fs) := hS628q.drop_
    have hS630q : St b w0 W627q R (M0q0 :: M502q :: Fs) := hS629q.drop_
    have hS631q : St b w0 W627q R (M502q :: Fs) := hS630q.drop_
    obtain rfl := Option.some.inj H
    repeat (first | refine then_ret ?_ | refine inBlock_ret ?_ | refine inBlock_go ?_)
    refine body_ret (v := .agg #[.slice A500q x499q.length c501q, .int .i64 p0.f1]) h626q (by kernel_rfl) (res_one rfl ⟨_, rfl, loadVarN Tryd.underlying41 rfl (cs := ([.slice A500q x499q.length c501q, .int .i64 p0.f1] : List Value)) (by kernel_rfl) (hS628q.cells (vs := ([.slice A500q x499q.length c501q, .int .i64 p0.f1] : List Value)) rfl)⟩) ?_
    exact ⟨.slice A500q x499q.length c501q, M502q, rfl, hr503q, hS631q⟩
end Go.Proofs.YtgbkllnfjehfcaaDoor.Sl
