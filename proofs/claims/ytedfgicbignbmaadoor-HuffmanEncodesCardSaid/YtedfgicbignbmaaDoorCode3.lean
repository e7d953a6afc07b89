/- What the functions of this program compute, told as plain functions, and that the calls come to just that. Printed by this session's program; part 3. -/
import Derived.Test.YtedfgicbignbmaaDoorCode2
set_option linter.unusedVariables false
set_option linter.unusedSimpArgs false
set_option linter.unnecessarySimpa false
namespace Go.Proofs.YtedfgicbignbmaaDoor.Sl
open Go Go.RowKit Go.Proofs.Sl
/-! ### louver/louverlaw03.HuffmanCuts -/
def louverlaw03qHuffmanCuts.f (k : Nat) (p0 : (List UInt8)) (p1 : Int) : Option (Bool) := if (p0.length : Int) > 600 then (bnd1 (louverlaw03qfixed.f k) fun r380q => (some r380q)) else (bnd1 (huffman_Encode.f k p0) fun r392q => (if ¬ ((IntKind.i64.wrap ((r392q.length : Int) + 1)) = 0) then (if 0 ≤ (Int.tmod (IntKind.i64.wrap p1) (IntKind.i64.wrap ((r392q.length : Int) + 1))) then (if (Int.tmod (IntKind.i64.wrap p1) (IntKind.i64.wrap ((r392q.length : Int) + 1))) ≤ (r392q.length : Int) then (bnd2 (huffman_Decode.f k (r392q.take (Int.tmod (IntKind.i64.wrap p1) (IntKind.i64.wrap ((r392q.length : Int) + 1))).toNat)) fun r421q r422q => (bnd1 (louverlaw03qfixed.f k) fun r433q => (if r433q = true then (if r422q = 3 then (if r421q = ([] : List UInt8) then (some true) else (if r422q = 0 then (if (r421q.length : Int) ≤ (p0.length : Int) then (if 0 ≤ (r421q.length : Int) then (some (decide ((p0.take (r421q.length : Int).toNat) = r421q))) else (none)) else (some false)) else (some false))) else (if r422q = 0 then (if (r421q.length : Int) ≤ (p0.length : Int) then (if 0 ≤ (r421q.length : Int) then (some (decide ((p0.take (r421q.length : Int).toNat) = r421q))) else (none)) else (some false)) else (some false))) else (some false)))) else (none)) else (none)) else (none)))
set_option maxHeartbeats 2000000 in
set_option maxRecDepth 100000 in
theorem louverlaw03qHuffmanCuts.calls (k : Nat) {b : Nat} {w0 W : World} {R : Frag} {Fs : List Frag} {p0 : (List UInt8)} {p1 : Int}  {r0q : Bool} (hg0 : Rds (kInt .u8) b w0 [] (.slice (some ⟨0, 0, none⟩) 257 257) G0) (H : louverlaw03qHuffmanCuts.f k p0 p1 = some r0q) (hS : St b w0 W R (Fs)) :
    Calls Tryd.prog 8 ([.string (mkS p0), .int .u16 p1] : List Value).toArray W (fun e W' => e = .returned (.bool r0q) ∧ St b w0 W' R (Fs)) := by
  unfold louverlaw03qHuffmanCuts.f at H
  refine calls_enter Tryd.func8 rfl 54 rfl (by kernel_rfl) (fun a h => ?_)
  refine wp_seq ?_
  refine WL.start ?_
  refine WL.block (c := 1) (m' := 1) h rfl [(4, .bool false)] (by kernel_rfl) (fun a374q h375q => ?_)
  refine WL.done (by kernel_rfl) ?_
  refine wp_seq ?_
  refine wp_seq ?_
  refine WL.start ?_
  refine WL.block (c := 3) (m' := 3) h375q rfl [(10, .bool (decide ((p0.length : Int) > 600))), (9, .int .i64 (p0.length : Int)), (8, .string (mkS p0))] (by kernel_rfl) (fun a376q h377q => ?_)
  clear h375q a374q
  refine WL.done (by kernel_rfl) ?_
  by_cases c378q : (p0.length : Int) > 600
  · rw [if_pos c378q] at H
    have hb_ : (decide ((p0.length : Int) > 600)) = true := decide_eq_true c378q
    try rw [hb_] at h377q
    clear hb_
    refine wp_then h377q rfl ?_
    refine wp_seq ?_
    refine WL.start ?_
    obtain ⟨r380q, A379q, H⟩ := bind1 H
    refine WL.op' (m := 0) h377q rfl rfl ?_
    refine owp_call [] h377q rfl (by kernel_rfl) rfl Tryd.func10 (by kernel_rfl) rfl (by kernel_rfl) (louverlaw03qfixed.calls k hg0 A379q hS) (fun e382q W381q hp383q => ?_)
    obtain ⟨rfl, hS386q⟩ := hp383q
    refine ⟨_, rfl, fun a384q h385q => ?_⟩
    clear h377q a376q
    refine WL.block (c := 1) (m' := 2) h385q rfl [(4, .bool r380q)] (by kernel_rfl) (fun a387q h388q => ?_)
    clear h385q a384q
    refine WL.done (by kernel_rfl) ?_
    refine wp_ret ?_
    obtain rfl := Option.some.inj H
    repeat (first | refine then_ret ?_ | refine inBlock_ret ?_ | refine inBlock_go ?_)
    refine body_ret (v := .bool r380q) h388q (by kernel_rfl) (by kernel_rfl) ?_
    exact ⟨rfl, hS386q⟩
  · rw [if_neg c378q] at H
    have hb_ : (decide ((p0.length : Int) > 600)) = false := decide_eq_false c378q
    try rw [hb_] at h377q
    clear hb_
    refine wp_else h377q rfl ?_
    refine wp_skip ?_
    refine wp_seq ?_
    refine WL.start ?_
    refine WL.block (c := 1) (m' := 1) h377q rfl [(12, .string (mkS p0))] (by kernel_rfl) (fun a389q h390q => ?_)
    clear h377q a376q
    obtain ⟨r392q, A391q, H⟩ := bind1 H
    refine WL.op' (m := 1) h390q rfl rfl ?_
    refine owp_call [.string (mkS p0)] h390q rfl (by kernel_rfl) rfl Tryd.func13 (by kernel_rfl) rfl (by kernel_rfl) (huffman_Encode.calls k hg0 A391q hS) (fun e394q W393q hp395q => ?_)
    obtain ⟨v398q, M399q, rfl, hr400q, hS401q⟩ := hp395q
    refine ⟨_, rfl, fun a396q h397q => ?_⟩
    clear h390q a389q
    obtain ⟨A402q, c403q, rfl⟩ := hr400q.form
    refine WL.block (c := 1) (m' := 3) h397q rfl [(5, .slice A402q r392q.length c403q)] (by kernel_rfl) (fun a404q h405q => ?_)
    clear h397q a396q
    refine WL.done (by kernel_rfl) ?_
    refine wp_seq ?_
    refine WL.start ?_
    refine WL.block (c := 6) (m' := 6) h405q rfl [(20, .int .i64 (IntKind.i64.wrap ((r392q.length : Int) + 1))), (19, .int .i64 (r392q.length : Int)), (18, .slice A402q r392q.length c403q), (17, .int .i64 (IntKind.i64.wrap p1)), (16, .int .u16 p1), (15, .slice A402q r392q.length c403q)] (by kernel_rfl) (fun a406q h407q => ?_)
    clear h405q a404q
    by_cases c408q : ¬ ((IntKind.i64.wrap ((r392q.length : Int) + 1)) = 0)
    · rw [if_pos c408q] at H
      refine WL.op' (m := 6) h407q rfl rfl ?_
      refine owp_run (v := .int .i64 (Int.tmod (IntKind.i64.wrap p1) (IntKind.i64.wrap ((r392q.length : Int) + 1)))) h407q rfl (by kernel_rfl) (run_rem rfl rfl rfl (by assumption)) (fun a409q h410q => ?_)
      clear h407q a406q
      by_cases c411q : 0 ≤ (Int.tmod (IntKind.i64.wrap p1) (IntKind.i64.wrap ((r392q.length : Int) + 1)))
      · rw [if_pos c411q] at H
        by_cases c412q : (Int.tmod (IntKind.i64.wrap p1) (IntKind.i64.wrap ((r392q.length : Int) + 1))) ≤ (r392q.length : Int)
        · rw [if_pos c412q] at H
          refine WL.op' (m := 7) h410q rfl rfl ?_
          refine owp_run (v := sliced A402q (0 : Int).toNat (Int.tmod (IntKind.i64.wrap p1) (IntKind.i64.wrap ((r392q.length : Int) + 1))).toNat c403q 1) h410q rfl (by kernel_rfl) (run_cut (l := 0) (h := Int.tmod (IntKind.i64.wrap p1) (IntKind.i64.wrap ((r392q.length : Int) + 1))) rfl rfl Tryd.underlying33 (by kernel_rfl) rfl ⟨_, rfl⟩ (by first | assumption | omega) (by first | assumption | omega) (by have q_ := Rds.cap hr400q.rds; omega) (by have q_ := Rds.cap hr400q.rds; omega)) (fun a414q h415q => ?_)
          clear h410q a409q
          have hx413q := Rds.cut hr400q.rds (l := (0 : Int).toNat) (h := (Int.tmod (IntKind.i64.wrap p1) (IntKind.i64.wrap ((r392q.length : Int) + 1))).toNat) (by omega) (by omega)
          obtain ⟨v416q, ev417q⟩ : ∃ y_, y_ = sliced A402q (0 : Int).toNat (Int.tmod (IntKind.i64.wrap p1) (IntKind.i64.wrap ((r392q.length : Int) + 1))).toNat c403q 1 := ⟨_, rfl⟩
          have hx_ : Rds (kInt .u8) b w0 (M399q ++ R) v416q (r392q.take (Int.tmod (IntKind.i64.wrap p1) (IntKind.i64.wrap ((r392q.length : Int) + 1))).toNat) := hx413q.as_ ev417q.symm (by simp)
          rw [← ev417q] at h415q; clear hx413q
          have hx413q := hx_; clear hx_
          obtain ⟨A418q, c419q, rfl⟩ := hx413q.form
          obtain ⟨r421q, r422q, A420q, H⟩ := bind2 H
          refine WL.op' (m := 8) h415q rfl rfl ?_
          refine owp_call [.slice A418q (r392q.take (Int.tmod (IntKind.i64.wrap p1) (IntKind.i64.wrap ((r392q.length : Int) + 1))).toNat).length c419q] h415q rfl (by kernel_rfl) rfl Tryd.func14 (by kernel_rfl) rfl (by kernel_rfl) (huffman_Decode.calls k hx413q hg0 A420q (hS401q.pool)) (fun e424q W423q hp425q => ?_)
          obtain ⟨rfl, hS428q⟩ := hp425q
          have hS429q : St b w0 W423q R (M399q :: Fs) := hS428q.unpool
          refine ⟨_, rfl, fun a426q h427q => ?_⟩
          clear h415q a414q
          refine WL.block (c := 5) (m' := 14) h427q rfl [(7, .int .i64 r422q), (6, .string (mkS r421q)), (25, .int .i64 r422q), (24, .string (mkS r421q)), (14, .tuple #[.string (mkS r421q), .int .i64 r422q])] (by kernel_rfl) (fun a430q h431q => ?_)
          clear h427q a426q
          refine WL.done (by kernel_rfl) ?_
          refine wp_seq ?_
          refine WL.start ?_
          obtain ⟨r433q, A432q, H⟩ := bind1 H
          refine WL.op' (m := 0) h431q rfl rfl ?_
          refine owp_call [] h431q rfl (by kernel_rfl) rfl Tryd.func10 (by kernel_rfl) rfl (by kernel_rfl) (louverlaw03qfixed.calls k hg0 A432q hS429q) (fun e435q W434q hp436q => ?_)
          obtain ⟨rfl, hS439q⟩ := hp436q
          refine ⟨_, rfl, fun a437q h438q => ?_⟩
          clear h431q a430q
          refine WL.block (c := 1) (m' := 2) h438q rfl [(27, .bool r433q)] (by kernel_rfl) (fun a440q h441q => ?_)
          clear h438q a437q
          by_cases c442q : r433q = true
          · rw [if_pos c442q] at H
            have hb_ : r433q = true := c442q
            try rw [hb_] at h441q
            clear hb_
            refine WL.op' (m := 2) h441q rfl rfl (owp_run h441q rfl (by kernel_rfl) (v := .int .i64 r422q) (by kernel_rfl) (fun a443q h444q => ?_))
            clear h441q a440q
            refine WL.op' (m := 3) h444q rfl rfl (owp_run h444q rfl (by kernel_rfl) (v := .bool (decide (r422q = 3))) (by kernel_rfl) (fun a445q h446q => ?_))
            clear h444q a443q
            refine WL.op' (m := 4) h446q rfl rfl (owp_run h446q rfl (by kernel_rfl) (v := .bool (decide (r422q = 3))) (by kernel_rfl) (fun a447q h448q => ?_))
            clear h446q a445q
            by_cases c449q : r422q = 3
            · rw [if_pos c449q] at H
              have hb_ : (decide (r422q = 3)) = true := decide_eq_true c449q
              try rw [hb_] at h448q
              clear hb_
              refine WL.op' (m := 5) h448q rfl rfl (owp_run h448q rfl (by kernel_rfl) (v := .string (mkS r421q)) (by kernel_rfl) (fun a450q h451q => ?_))
              clear h448q a447q
              refine WL.op' (m := 6) h451q rfl rfl ?_
              refine owp_run (v := .bool (decide (r421q = ([] : List UInt8)))) h451q rfl (by kernel_rfl) (run_streq rfl rfl rfl) (fun a452q h453q => ?_)
              clear h451q a450q
              refine WL.op' (m := 7) h453q rfl rfl (owp_run h453q rfl (by kernel_rfl) (v := .bool (decide (r421q = ([] : List UInt8)))) (by kernel_rfl) (fun a454q h455q => ?_))
              clear h453q a452q
              refine WL.op' (m := 8) h455q rfl rfl (owp_run h455q rfl (by kernel_rfl) (v := .bool (decide (r421q = ([] : List UInt8)))) (by kernel_rfl) (fun a456q h457q => ?_))
              clear h455q a454q
              by_cases c458q : r421q = ([] : List UInt8)
              · rw [if_pos c458q] at H
                have hb_ : (decide (r421q = ([] : List UInt8))) = true := decide_eq_true c458q
                try rw [hb_] at h457q
                clear hb_
                refine WL.skipped (m := 9) h457q rfl rfl (by kernel_rfl) rfl (fun a459q h460q => ?_)
                clear h457q a456q
                refine WL.skipped (m := 10) h460q rfl rfl (by kernel_rfl) rfl (fun a461q h462q => ?_)
                clear h460q a459q
                refine WL.skipped (m := 11) h462q rfl rfl (by kernel_rfl) rfl (fun a463q h464q => ?_)
                clear h462q a461q
                refine WL.skipped (m := 12) h464q rfl rfl (by kernel_rfl) rfl (fun a465q h466q => ?_)
                clear h464q a463q
                refine WL.skipped (m := 13) h466q rfl rfl (by kernel_rfl) rfl (fun a467q h468q => ?_)
                clear h466q a465q
                refine WL.skipped (m := 14) h468q rfl rfl (by kernel_rfl) rfl (fun a469q h470q => ?_)
                clear h468q a467q
                refine WL.skipped (m := 15) h470q rfl rfl (by kernel_rfl) rfl (fun a471q h472q => ?_)
                clear h470q a469q
                refine WL.skipped (m := 16) h472q rfl rfl (by kernel_rfl) rfl (fun a473q h474q => ?_)
                clear h472q a471q
                refine WL.skipped (m := 17) h474q rfl rfl (by kernel_rfl) rfl (fun a475q h476q => ?_)
                clear h474q a473q
                refine WL.skipped (m := 18) h476q rfl rfl (by kernel_rfl) rfl (fun a477q h478q => ?_)
                clear h476q a475q
                refine WL.skipped (m := 19) h478q rfl rfl (by kernel_rfl) rfl (fun a479q h480q => ?_)
                clear h478q a477q
                refine WL.skipped (m := 20) h480q rfl rfl (by kernel_rfl) rfl (fun a481q h482q => ?_)
                clear h480q a479q
                refine WL.skipped (m := 21) h482q rfl rfl (by kernel_rfl) rfl (fun a483q h484q => ?_)
                clear h482q a481q
                refine WL.skipped (m := 22) h484q rfl rfl (by kernel_rfl) rfl (fun a485q h486q => ?_)
                clear h484q a483q
                refine WL.skipped (m := 23) h486q rfl rfl (by kernel_rfl) rfl (fun a487q h488q => ?_)
                clear h486q a485q
                refine WL.skipped (m := 24) h488q rfl rfl (by kernel_rfl) rfl (fun a489q h490q => ?_)
                clear h488q a487q
                refine WL.skipped (m := 25) h490q rfl rfl (by kernel_rfl) rfl (fun a491q h492q => ?_)
                clear h490q a489q
                refine WL.op' (m := 26) h492q rfl rfl (owp_run h492q rfl (by kernel_rfl) (v := .bool true) (by kernel_rfl) (fun a493q h494q => ?_))
                clear h492q a491q
                refine WL.block (c := 2) (m' := 29) h494q rfl [(4, .bool true), (53, .bool true)] (by kernel_rfl) (fun a495q h496q => ?_)
                clear h494q a493q
                refine WL.done (by kernel_rfl) ?_
                refine wp_ret ?_
                have hS497q : St b w0 W434q R (Fs) := hS439q.drop_
                obtain rfl := Option.some.inj H
                repeat (first | refine then_ret ?_ | refine inBlock_ret ?_ | refine inBlock_go ?_)
                refine body_ret (v := .bool true) h496q (by kernel_rfl) (by kernel_rfl) ?_
                exact ⟨rfl, hS497q⟩
              · rw [if_neg c458q] at H
                have hb_ : (decide (r421q = ([] : List UInt8))) = false := decide_eq_false c458q
                try rw [hb_] at h457q
                clear hb_
                refine WL.op' (m := 9) h457q rfl rfl (owp_run h457q rfl (by kernel_rfl) (v := .int .i64 r422q) (by kernel_rfl) (fun a498q h499q => ?_))
                clear h457q a456q
                refine WL.op' (m := 10) h499q rfl rfl (owp_run h499q rfl (by kernel_rfl) (v := .bool (decide (r422q = 0))) (by kernel_rfl) (fun a500q h501q => ?_))
                clear h499q a498q
                refine WL.op' (m := 11) h501q rfl rfl (owp_run h501q rfl (by kernel_rfl) (v := .bool (decide (r422q = 0))) (by kernel_rfl) (fun a502q h503q => ?_))
                clear h501q a500q
                by_cases c504q : r422q = 0
                · rw [if_pos c504q] at H
                  have hb_ : (decide (r422q = 0)) = true := decide_eq_true c504q
                  try rw [hb_] at h503q
                  clear hb_
                  refine WL.op' (m := 12) h503q rfl rfl (owp_run h503q rfl (by kernel_rfl) (v := .string (mkS r421q)) (by kernel_rfl) (fun a505q h506q => ?_))
                  clear h503q a502q
                  refine WL.op' (m := 13) h506q rfl rfl (owp_run h506q rfl (by kernel_rfl) (v := .int .i64 (r421q.length : Int)) (by kernel_rfl) (fun a507q h508q => ?_))
                  clear h506q a505q
                  refine WL.op' (m := 14) h508q rfl rfl (owp_run h508q rfl (by kernel_rfl) (v := .string (mkS p0)) (by kernel_rfl) (fun a509q h510q => ?_))
                  clear h508q a507q
                  refine WL.op' (m := 15) h510q rfl rfl (owp_run h510q rfl (by kernel_rfl) (v := .int .i64 (p0.length : Int)) (by kernel_rfl) (fun a511q h512q => ?_))
                  clear h510q a509q
                  refine WL.op' (m := 16) h512q rfl rfl (owp_run h512q rfl (by kernel_rfl) (v := .bool (decide ((r421q.length : Int) ≤ (p0.length : Int)))) (by kernel_rfl) (fun a513q h514q => ?_))
                  clear h512q a511q
                  refine WL.op' (m := 17) h514q rfl rfl (owp_run h514q rfl (by kernel_rfl) (v := .bool (decide ((r421q.length : Int) ≤ (p0.length : Int)))) (by kernel_rfl) (fun a515q h516q => ?_))
                  clear h514q a513q
                  refine WL.op' (m := 18) h516q rfl rfl (owp_run h516q rfl (by kernel_rfl) (v := .bool (decide ((r421q.length : Int) ≤ (p0.length : Int)))) (by kernel_rfl) (fun a517q h518q => ?_))
                  clear h516q a515q
                  by_cases c519q : (r421q.length : Int) ≤ (p0.length : Int)
                  · rw [if_pos c519q] at H
                    have hb_ : (decide ((r421q.length : Int) ≤ (p0.length : Int))) = true := decide_eq_true c519q
                    try rw [hb_] at h518q
                    clear hb_
                    refine WL.op' (m := 19) h518q rfl rfl (owp_run h518q rfl (by kernel_rfl) (v := .string (mkS p0)) (by kernel_rfl) (fun a520q h521q => ?_))
                    clear h518q a517q
                    refine WL.op' (m := 20) h521q rfl rfl (owp_run h521q rfl (by kernel_rfl) (v := .string (mkS r421q)) (by kernel_rfl) (fun a522q h523q => ?_))
                    clear h521q a520q
                    refine WL.op' (m := 21) h523q rfl rfl (owp_run h523q rfl (by kernel_rfl) (v := .int .i64 (r421q.length : Int)) (by kernel_rfl) (fun a524q h525q => ?_))
                    clear h523q a522q
                    by_cases c526q : 0 ≤ (r421q.length : Int)
                    · rw [if_pos c526q] at H
                      refine WL.op' (m := 22) h525q rfl rfl ?_
                      refine owp_run (v := .string (mkS (p0.take (r421q.length : Int).toNat))) h525q rfl (by kernel_rfl) (run_strcut' (l := 0) (h := (r421q.length : Int)) rfl rfl Tryd.underlying9 rfl ⟨_, rfl⟩ (by first | assumption | omega) (by first | assumption | omega) (by first | assumption | omega) (by simp)) (fun a527q h528q => ?_)
                      clear h525q a524q
                      refine WL.op' (m := 23) h528q rfl rfl (owp_run h528q rfl (by kernel_rfl) (v := .string (mkS r421q)) (by kernel_rfl) (fun a529q h530q => ?_))
                      clear h528q a527q
                      refine WL.op' (m := 24) h530q rfl rfl ?_
                      refine owp_run (v := .bool (decide ((p0.take (r421q.length : Int).toNat) = r421q))) h530q rfl (by kernel_rfl) (run_streq rfl rfl rfl) (fun a531q h532q => ?_)
                      clear h530q a529q
                      refine WL.op' (m := 25) h532q rfl rfl (owp_run h532q rfl (by kernel_rfl) (v := .bool (decide ((p0.take (r421q.length : Int).toNat) = r421q))) (by kernel_rfl) (fun a533q h534q => ?_))
                      clear h532q a531q
                      refine WL.op' (m := 26) h534q rfl rfl (owp_run h534q rfl (by kernel_rfl) (v := .bool (decide ((p0.take (r421q.length : Int).toNat) = r421q))) (by kernel_rfl) (fun a535q h536q => ?_))
                      clear h534q a533q
                      refine WL.block (c := 2) (m' := 29) h536q rfl [(4, .bool (decide ((p0.take (r421q.length : Int).toNat) = r421q))), (53, .bool (decide ((p0.take (r421q.length : Int).toNat) = r421q)))] (by kernel_rfl) (fun a537q h538q => ?_)
                      clear h536q a535q
                      refine WL.done (by kernel_rfl) ?_
                      refine wp_ret ?_
                      have hS539q : St b w0 W434q R (Fs) := hS439q.drop_
                      obtain rfl := Option.some.inj H
                      repeat (first | refine then_ret ?_ | refine inBlock_ret ?_ | refine inBlock_go ?_)
                      refine body_ret (v := .bool (decide ((p0.take (r421q.length : Int).toNat) = r421q))) h538q (by kernel_rfl) (by kernel_rfl) ?_
                      exact ⟨rfl, hS539q⟩
                    · rw [if_neg c526q] at H
                      cases H
                  · rw [if_neg c519q] at H
                    have hb_ : (decide ((r421q.length : Int) ≤ (p0.length : Int))) = false := decide_eq_false c519q
                    try rw [hb_] at h518q
                    clear hb_
                    refine WL.skipped (m := 19) h518q rfl rfl (by kernel_rfl) rfl (fun a540q h541q => ?_)
                    clear h518q a517q
                    refine WL.skipped (m := 20) h541q rfl rfl (by kernel_rfl) rfl (fun a542q h543q => ?_)
                    clear h541q a540q
                    refine WL.skipped (m := 21) h543q rfl rfl (by kernel_rfl) rfl (fun a544q h545q => ?_)
                    clear h543q a542q
                    refine WL.skipped (m := 22) h545q rfl rfl (by kernel_rfl) rfl (fun a546q h547q => ?_)
                    clear h545q a544q
                    refine WL.skipped (m := 23) h547q rfl rfl (by kernel_rfl) rfl (fun a548q h549q => ?_)
                    clear h547q a546q
                    refine WL.skipped (m := 24) h549q rfl rfl (by kernel_rfl) rfl (fun a550q h551q => ?_)
                    clear h549q a548q
                    refine WL.op' (m := 25) h551q rfl rfl (owp_run h551q rfl (by kernel_rfl) (v := .bool false) (by kernel_rfl) (fun a552q h553q => ?_))
                    clear h551q a550q
                    refine WL.op' (m := 26) h553q rfl rfl (owp_run h553q rfl (by kernel_rfl) (v := .bool false) (by kernel_rfl) (fun a554q h555q => ?_))
                    clear h553q a552q
                    refine WL.block (c := 2) (m' := 29) h555q rfl [(4, .bool false), (53, .bool false)] (by kernel_rfl) (fun a556q h557q => ?_)
                    clear h555q a554q
                    refine WL.done (by kernel_rfl) ?_
                    refine wp_ret ?_
                    have hS558q : St b w0 W434q R (Fs) := hS439q.drop_
                    obtain rfl := Option.some.inj H
                    repeat (first | refine then_ret ?_ | refine inBlock_ret ?_ | refine inBlock_go ?_)
                    refine body_ret (v := .bool false) h557q (by kernel_rfl) (by kernel_rfl) ?_
                    exact ⟨rfl, hS558q⟩
                · rw [if_neg c504q] at H
                  have hb_ : (decide (r422q = 0)) = false := decide_eq_false c504q
                  try rw [hb_] at h503q
                  clear hb_
                  refine WL.skipped (m := 12) h503q rfl rfl (by kernel_rfl) rfl (fun a559q h560q => ?_)
                  clear h503q a502q
                  refine WL.skipped (m := 13) h560q rfl rfl (by kernel_rfl) rfl (fun a561q h562q => ?_)
                  clear h560q a559q
                  refine WL.skipped (m := 14) h562q rfl rfl (by kernel_rfl) rfl (fun a563q h564q => ?_)
                  clear h562q a561q
                  refine WL.skipped (m := 15) h564q rfl rfl (by kernel_rfl) rfl (fun a565q h566q => ?_)
                  clear h564q a563q
                  refine WL.skipped (m := 16) h566q rfl rfl (by kernel_rfl) rfl (fun a567q h568q => ?_)
                  clear h566q a565q
                  refine WL.op' (m := 17) h568q rfl rfl (owp_run h568q rfl (by kernel_rfl) (v := .bool false) (by kernel_rfl) (fun a569q h570q => ?_))
                  clear h568q a567q
                  refine WL.op' (m := 18) h570q rfl rfl (owp_run h570q rfl (by kernel_rfl) (v := .bool false) (by kernel_rfl) (fun a571q h572q => ?_))
                  clear h570q a569q
                  refine WL.skipped (m := 19) h572q rfl rfl (by kernel_rfl) rfl (fun a573q h574q => ?_)
                  clear h572q a571q
                  refine WL.skipped (m := 20) h574q rfl rfl (by kernel_rfl) rfl (fun a575q h576q => ?_)
                  clear h574q a573q
                  refine WL.skipped (m := 21) h576q rfl rfl (by kernel_rfl) rfl (fun a577q h578q => ?_)
                  clear h576q a575q
                  refine WL.skipped (m := 22) h578q rfl rfl (by kernel_rfl) rfl (fun a579q h580q => ?_)
                  clear h578q a577q
                  refine WL.skipped (m := 23) h580q rfl rfl (by kernel_rfl) rfl (fun a581q h582q => ?_)
                  clear h580q a579q
                  refine WL.skipped (m := 24) h582q rfl rfl (by kernel_rfl) rfl (fun a583q h584q => ?_)
                  clear h582q a581q
                  refine WL.op' (m := 25) h584q rfl rfl (owp_run h584q rfl (by kernel_rfl) (v := .bool false) (by kernel_rfl) (fun a585q h586q => ?_))
                  clear h584q a583q
                  refine WL.op' (m := 26) h586q rfl rfl (owp_run h586q rfl (by kernel_rfl) (v := .bool false) (by kernel_rfl) (fun a587q h588q => ?_))
                  clear h586q a585q
                  refine WL.block (c := 2) (m' := 29) h588q rfl [(4, .bool false), (53, .bool false)] (by kernel_rfl) (fun a589q h590q => ?_)
                  clear h588q a587q
                  refine WL.done (by kernel_rfl) ?_
                  refine wp_ret ?_
                  have hS591q : St b w0 W434q R (Fs) := hS439q.drop_
                  obtain rfl := Option.some.inj H
                  repeat (first | refine then_ret ?_ | refine inBlock_ret ?_ | refine inBlock_go ?_)
                  refine body_ret (v := .bool false) h590q (by kernel_rfl) (by kernel_rfl) ?_
                  exact ⟨rfl, hS591q⟩
            · rw [if_neg c449q] at H
              have hb_ : (decide (r422q = 3)) = false := decide_eq_false c449q
              try rw [hb_] at h448q
              clear hb_
              refine WL.skipped (m := 5) h448q rfl rfl (by kernel_rfl) rfl (fun a592q h593q => ?_)
              clear h448q a447q
              refine WL.skipped (m := 6) h593q rfl rfl (by kernel_rfl) rfl (fun a594q h595q => ?_)
              clear h593q a592q
              refine WL.op' (m := 7) h595q rfl rfl (owp_run h595q rfl (by kernel_rfl) (v := .bool false) (by kernel_rfl) (fun a596q h597q => ?_))
              clear h595q a594q
              refine WL.op' (m := 8) h597q rfl rfl (owp_run h597q rfl (by kernel_rfl) (v := .bool false) (by kernel_rfl) (fun a598q h599q => ?_))
              clear h597q a596q
              refine WL.op' (m := 9) h599q rfl rfl (owp_run h599q rfl (by kernel_rfl) (v := .int .i64 r422q) (by kernel_rfl) (fun a600q h601q => ?_))
              clear h599q a598q
              refine WL.op' (m := 10) h601q rfl rfl (owp_run h601q rfl (by kernel_rfl) (v := .bool (decide (r422q = 0))) (by kernel_rfl) (fun a602q h603q => ?_))
              clear h601q a600q
              refine WL.op' (m := 11) h603q rfl rfl (owp_run h603q rfl (by kernel_rfl) (v := .bool (decide (r422q = 0))) (by kernel_rfl) (fun a604q h605q => ?_))
              clear h603q a602q
              by_cases c606q : r422q = 0
              · rw [if_pos c606q] at H
                have hb_ : (decide (r422q = 0)) = true := decide_eq_true c606q
                try rw [hb_] at h605q
                clear hb_
                refine WL.op' (m := 12) h605q rfl rfl (owp_run h605q rfl (by kernel_rfl) (v := .string (mkS r421q)) (by kernel_rfl) (fun a607q h608q => ?_))
                clear h605q a604q
                refine WL.op' (m := 13) h608q rfl rfl (owp_run h608q rfl (by kernel_rfl) (v := .int .i64 (r421q.length : Int)) (by kernel_rfl) (fun a609q h610q => ?_))
                clear h608q a607q
                refine WL.op' (m := 14) h610q rfl rfl (owp_run h610q rfl (by kernel_rfl) (v := .string (mkS p0)) (by kernel_rfl) (fun a611q h612q => ?_))
                clear h610q a609q
                refine WL.op' (m := 15) h612q rfl rfl (owp_run h612q rfl (by kernel_rfl) (v := .int .i64 (p0.length : Int)) (by kernel_rfl) (fun a613q h614q => ?_))
                clear h612q a611q
                refine WL.op' (m := 16) h614q rfl rfl (owp_run h614q rfl (by kernel_rfl) (v := .bool (decide ((r421q.length : Int) ≤ (p0.length : Int)))) (by kernel_rfl) (fun a615q h616q => ?_))
                clear h614q a613q
                refine WL.op' (m := 17) h616q rfl rfl (owp_run h616q rfl (by kernel_rfl) (v := .bool (decide ((r421q.length : Int) ≤ (p0.length : Int)))) (by kernel_rfl) (fun a617q h618q => ?_))
                clear h616q a615q
                refine WL.op' (m := 18) h618q rfl rfl (owp_run h618q rfl (by kernel_rfl) (v := .bool (decide ((r421q.length : Int) ≤ (p0.length : Int)))) (by kernel_rfl) (fun a619q h620q => ?_))
                clear h618q a617q
                by_cases c621q : (r421q.length : Int) ≤ (p0.length : Int)
                · rw [if_pos c621q] at H
                  have hb_ : (decide ((r421q.length : Int) ≤ (p0.length : Int))) = true := decide_eq_true c621q
                  try rw [hb_] at h620q
                  clear hb_
                  refine WL.op' (m := 19) h620q rfl rfl (owp_run h620q rfl (by kernel_rfl) (v := .string (mkS p0)) (by kernel_rfl) (fun a622q h623q => ?_))
                  clear h620q a619q
                  refine WL.op' (m := 20) h623q rfl rfl (owp_run h623q rfl (by kernel_rfl) (v := .string (mkS r421q)) (by kernel_rfl) (fun a624q h625q => ?_))
                  clear h623q a622q
                  refine WL.op' (m := 21) h625q rfl rfl (owp_run h625q rfl (by kernel_rfl) (v := .int .i64 (r421q.length : Int)) (by kernel_rfl) (fun a626q h627q => ?_))
                  clear h625q a624q
                  by_cases c628q : 0 ≤ (r421q.length : Int)
                  · rw [if_pos c628q] at H
                    refine WL.op' (m := 22) h627q rfl rfl ?_
                    refine owp_run (v := .string (mkS (p0.take (r421q.length : Int).toNat))) h627q rfl (by kernel_rfl) (run_strcut' (l := 0) (h := (r421q.length : Int)) rfl rfl Tryd.underlying9 rfl ⟨_, rfl⟩ (by first | assumption | omega) (by first | assumption | omega) (by first | assumption | omega) (by simp)) (fun a629q h630q => ?_)
                    clear h627q a626q
                    refine WL.op' (m := 23) h630q rfl rfl (owp_run h630q rfl (by kernel_rfl) (v := .string (mkS r421q)) (by kernel_rfl) (fun a631q h632q => ?_))
                    clear h630q a629q
                    refine WL.op' (m := 24) h632q rfl rfl ?_
                    refine owp_run (v := .bool (decide ((p0.take (r421q.length : Int).toNat) = r421q))) h632q rfl (by kernel_rfl) (run_streq rfl rfl rfl) (fun a633q h634q => ?_)
                    clear h632q a631q
                    refine WL.op' (m := 25) h634q rfl rfl (owp_run h634q rfl (by kernel_rfl) (v := .bool (decide ((p0.take (r421q.length : Int).toNat) = r421q))) (by kernel_rfl) (fun a635q h636q => ?_))
                    clear h634q a633q
                    refine WL.op' (m := 26) h636q rfl rfl (owp_run h636q rfl (by kernel_rfl) (v := .bool (decide ((p0.take (r421q.length : Int).toNat) = r421q))) (by kernel_rfl) (fun a637q h638q => ?_))
                    clear h636q a635q
                    refine WL.block (c := 2) (m' := 29) h638q rfl [(4, .bool (decide ((p0.take (r421q.length : Int).toNat) = r421q))), (53, .bool (decide ((p0.take (r421q.length : Int).toNat) = r421q)))] (by kernel_rfl) (fun a639q h640q => ?_)
                    clear h638q a637q
                    refine WL.done (by kernel_rfl) ?_
                    refine wp_ret ?_
                    have hS641q : St b w0 W434q R (Fs) := hS439q.drop_
                    obtain rfl := Option.some.inj H
                    repeat (first | refine then_ret ?_ | refine inBlock_ret ?_ | refine inBlock_go ?_)
                    refine body_ret (v := .bool (decide ((p0.take (r421q.length : Int).toNat) = r421q))) h640q (by kernel_rfl) (by kernel_rfl) ?_
                    exact ⟨rfl, hS641q⟩
                  · rw [if_neg c628q] at H
                    cases H
                · rw [if_neg c621q] at H
                  have hb_ : (decide ((r421q.length : Int) ≤ (p0.length : Int))) = false := decide_eq_false c621q
                  try rw [hb_] at h620q
                  clear hb_
                  refine WL.skipped (m := 19) h620q rfl rfl (by kernel_rfl) rfl (fun a642q h643q => ?_)
                  clear h620q a619q
                  refine WL.skipped (m := 20) h643q rfl rfl (by kernel_rfl) rfl (fun a644q h645q => ?_)
                  clear h643q a642q
                  refine WL.skipped (m := 21) h645q rfl rfl (by kernel_rfl) rfl (fun a646q h647q => ?_)
                  clear h645q a644q
                  refine WL.skipped (m := 22) h647q rfl rfl (by kernel_rfl) rfl (fun a648q h649q => ?_)
                  clear h647q a646q
                  refine WL.skipped (m := 23) h649q rfl rfl (by kernel_rfl) rfl (fun a650q h651q => ?_)
                  clear h649q a648q
                  refine WL.skipped (m := 24) h651q rfl rfl (by kernel_rfl) rfl (fun a652q h653q => ?_)
                  clear h651q a650q
                  refine WL.op' (m := 25) h653q rfl rfl (owp_run h653q rfl (by kernel_rfl) (v := .bool false) (by kernel_rfl) (fun a654q h655q => ?_))
                  clear h653q a652q
                  refine WL.op' (m := 26) h655q rfl rfl (owp_run h655q rfl (by kernel_rfl) (v := .bool false) (by kernel_rfl) (fun a656q h657q => ?_))
                  clear h655q a654q
                  refine WL.block (c := 2) (m' := 29) h657q rfl [(4, .bool false), (53, .bool false)] (by kernel_rfl) (fun a658q h659q => ?_)
                  clear h657q a656q
                  refine WL.done (by kernel_rfl) ?_
                  refine wp_ret ?_
                  have hS660q : St b w0 W434q R (Fs) := hS439q.drop_
                  obtain rfl := Option.some.inj H
                  repeat (first | refine then_ret ?_ | refine inBlock_ret ?_ | refine inBlock_go ?_)
                  refine body_ret (v := .bool false) h659q (by kernel_rfl) (by kernel_rfl) ?_
                  exact ⟨rfl, hS660q⟩
              · rw [if_neg c606q] at H
                have hb_ : (decide (r422q = 0)) = false := decide_eq_false c606q
                try rw [hb_] at h605q
                clear hb_
                refine WL.skipped (m := 12) h605q rfl rfl (by kernel_rfl) rfl (fun a661q h662q => ?_)
                clear h605q a604q
                refine WL.skipped (m := 13) h662q rfl rfl (by kernel_rfl) rfl (fun a663q h664q => ?_)
                clear h662q a661q
                refine WL.skipped (m := 14) h664q rfl rfl (by kernel_rfl) rfl (fun a665q h666q => ?_)
                clear h664q a663q
                refine WL.skipped (m := 15) h666q rfl rfl (by kernel_rfl) rfl (fun a667q h668q => ?_)
                clear h666q a665q
                refine WL.skipped (m := 16) h668q rfl rfl (by kernel_rfl) rfl (fun a669q h670q => ?_)
                clear h668q a667q
                refine WL.op' (m := 17) h670q rfl rfl (owp_run h670q rfl (by kernel_rfl) (v := .bool false) (by kernel_rfl) (fun a671q h672q => ?_))
                clear h670q a669q
                refine WL.op' (m := 18) h672q rfl rfl (owp_run h672q rfl (by kernel_rfl) (v := .bool false) (by kernel_rfl) (fun a673q h674q => ?_))
                clear h672q a671q
                refine WL.skipped (m := 19) h674q rfl rfl (by kernel_rfl) rfl (fun a675q h676q => ?_)
                clear h674q a673q
                refine WL.skipped (m := 20) h676q rfl rfl (by kernel_rfl) rfl (fun a677q h678q => ?_)
                clear h676q a675q
                refine WL.skipped (m := 21) h678q rfl rfl (by kernel_rfl) rfl (fun a679q h680q => ?_)
                clear h678q a677q
                refine WL.skipped (m := 22) h680q rfl rfl (by kernel_rfl) rfl (fun a681q h682q => ?_)
                clear h680q a679q
                refine WL.skipped (m := 23) h682q rfl rfl (by kernel_rfl) rfl (fun a683q h684q => ?_)
                clear h682q a681q
                refine WL.skipped (m := 24) h684q rfl rfl (by kernel_rfl) rfl (fun a685q h686q => ?_)
                clear h684q a683q
                refine WL.op' (m := 25) h686q rfl rfl (owp_run h686q rfl (by kernel_rfl) (v := .bool false) (by kernel_rfl) (fun a687q h688q => ?_))
                clear h686q a685q
                refine WL.op' (m := 26) h688q rfl rfl (owp_run h688q rfl (by kernel_rfl) (v := .bool false) (by kernel_rfl) (fun a689q h690q => ?_))
                clear h688q a687q
                refine WL.block (c := 2) (m' := 29) h690q rfl [(4, .bool false), (53, .bool false)] (by kernel_rfl) (fun a691q h692q => ?_)
                clear h690q a689q
                refine WL.done (by kernel_rfl) ?_
                refine wp_ret ?_
                have hS693q : St b w0 W434q R (Fs) := hS439q.drop_
                obtain rfl := Option.some.inj H
                repeat (first | refine then_ret ?_ | refine inBlock_ret ?_ | refine inBlock_go ?_)
                refine body_ret (v := .bool false) h692q (by kernel_rfl) (by kernel_rfl) ?_
                exact ⟨rfl, hS693q⟩
          · rw [if_neg c442q] at H
            have hb_ : r433q = false := (Bool.eq_false_iff.2 c442q)
            try rw [hb_] at h441q
            clear hb_
            refine WL.skipped (m := 2) h441q rfl rfl (by kernel_rfl) rfl (fun a694q h695q => ?_)
            clear h441q a440q
            refine WL.skipped (m := 3) h695q rfl rfl (by kernel_rfl) rfl (fun a696q h697q => ?_)
            clear h695q a694q
            refine WL.skipped (m := 4) h697q rfl rfl (by kernel_rfl) rfl (fun a698q h699q => ?_)
            clear h697q a696q
            refine WL.skipped (m := 5) h699q rfl rfl (by kernel_rfl) rfl (fun a700q h701q => ?_)
            clear h699q a698q
            refine WL.skipped (m := 6) h701q rfl rfl (by kernel_rfl) rfl (fun a702q h703q => ?_)
            clear h701q a700q
            refine WL.skipped (m := 7) h703q rfl rfl (by kernel_rfl) rfl (fun a704q h705q => ?_)
            clear h703q a702q
            refine WL.skipped (m := 8) h705q rfl rfl (by kernel_rfl) rfl (fun a706q h707q => ?_)
            clear h705q a704q
            refine WL.skipped (m := 9) h707q rfl rfl (by kernel_rfl) rfl (fun a708q h709q => ?_)
            clear h707q a706q
            refine WL.skipped (m := 10) h709q rfl rfl (by kernel_rfl) rfl (fun a710q h711q => ?_)
            clear h709q a708q
            refine WL.skipped (m := 11) h711q rfl rfl (by kernel_rfl) rfl (fun a712q h713q => ?_)
            clear h711q a710q
            refine WL.skipped (m := 12) h713q rfl rfl (by kernel_rfl) rfl (fun a714q h715q => ?_)
            clear h713q a712q
            refine WL.skipped (m := 13) h715q rfl rfl (by kernel_rfl) rfl (fun a716q h717q => ?_)
            clear h715q a714q
            refine WL.skipped (m := 14) h717q rfl rfl (by kernel_rfl) rfl (fun a718q h719q => ?_)
            clear h717q a716q
            refine WL.skipped (m := 15) h719q rfl rfl (by kernel_rfl) rfl (fun a720q h721q => ?_)
            clear h719q a718q
            refine WL.skipped (m := 16) h721q rfl rfl (by kernel_rfl) rfl (fun a722q h723q => ?_)
            clear h721q a720q
            refine WL.skipped (m := 17) h723q rfl rfl (by kernel_rfl) rfl (fun a724q h725q => ?_)
            clear h723q a722q
            refine WL.skipped (m := 18) h725q rfl rfl (by kernel_rfl) rfl (fun a726q h727q => ?_)
            clear h725q a724q
            refine WL.skipped (m := 19) h727q rfl rfl (by kernel_rfl) rfl (fun a728q h729q => ?_)
            clear h727q a726q
            refine WL.skipped (m := 20) h729q rfl rfl (by kernel_rfl) rfl (fun a730q h731q => ?_)
            clear h729q a728q
            refine WL.skipped (m := 21) h731q rfl rfl (by kernel_rfl) rfl (fun a732q h733q => ?_)
            clear h731q a730q
            refine WL.skipped (m := 22) h733q rfl rfl (by kernel_rfl) rfl (fun a734q h735q => ?_)
            clear h733q a732q
            refine WL.skipped (m := 23) h735q rfl rfl (by kernel_rfl) rfl (fun a736q h737q => ?_)
            clear h735q a734q
            refine WL.skipped (m := 24) h737q rfl rfl (by kernel_rfl) rfl (fun a738q h739q => ?_)
            clear h737q a736q
            refine WL.skipped (m := 25) h739q rfl rfl (by kernel_rfl) rfl (fun a740q h741q => ?_)
            clear h739q a738q
            refine WL.skipped (m := 26) h741q rfl rfl (by kernel_rfl) rfl (fun a742q h743q => ?_)
            clear h741q a740q
            refine WL.block (c := 2) (m' := 29) h743q rfl [(4, .bool false), (53, .bool false)] (by kernel_rfl) (fun a744q h745q => ?_)
            clear h743q a742q
            refine WL.done (by kernel_rfl) ?_
            refine wp_ret ?_
            have hS746q : St b w0 W434q R (Fs) := hS439q.drop_
            obtain rfl := Option.some.inj H
            repeat (first | refine then_ret ?_ | refine inBlock_ret ?_ | refine inBlock_go ?_)
            refine body_ret (v := .bool false) h745q (by kernel_rfl) (by kernel_rfl) ?_
            exact ⟨rfl, hS746q⟩
        · rw [if_neg c412q] at H
          cases H
      · rw [if_neg c411q] at H
        cases H
    · rw [if_neg c408q] at H
      cases H
end Go.Proofs.YtedfgicbignbmaaDoor.Sl
