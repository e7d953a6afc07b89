/- What the functions of this program compute, told as plain functions, and that the calls come to just that. Printed by this session's program; part 1. -/
import Derived.Test.YtedfgicbignbmaaDoorProg
import Derived.Test.YtedfgicbignbmaaDoorSlV
set_option linter.unusedVariables false
set_option linter.unusedSimpArgs false
set_option linter.unnecessarySimpa false
namespace Go.Proofs.YtedfgicbignbmaaDoor.Sl
open Go Go.RowKit Go.Proofs.Sl
def G0 : List Int := [13, 23, 28, 28, 28, 28, 28, 28, 28, 24, 30, 28, 28, 30, 28, 28, 28, 28, 28, 28, 28, 28, 30, 28, 28, 28, 28, 28, 28, 28, 28, 28, 6, 10, 10, 12, 13, 6, 8, 11, 10, 10, 8, 11, 8, 6, 6, 6, 5, 5, 5, 6, 6, 6, 6, 6, 6, 6, 7, 8, 15, 6, 12, 10, 13, 6, 7, 7, 7, 7, 7, 7, 7, 7, 7, 7, 7, 7, 7, 7, 7, 7, 7, 7, 7, 7, 7, 7, 8, 7, 8, 13, 19, 13, 14, 6, 15, 5, 6, 5, 6, 5, 6, 6, 6, 5, 7, 7, 6, 6, 6, 5, 6, 7, 6, 5, 5, 6, 7, 7, 7, 7, 7, 15, 11, 14, 13, 28, 20, 22, 20, 20, 22, 22, 22, 23, 22, 23, 23, 23, 23, 23, 24, 23, 24, 24, 22, 23, 24, 23, 23, 23, 23, 21, 22, 23, 22, 23, 23, 24, 22, 21, 20, 22, 22, 23, 23, 21, 23, 22, 22, 24, 21, 22, 23, 23, 21, 21, 22, 21, 23, 22, 23, 23, 20, 22, 22, 22, 23, 22, 22, 23, 26, 26, 20, 19, 22, 23, 22, 25, 26, 26, 26, 27, 27, 26, 24, 25, 19, 21, 26, 27, 27, 26, 27, 24, 21, 21, 26, 26, 28, 27, 27, 27, 20, 24, 20, 21, 22, 21, 21, 23, 22, 22, 25, 25, 24, 24, 26, 23, 26, 27, 26, 26, 27, 27, 27, 27, 27, 28, 27, 27, 27, 27, 27, 26, 30]
theorem G0qlen : G0.length = 257 := by kernel_rfl
abbrev GC0 : List Value := G0.flatMap (fun x : Int => ([.int .u8 x] : List Value))
theorem GC0qat {b : Nat} {w0 : World} {R : Frag} (h : Rds (kInt .u8) b w0 R (.slice (some ⟨0, 0, none⟩) 257 257) G0) : ∀ j u, GC0[j]? = some u → Kn b w0 R ((⟨0, 0, none⟩ : Addr).add j) u := Rds.flat_cells (by decide) (fun h_ => h_) (fun _ => rfl) h
structure S45 where
  f0 : Int
  f1 : Int
  deriving DecidableEq
def z45 : S45 := ⟨(0 : Int), (0 : Int)⟩
def k45 : Kd S45 := kIso (kPair (kInt .u32) (kInt .u8)) (fun x : S45 => (x.f0, x.f1))
theorem k45qflat : k45.Flat := kIso_flat (kPair_flat (kInt_flat _) (kInt_flat _))
theorem k45qind : k45.Ind := kIso_ind (kPair_ind (kInt_ind _) (kInt_ind _))
theorem k45qrd {b : Nat} {w0 : World} {R : Frag} {x : S45} {cs : List Value} (h : k45.rd b w0 R x cs) : cs = [.int .u32 x.f0, .int .u8 x.f1] := by
  obtain ⟨c1q, c2q, rfl, h3q, h4q⟩ := h
  obtain rfl := h3q
  obtain rfl := h4q
  exact rfl
theorem k45qrep {b : Nat} {w0 : World} {R : Frag} {x : S45} {cs : List Value} {M : Frag} (h : k45.rep b w0 R x cs M) : cs = [.int .u32 x.f0, .int .u8 x.f1] ∧ M = [] := by
  obtain ⟨c5q, c6q, M9q, M10q, rfl, rfl, h7q, h8q⟩ := h
  obtain ⟨rfl, rfl⟩ := h7q
  obtain ⟨rfl, rfl⟩ := h8q
  exact ⟨rfl, by simp⟩
theorem k45qno {b : Nat} {w0 : World} {R : Frag} {x : S45} {cs : List Value} {M : Frag} (h : k45.rep b w0 R x cs M) : M = [] := by
  obtain ⟨_, hM_⟩ := k45qrep h
  exact hM_
theorem k45qmk {b : Nat} {w0 : World} {R : Frag} {x : S45}  : ∃ M, k45.rep b w0 R x [.int .u32 x.f0, .int .u8 x.f1] M ∧ M = [] := ⟨_, ⟨_, _, _, _, rfl, rfl, ⟨rfl, rfl⟩, ⟨rfl, rfl⟩⟩, by simp⟩
/-! ### louver/huffman.codes -/
mutual
def huffman_codes.l0 : Nat → (List S45) → Int → Int → Option ((List S45))
  | 0, _, _, _ => none
  | k + 1, x550q, x554q, x555q => if x555q ≤ 30 then (huffman_codes.l1 k x550q (shlI .u32 x554q 1) 0 x555q) else (some x550q)
def huffman_codes.l1 : Nat → (List S45) → Int → Int → Int → Option ((List S45))
  | 0, _, _, _, _ => none
  | k + 1, x572q, x576q, x577q, x555q => if x577q < 257 then (if 0 ≤ x577q then (if x577q < (257 : Int) then (if (gt (0 : Int) G0 x577q) = x555q then (lt1 (x572q.set x577q.toNat (⟨x576q, x555q⟩ : S45) : List S45) fun y611q => (huffman_codes.l1 k y611q (IntKind.u32.wrap (x576q + 1)) (IntKind.i64.wrap (x577q + 1)) x555q)) else (huffman_codes.l1 k x572q x576q (IntKind.i64.wrap (x577q + 1)) x555q)) else (none)) else (none)) else (huffman_codes.l0 k x572q x576q (IntKind.u8.wrap (x555q + 1)))
end
def huffman_codes.f (k : Nat)  : Option ((List S45)) := huffman_codes.l0 k (List.replicate 257 z45 : List S45) 0 1
set_option maxHeartbeats 2000000 in
set_option maxRecDepth 100000 in
theorem huffman_codes.calls (k : Nat) {b : Nat} {w0 W : World} {R : Frag} {Fs : List Frag}   {r0q : (List S45)} (hg0 : Rds (kInt .u8) b w0 [] (.slice (some ⟨0, 0, none⟩) 257 257) G0) (H : huffman_codes.f k = some r0q) (hS : St b w0 W R (Fs)) :
    Calls Tryd.prog 17 ([] : List Value).toArray W (fun e W' => e = .returned (.agg (r0q.flatMap (fun x : S45 => ([.int .u32 x.f0, .int .u8 x.f1] : List Value))).toArray) ∧ r0q.length = 257 ∧ St b w0 W' R (Fs)) := by
  unfold huffman_codes.f at H
  refine calls_enter Tryd.func17 rfl 29 rfl (by kernel_rfl) (fun a h => ?_)
  refine wp_seq ?_
  refine WL.start ?_
  refine WL.op' (m := 0) h rfl rfl ?_
  refine owp_new (fun g_ => .pointer (some ⟨g_, 0, none⟩)) (.cells ((List.replicate 257 z45 : List S45).flatMap (fun x : S45 => ([.int .u32 x.f0, .int .u8 x.f1] : List Value))).toArray 46 (0, 0)) h rfl (by kernel_rfl) (by kernel_rfl) hS (fun a525q W527q g528q h526q hS529q => ?_)
  have hl531q : (List.replicate 257 z45 : List S45).length = 257 := by simp
  have hr530q : Row k45 46 b w0 R (.slice (some ⟨g528q, 0, none⟩) 257 257) (List.replicate 257 z45 : List S45) [(g528q, .cells ((List.replicate 257 z45 : List S45).flatMap (fun x : S45 => ([.int .u32 x.f0, .int .u8 x.f1] : List Value))).toArray 46 (0, 0))] := Row.arr (reps_flat (fun x_ => by obtain ⟨_, hk_, rfl⟩ := k45qmk (b := b) (w0 := w0) (R := R) (x := x_); exact hk_) _) hl531q (by decide)
  obtain ⟨M532q, hM_⟩ : ∃ y : Frag, y = [(g528q, .cells ((List.replicate 257 z45 : List S45).flatMap (fun x : S45 => ([.int .u32 x.f0, .int .u8 x.f1] : List Value))).toArray 46 (0, 0))] := ⟨_, rfl⟩
  rw [← hM_] at hr530q hS529q
  clear hM_
  refine WL.done (by kernel_rfl) ?_
  refine wp_seq ?_
  refine WL.start ?_
  refine WL.op' (m := 0) h526q rfl rfl ?_
  refine owp_new (fun g_ => .pointer (some ⟨g_, 0, none⟩)) (.cells ((List.replicate 257 z45 : List S45).flatMap (fun x : S45 => ([.int .u32 x.f0, .int .u8 x.f1] : List Value))).toArray 46 (0, 0)) h526q rfl (by kernel_rfl) (by kernel_rfl) hS529q (fun a533q W535q g536q h534q hS537q => ?_)
  clear h526q a525q
  have hl539q : (List.replicate 257 z45 : List S45).length = 257 := by simp
  have hr538q : Row k45 46 b w0 R (.slice (some ⟨g536q, 0, none⟩) 257 257) (List.replicate 257 z45 : List S45) [(g536q, .cells ((List.replicate 257 z45 : List S45).flatMap (fun x : S45 => ([.int .u32 x.f0, .int .u8 x.f1] : List Value))).toArray 46 (0, 0))] := Row.arr (reps_flat (fun x_ => by obtain ⟨_, hk_, rfl⟩ := k45qmk (b := b) (w0 := w0) (R := R) (x := x_); exact hk_) _) hl539q (by decide)
  obtain ⟨M540q, hM_⟩ : ∃ y : Frag, y = [(g536q, .cells ((List.replicate 257 z45 : List S45).flatMap (fun x : S45 => ([.int .u32 x.f0, .int .u8 x.f1] : List Value))).toArray 46 (0, 0))] := ⟨_, rfl⟩
  rw [← hM_] at hr538q hS537q
  clear hM_
  refine WL.done (by kernel_rfl) ?_
  refine wp_seq ?_
  refine WL.start ?_
  refine WL.block (c := 1) (m' := 1) h534q rfl [(2, .int .u32 0)] (by kernel_rfl) (fun a541q h542q => ?_)
  clear h534q a533q
  refine WL.done (by kernel_rfl) ?_
  refine wp_seq ?_
  refine wp_seq ?_
  refine WL.start ?_
  refine WL.block (c := 1) (m' := 1) h542q rfl [(3, .int .u8 1)] (by kernel_rfl) (fun a543q h544q => ?_)
  clear h542q a541q
  refine WL.done (by kernel_rfl) ?_
  refine wp_block ?_
  have hS556q : St b w0 W535q R (M532q :: M540q :: Fs) := hS537q.bring 1 rfl rfl
  refine wp_loop_ghost (fun kq_ a_ W_ => ∃ (x550q : (List S45)), ∃ (M551q : Frag), ∃ (x554q : Int), ∃ (x555q : Int), Hd a_ 29 [(0, .pointer (some ⟨g528q, 0, none⟩)), (1, .pointer (some ⟨g536q, 0, none⟩)), (2, .int .u32 x554q), (3, .int .u8 x555q)] ∧ Asd (huffman_codes.l0 kq_ x550q x554q x555q = some r0q) ∧ Asd (kq_ ≤ k) ∧ Asd (St b w0 W_ R (M532q :: M551q :: Fs)) ∧ Asd (Row k45 46 b w0 R (.slice (some ⟨g536q, 0, none⟩) 257 257) x550q M551q) ∧ Asd (x550q.length = 257)) k ⟨(List.replicate 257 z45 : List S45), M540q, 0, 1, h544q.keep ⟨rfl, rfl, rfl, rfl, trivial⟩, ⟨H⟩, ⟨Nat.le_refl _⟩, ⟨hS556q⟩, ⟨hr538q⟩, ⟨hl539q⟩⟩ ?_
  clear H hS556q
  rintro k549q a546q W547q ⟨x550q, M551q, x554q, x555q, h545q, ⟨H⟩, ⟨hkk549q⟩, ⟨hS548q⟩, ⟨hr552q⟩, ⟨hl553q⟩⟩
  obtain _ | k557q := k549q
  · exact absurd H (by simp [huffman_codes.l0])
  simp only [huffman_codes.l0] at H
  refine wp_seq ?_
  refine wp_seq ?_
  refine WL.start ?_
  refine WL.block (c := 2) (m' := 2) h545q rfl [(7, .bool (decide (x555q ≤ 30))), (6, .int .u8 x555q)] (by kernel_rfl) (fun a558q h559q => ?_)
  clear h545q a546q
  refine WL.done (by kernel_rfl) ?_
  by_cases c560q : x555q ≤ 30
  · rw [if_pos c560q] at H
    have hb_ : (decide (x555q ≤ 30)) = true := decide_eq_true c560q
    try rw [hb_] at h559q
    clear hb_
    refine wp_then h559q rfl ?_
    refine wp_skip ?_
    refine wp_seq ?_
    refine wp_block ?_
    refine wp_seq ?_
    refine WL.start ?_
    refine WL.block (c := 3) (m' := 3) h559q rfl [(2, .int .u32 (shlI .u32 x554q 1)), (11, .int .u32 (shlI .u32 x554q 1)), (10, .int .u32 x554q)] (by kernel_rfl) (fun a561q h562q => ?_)
    clear h559q a558q
    refine WL.done (by kernel_rfl) ?_
    refine wp_seq ?_
    refine WL.start ?_
    refine WL.op' (m := 0) h562q rfl rfl ?_
    refine owp_run (v := .agg GC0.toArray) h562q rfl (by kernel_rfl) (run_loadN rfl rfl Tryd.underlying51 rfl (cs := GC0) (by kernel_rfl) (fun _ _ hj_ => (fun _ _ hk_ => hS548q.kn hk_) _ _ ((GC0qat hg0 _ _ hj_).mono (fun _ h_ => by cases h_)))) (fun a563q h564q => ?_)
    clear h562q a561q
    refine WL.block (c := 1) (m' := 2) h564q rfl [(13, .int .i64 0)] (by kernel_rfl) (fun a565q h566q => ?_)
    clear h564q a563q
    refine WL.done (by kernel_rfl) ?_
    refine wp_block ?_
    refine wp_loop_ghost (fun kq_ a_ W_ => ∃ (x572q : (List S45)), ∃ (M573q : Frag), ∃ (x576q : Int), ∃ (x577q : Int), Hd a_ 29 [(0, .pointer (some ⟨g528q, 0, none⟩)), (1, .pointer (some ⟨g536q, 0, none⟩)), (2, .int .u32 x576q), (3, .int .u8 x555q), (12, .agg GC0.toArray), (13, .int .i64 x577q)] ∧ Asd (huffman_codes.l1 kq_ x572q x576q x577q x555q = some r0q) ∧ Asd (kq_ ≤ k557q) ∧ Asd (St b w0 W_ R (M532q :: M573q :: Fs)) ∧ Asd (Row k45 46 b w0 R (.slice (some ⟨g536q, 0, none⟩) 257 257) x572q M573q) ∧ Asd (x572q.length = 257)) k557q ⟨x550q, M551q, shlI .u32 x554q 1, 0, h566q.keep ⟨rfl, rfl, rfl, rfl, rfl, rfl, trivial⟩, ⟨H⟩, ⟨Nat.le_refl _⟩, ⟨hS548q⟩, ⟨hr552q⟩, ⟨hl553q⟩⟩ ?_
    clear H hS548q
    rintro k571q a568q W569q ⟨x572q, M573q, x576q, x577q, h567q, ⟨H⟩, ⟨hkk571q⟩, ⟨hS570q⟩, ⟨hr574q⟩, ⟨hl575q⟩⟩
    obtain _ | k578q := k571q
    · exact absurd H (by simp [huffman_codes.l1])
    simp only [huffman_codes.l1] at H
    refine wp_seq ?_
    refine WL.start ?_
    refine WL.block (c := 1) (m' := 1) h567q rfl [(14, .bool (decide (x577q < 257)))] (by kernel_rfl) (fun a579q h580q => ?_)
    clear h567q a568q
    refine WL.done (by kernel_rfl) ?_
    refine wp_seq ?_
    by_cases c581q : x577q < 257
    · rw [if_pos c581q] at H
      have hb_ : (decide (x577q < 257)) = true := decide_eq_true c581q
      try rw [hb_] at h580q
      clear hb_
      refine wp_then h580q rfl ?_
      refine wp_skip ?_
      refine wp_seq ?_
      refine wp_block ?_
      refine wp_seq ?_
      refine WL.start ?_
      refine WL.block (c := 1) (m' := 1) h580q rfl [(15, .int .i64 x577q)] (by kernel_rfl) (fun a582q h583q => ?_)
      clear h580q a579q
      by_cases c584q : 0 ≤ x577q
      · rw [if_pos c584q] at H
        by_cases c585q : x577q < (257 : Int)
        · rw [if_pos c585q] at H
          have hi586q : 0 ≤ x577q := by first | assumption | omega
          have hi588q : x577q < ((257 : Nat) : Int) := by omega
          have hi587q : x577q < (G0.length : Int) := by rw [G0qlen]; exact hi588q
          refine WL.op' (m := 1) h583q rfl rfl ?_
          refine owp_run (v := .int .u8 (gt (0 : Int) G0 x577q)) h583q rfl (by kernel_rfl) (run_index_one rfl rfl rfl Tryd.underlying51 Tryd.underlying5 rfl (by kernel_rfl) hi586q hi588q (flat_one G0 (gt_get (z := (0 : Int)) hi586q hi587q))) (fun a589q h590q => ?_)
          clear h583q a582q
          refine WL.block (c := 2) (m' := 4) h590q rfl [(5, .int .u8 (gt (0 : Int) G0 x577q)), (4, .int .i64 x577q)] (by kernel_rfl) (fun a591q h592q => ?_)
          clear h590q a589q
          refine WL.done (by kernel_rfl) ?_
          refine wp_seq ?_
          refine WL.start ?_
          refine WL.block (c := 3) (m' := 3) h592q rfl [(19, .bool (decide ((gt (0 : Int) G0 x577q) = x555q))), (18, .int .u8 x555q), (17, .int .u8 (gt (0 : Int) G0 x577q))] (by kernel_rfl) (fun a593q h594q => ?_)
          clear h592q a591q
          refine WL.done (by kernel_rfl) ?_
          by_cases c595q : (gt (0 : Int) G0 x577q) = x555q
          · rw [if_pos c595q] at H
            have hb_ : (decide ((gt (0 : Int) G0 x577q) = x555q)) = true := decide_eq_true c595q
            try rw [hb_] at h594q
            clear hb_
            refine wp_then h594q rfl ?_
            refine wp_seq ?_
            refine WL.start ?_
            refine WL.block (c := 4) (m' := 4) h594q rfl [(23, .agg #[.int .u32 x576q, .int .u8 x555q]), (22, .int .u8 x555q), (21, .int .u32 x576q), (20, .int .i64 x577q)] (by kernel_rfl) (fun a596q h597q => ?_)
            clear h594q a593q
            have hi598q : 0 ≤ x577q := by first | assumption | omega
            have hi600q : x577q < ((257 : Nat) : Int) := by omega
            have hi599q : x577q < (x572q.length : Int) := by rw [hl575q]; exact hi600q
            refine WL.op' (m := 4) h597q rfl rfl ?_
            refine owp_run (v := .pointer (some ((⟨g536q, 0, none⟩ : Addr).add (x577q.toNat * 2)))) h597q rfl (by kernel_rfl) (run_idxarr (ad := ⟨g536q, 0, none⟩) (sz := 2) rfl rfl rfl Tryd.underlying46 (by kernel_rfl) hi598q hi600q) (fun a602q h603q => ?_)
            clear h597q a596q
            have hS604q : St b w0 W569q R (M573q :: M532q :: Fs) := hS570q.bring 1 rfl rfl
            refine WL.op' (m := 5) h603q rfl rfl ?_
            refine owp_setelem (j := 0) (vs := ([.int .u32 x576q, .int .u8 x555q] : List Value)) (x' := (⟨x576q, x555q⟩ : S45)) h603q rfl (by kernel_rfl) rfl rfl rfl rfl (by simp [Value.oneCell']) (by kernel_rfl) rfl hr574q hS604q hi598q (gt_get (z := z45) hi598q hi599q) (Nat.le_refl _) (by intro cs_ Mx_ hr_; obtain ⟨rfl, rfl⟩ := k45qrep hr_; obtain ⟨_, hk_, rfl⟩ := k45qmk (b := b) (w0 := w0) (R := R) (x := (⟨x576q, x555q⟩ : S45)); exact hk_) (fun a605q W607q M608q h606q hr609q hS610q => ?_)
            clear h603q a602q
            obtain ⟨y611q, hy612q, H⟩ := lete H
            have hl613q : y611q.length = 257 := by rw [hy612q]; simpa using hl575q
            have hr614q : Row k45 46 b w0 R (.slice (some ⟨g536q, 0, none⟩) 257 257) y611q M608q := by rw [hy612q]; exact hr609q
            refine WL.done (by kernel_rfl) ?_
            refine WL.start ?_
            refine WL.block (c := 3) (m' := 3) h606q rfl [(2, .int .u32 (IntKind.u32.wrap (x576q + 1))), (26, .int .u32 (IntKind.u32.wrap (x576q + 1))), (25, .int .u32 x576q)] (by kernel_rfl) (fun a615q h616q => ?_)
            clear h606q a605q
            refine WL.done (by kernel_rfl) ?_
            refine WL.start ?_
            refine WL.block (c := 2) (m' := 2) h616q rfl [(13, .int .i64 (IntKind.i64.wrap (x577q + 1))), (27, .int .i64 (IntKind.i64.wrap (x577q + 1)))] (by kernel_rfl) (fun a617q h618q => ?_)
            clear h616q a615q
            refine WL.done (by kernel_rfl) ?_
            have hS619q : St b w0 W607q R (M532q :: M608q :: Fs) := hS610q.bring 1 rfl rfl
            exact ⟨k578q, by omega, y611q, M608q, IntKind.u32.wrap (x576q + 1), IntKind.i64.wrap (x577q + 1), h618q.keep ⟨rfl, rfl, rfl, rfl, rfl, rfl, trivial⟩, ⟨H⟩, ⟨by omega⟩, ⟨hS619q⟩, ⟨hr614q⟩, ⟨hl613q⟩⟩
          · rw [if_neg c595q] at H
            have hb_ : (decide ((gt (0 : Int) G0 x577q) = x555q)) = false := decide_eq_false c595q
            try rw [hb_] at h594q
            clear hb_
            refine wp_else h594q rfl ?_
            refine wp_skip ?_
            refine WL.start ?_
            refine WL.block (c := 2) (m' := 2) h594q rfl [(13, .int .i64 (IntKind.i64.wrap (x577q + 1))), (27, .int .i64 (IntKind.i64.wrap (x577q + 1)))] (by kernel_rfl) (fun a620q h621q => ?_)
            clear h594q a593q
            refine WL.done (by kernel_rfl) ?_
            exact ⟨k578q, by omega, x572q, M573q, x576q, IntKind.i64.wrap (x577q + 1), h621q.keep ⟨rfl, rfl, rfl, rfl, rfl, rfl, trivial⟩, ⟨H⟩, ⟨by omega⟩, ⟨hS570q⟩, ⟨hr574q⟩, ⟨hl575q⟩⟩
        · rw [if_neg c585q] at H
          cases H
      · rw [if_neg c584q] at H
        cases H
    · rw [if_neg c581q] at H
      have hb_ : (decide (x577q < 257)) = false := decide_eq_false c581q
      try rw [hb_] at h580q
      clear hb_
      refine wp_else h580q rfl ?_
      refine wp_exit ?_
      refine WL.start ?_
      refine WL.block (c := 3) (m' := 3) h580q rfl [(3, .int .u8 (IntKind.u8.wrap (x555q + 1))), (9, .int .u8 (IntKind.u8.wrap (x555q + 1))), (8, .int .u8 x555q)] (by kernel_rfl) (fun a622q h623q => ?_)
      clear h580q a579q
      refine WL.done (by kernel_rfl) ?_
      exact ⟨k578q, by omega, x572q, M573q, x576q, IntKind.u8.wrap (x555q + 1), h623q.keep ⟨rfl, rfl, rfl, rfl, trivial⟩, ⟨H⟩, ⟨by omega⟩, ⟨hS570q⟩, ⟨hr574q⟩, ⟨hl575q⟩⟩
  · rw [if_neg c560q] at H
    have hb_ : (decide (x555q ≤ 30)) = false := decide_eq_false c560q
    try rw [hb_] at h559q
    clear hb_
    refine wp_else h559q rfl ?_
    refine wp_exit ?_
    refine wp_seq ?_
    refine WL.start ?_
    have hS624q : St b w0 W547q R (M551q :: M532q :: Fs) := hS548q.bring 1 rfl rfl
    refine WL.op' (m := 0) h559q rfl rfl ?_
    refine owp_run (v := .agg (x550q.flatMap (fun x : S45 => ([.int .u32 x.f0, .int .u8 x.f1] : List Value))).toArray) h559q rfl (by kernel_rfl) (run_loadN rfl rfl Tryd.underlying46 rfl (cs := x550q.flatMap (fun x : S45 => ([.int .u32 x.f0, .int .u8 x.f1] : List Value))) (by rw [flat_len (sz := 2) (fun _ => rfl), hl553q]; kernel_rfl) (Row.arr_cells (by decide) (fun h_ => k45qrd h_) (fun _ => rfl) hr552q hS624q)) (fun a625q h626q => ?_)
    clear h559q a558q
    have hS627q : St b w0 W547q R (M532q :: M551q :: Fs) := hS624q.bring 1 rfl rfl
    refine WL.op' (m := 1) h626q rfl rfl ?_
    refine owp_storearr (f := (fun x : S45 => ([.int .u32 x.f0, .int .u8 x.f1] : List Value))) (ys := x550q) (N := 257) h626q rfl (by kernel_rfl) rfl rfl rfl (by kernel_rfl) (fun x_ => by obtain ⟨_, hk_, rfl⟩ := k45qmk (b := b) (w0 := w0) (R := R) (x := x_); exact hk_) hl531q hl553q (by decide) hr530q hS627q (fun a628q W630q M631q h629q hr632q hS633q => ?_)
    clear h626q a625q
    refine WL.done (by kernel_rfl) ?_
    refine wp_ret ?_
    have hS634q : St b w0 W630q R (M551q :: Fs) := hS633q.drop_
    have hS635q : St b w0 W630q R (Fs) := hS634q.drop_
    obtain rfl := Option.some.inj H
    repeat (first | refine then_ret ?_ | refine inBlock_ret ?_ | refine inBlock_go ?_)
    refine body_ret (v := .agg (x550q.flatMap (fun x : S45 => ([.int .u32 x.f0, .int .u8 x.f1] : List Value))).toArray) h629q (by kernel_rfl) (res_one rfl ⟨_, rfl, loadVarN Tryd.underlying46 rfl (cs := x550q.flatMap (fun x : S45 => ([.int .u32 x.f0, .int .u8 x.f1] : List Value))) (by rw [flat_len (sz := 2) (fun _ => rfl), hl553q]; kernel_rfl) (Row.arr_cells (by decide) (fun h_ => k45qrd h_) (fun _ => rfl) hr632q hS633q)⟩) ?_
    exact ⟨rfl, hl553q, hS635q⟩

/-! ### louver/huffman.Code -/
def huffman_Code.f (k : Nat) (p0 : Int) : Option (Int × Int) := if p0 < 0 then (some (0, 0)) else (if p0 ≥ 257 then (some (0, 0)) else (bnd1 (huffman_codes.f k) fun r117q => (if 0 ≤ p0 then (if p0 < (257 : Int) then (some ((gt z45 r117q p0).f0, IntKind.i64.wrap ((gt z45 r117q p0).f1))) else (none)) else (none))))
set_option maxHeartbeats 2000000 in
set_option maxRecDepth 100000 in
theorem huffman_Code.calls (k : Nat) {b : Nat} {w0 W : World} {R : Frag} {Fs : List Frag} {p0 : Int}  {r0q : Int} {r1q : Int} (hg0 : Rds (kInt .u8) b w0 [] (.slice (some ⟨0, 0, none⟩) 257 257) G0) (H : huffman_Code.f k p0 = some (r0q, r1q)) (hS : St b w0 W R (Fs)) :
    Calls Tryd.prog 9 ([.int .i64 p0] : List Value).toArray W (fun e W' => e = .returned (.tuple #[.int .u32 r0q, .int .i64 r1q]) ∧ St b w0 W' R (Fs)) := by
  unfold huffman_Code.f at H
  refine calls_enter Tryd.func9 rfl 19 rfl (by kernel_rfl) (fun a h => ?_)
  refine wp_seq ?_
  refine WL.start ?_
  refine WL.block (c := 2) (m' := 2) h rfl [(3, .int .i64 0), (2, .int .u32 0)] (by kernel_rfl) (fun a94q h95q => ?_)
  refine WL.done (by kernel_rfl) ?_
  refine wp_seq ?_
  refine wp_seq ?_
  refine WL.start ?_
  refine WL.block (c := 3) (m' := 3) h95q rfl [(7, .bool (decide (p0 < 0))), (6, .bool (decide (p0 < 0))), (5, .int .i64 p0)] (by kernel_rfl) (fun a96q h97q => ?_)
  clear h95q a94q
  by_cases c98q : p0 < 0
  · rw [if_pos c98q] at H
    have hb_ : (decide (p0 < 0)) = true := decide_eq_true c98q
    try rw [hb_] at h97q
    clear hb_
    refine WL.skipped (m := 3) h97q rfl rfl (by kernel_rfl) rfl (fun a99q h100q => ?_)
    clear h97q a96q
    refine WL.skipped (m := 4) h100q rfl rfl (by kernel_rfl) rfl (fun a101q h102q => ?_)
    clear h100q a99q
    refine WL.block (c := 1) (m' := 6) h102q rfl [(10, .bool true)] (by kernel_rfl) (fun a103q h104q => ?_)
    clear h102q a101q
    refine WL.done (by kernel_rfl) ?_
    refine wp_then h104q rfl ?_
    refine wp_seq ?_
    refine WL.start ?_
    refine WL.block (c := 2) (m' := 2) h104q rfl [(3, .int .i64 0), (2, .int .u32 0)] (by kernel_rfl) (fun a105q h106q => ?_)
    clear h104q a103q
    refine WL.done (by kernel_rfl) ?_
    refine wp_ret ?_
    obtain ⟨rfl, rfl⟩ := ret2 H
    repeat (first | refine then_ret ?_ | refine inBlock_ret ?_ | refine inBlock_go ?_)
    refine body_ret (v := .tuple #[.int .u32 0, .int .i64 0]) h106q (by kernel_rfl) (by kernel_rfl) ?_
    exact ⟨rfl, hS⟩
  · rw [if_neg c98q] at H
    have hb_ : (decide (p0 < 0)) = false := decide_eq_false c98q
    try rw [hb_] at h97q
    clear hb_
    refine WL.op' (m := 3) h97q rfl rfl (owp_run h97q rfl (by kernel_rfl) (v := .int .i64 p0) (by kernel_rfl) (fun a107q h108q => ?_))
    clear h97q a96q
    refine WL.op' (m := 4) h108q rfl rfl (owp_run h108q rfl (by kernel_rfl) (v := .bool (decide (p0 ≥ 257))) (by kernel_rfl) (fun a109q h110q => ?_))
    clear h108q a107q
    refine WL.block (c := 1) (m' := 6) h110q rfl [(10, .bool (decide (p0 ≥ 257)))] (by kernel_rfl) (fun a111q h112q => ?_)
    clear h110q a109q
    refine WL.done (by kernel_rfl) ?_
    by_cases c113q : p0 ≥ 257
    · rw [if_pos c113q] at H
      have hb_ : (decide (p0 ≥ 257)) = true := decide_eq_true c113q
      try rw [hb_] at h112q
      clear hb_
      refine wp_then h112q rfl ?_
      refine wp_seq ?_
      refine WL.start ?_
      refine WL.block (c := 2) (m' := 2) h112q rfl [(3, .int .i64 0), (2, .int .u32 0)] (by kernel_rfl) (fun a114q h115q => ?_)
      clear h112q a111q
      refine WL.done (by kernel_rfl) ?_
      refine wp_ret ?_
      obtain ⟨rfl, rfl⟩ := ret2 H
      repeat (first | refine then_ret ?_ | refine inBlock_ret ?_ | refine inBlock_go ?_)
      refine body_ret (v := .tuple #[.int .u32 0, .int .i64 0]) h115q (by kernel_rfl) (by kernel_rfl) ?_
      exact ⟨rfl, hS⟩
    · rw [if_neg c113q] at H
      have hb_ : (decide (p0 ≥ 257)) = false := decide_eq_false c113q
      try rw [hb_] at h112q
      clear hb_
      refine wp_else h112q rfl ?_
      refine wp_skip ?_
      refine wp_seq ?_
      refine WL.start ?_
      obtain ⟨r117q, A116q, H⟩ := bind1 H
      refine WL.op' (m := 0) h112q rfl rfl ?_
      refine owp_call [] h112q rfl (by kernel_rfl) rfl Tryd.func17 (by kernel_rfl) rfl (by kernel_rfl) (huffman_codes.calls k hg0 A116q hS) (fun e119q W118q hp120q => ?_)
      obtain ⟨rfl, hl123q, hS124q⟩ := hp120q
      refine ⟨_, rfl, fun a121q h122q => ?_⟩
      clear h112q a111q
      refine WL.block (c := 1) (m' := 2) h122q rfl [(12, .int .i64 p0)] (by kernel_rfl) (fun a125q h126q => ?_)
      clear h122q a121q
      by_cases c127q : 0 ≤ p0
      · rw [if_pos c127q] at H
        by_cases c128q : p0 < (257 : Int)
        · rw [if_pos c128q] at H
          have hi129q : 0 ≤ p0 := by first | assumption | omega
          have hi131q : p0 < ((257 : Nat) : Int) := by omega
          have hi130q : p0 < (r117q.length : Int) := by rw [hl123q]; exact hi131q
          refine WL.op' (m := 2) h126q rfl rfl ?_
          refine owp_run (v := .agg #[.int .u32 ((gt z45 r117q p0).f0), .int .u8 ((gt z45 r117q p0).f1)]) h126q rfl (by kernel_rfl) (run_index_st rfl rfl rfl Tryd.underlying46 Tryd.underlying45 rfl (by kernel_rfl) hi129q hi131q (sz := 2) (cs' := ([.int .u32 ((gt z45 r117q p0).f0), .int .u8 ((gt z45 r117q p0).f1)] : List Value)) (flat_at (f := (fun x : S45 => ([.int .u32 x.f0, .int .u8 x.f1] : List Value))) (sz := 2) (fun _ => rfl) r117q _ _ (gt_get (z := z45) hi129q hi130q))) (fun a132q h133q => ?_)
          clear h126q a125q
          refine WL.op' (m := 3) h133q rfl rfl ?_
          refine owp_new (fun g_ => .pointer (some ⟨g_, 0, none⟩)) (.cells ([.int .u32 0, .int .u8 0] : List Value).toArray 45 (0, 0)) h133q rfl (by kernel_rfl) (by kernel_rfl) hS124q (fun a134q W136q g137q h135q hS138q => ?_)
          clear h133q a132q
          refine WL.op' (m := 4) h135q rfl rfl ?_
          refine owp_store (i := 0) (vs := ([.int .u32 ((gt z45 r117q p0).f0), .int .u8 ((gt z45 r117q p0).f1)] : List Value)) h135q rfl (by kernel_rfl) rfl rfl rfl rfl (by simp [Value.oneCell']) (by kernel_rfl) hS138q (by simp) (cs' := ([.int .u32 ((gt z45 r117q p0).f0), .int .u8 ((gt z45 r117q p0).f1)] : List Value)) rfl (fun a139q W141q h140q hS142q => ?_)
          clear h135q a134q
          refine WL.done (by kernel_rfl) ?_
          refine wp_seq ?_
          refine WT.start 7 (fun w_ => (w_.cell? ⟨g137q, 0, none⟩ = some (.int .u32 ((gt z45 r117q p0).f0))) ∧ (w_.cell? ⟨g137q, 1, none⟩ = some (.int .u8 ((gt z45 r117q p0).f1))) ∧ True) (by kernel_rfl) #[false, false, false, false, false, false, false] 7 rfl rfl ?_
          have hS171q := hS142q.drew
          refine WT.take 0 (listed' := #[true, false, false, false, false, false, false]) h140q rfl rfl (by kernel_rfl) rfl rfl (.pointer (some ⟨g137q, 0, none⟩)) (fun _ _ => by kernel_rfl) ⟨(hS171q.cell (i := 0) rfl), (hS171q.cell (i := 1) rfl), trivial⟩ (fun _ _ _ h_ => h_) (fun a172q h173q => ?_)
          clear h140q a139q
          refine WT.take 2 (listed' := #[true, false, true, false, false, false, false]) h173q rfl rfl (by kernel_rfl) rfl rfl (.pointer (some ⟨g137q, 1, none⟩)) (fun _ _ => by kernel_rfl) ⟨(hS171q.cell (i := 0) rfl), (hS171q.cell (i := 1) rfl), trivial⟩ (fun _ _ _ h_ => h_) (fun a174q h175q => ?_)
          clear h173q a172q
          refine WT.take 1 (listed' := #[true, true, true, false, false, false, false]) h175q rfl rfl (by kernel_rfl) rfl rfl (.int .u32 ((gt z45 r117q p0).f0)) (fun w_ hs_ => (run_load1 rfl rfl Tryd.underlying22 rfl hs_.1)) ⟨(hS171q.cell (i := 0) rfl), (hS171q.cell (i := 1) rfl), trivial⟩ (fun _ _ _ h_ => h_) (fun a176q h177q => ?_)
          clear h175q a174q
          refine WT.take 5 (listed' := #[true, true, true, false, false, true, false]) h177q rfl rfl (by kernel_rfl) rfl rfl (.int .u32 ((gt z45 r117q p0).f0)) (fun _ _ => by kernel_rfl) ⟨(hS171q.cell (i := 0) rfl), (hS171q.cell (i := 1) rfl), trivial⟩ (fun _ _ _ h_ => h_) (fun a178q h179q => ?_)
          clear h177q a176q
          refine WT.take 3 (listed' := #[true, true, true, true, false, true, false]) h179q rfl rfl (by kernel_rfl) rfl rfl (.int .u8 ((gt z45 r117q p0).f1)) (fun w_ hs_ => (run_load1 rfl rfl Tryd.underlying5 rfl hs_.2.1)) ⟨(hS171q.cell (i := 0) rfl), (hS171q.cell (i := 1) rfl), trivial⟩ (fun _ _ _ h_ => h_) (fun a180q h181q => ?_)
          clear h179q a178q
          refine WT.take 4 (listed' := #[true, true, true, true, true, true, false]) h181q rfl rfl (by kernel_rfl) rfl rfl (.int .i64 (IntKind.i64.wrap ((gt z45 r117q p0).f1))) (fun _ _ => by kernel_rfl) ⟨(hS171q.cell (i := 0) rfl), (hS171q.cell (i := 1) rfl), trivial⟩ (fun _ _ _ h_ => h_) (fun a182q h183q => ?_)
          clear h181q a180q
          refine WT.take 6 (listed' := #[true, true, true, true, true, true, true]) h183q rfl rfl (by kernel_rfl) rfl rfl (.int .i64 (IntKind.i64.wrap ((gt z45 r117q p0).f1))) (fun _ _ => by kernel_rfl) ⟨(hS171q.cell (i := 0) rfl), (hS171q.cell (i := 1) rfl), trivial⟩ (fun _ _ _ h_ => h_) (fun a184q h185q => ?_)
          clear h183q a182q
          refine WT.done (by kernel_rfl) ?_
          refine wp_ret ?_
          have hS186q : St b w0 W141q.drew R (Fs) := hS171q.drop_
          obtain ⟨rfl, rfl⟩ := ret2 H
          repeat (first | refine then_ret ?_ | refine inBlock_ret ?_ | refine inBlock_go ?_)
          refine body_ret (v := .tuple #[.int .u32 ((gt z45 r117q p0).f0), .int .i64 (IntKind.i64.wrap ((gt z45 r117q p0).f1))]) h185q (by kernel_rfl) (by kernel_rfl) ?_
          exact ⟨rfl, hS186q⟩
        · rw [if_neg c128q] at H
          cases H
      · rw [if_neg c127q] at H
        cases H

/-! ### louver/huffman.Size -/
def huffman_Size.l0 : Nat → Int → Int → (List UInt8) → Option (Int)
  | 0, _, _, _ => none
  | k + 1, x102q, x103q, p0 => if x103q < (p0.length : Int) then (if 0 ≤ x103q then (if 0 ≤ (btI p0 x103q) then (if (btI p0 x103q) < (257 : Int) then (huffman_Size.l0 k (IntKind.i64.wrap (x102q + (IntKind.i64.wrap (gt (0 : Int) G0 (btI p0 x103q))))) (IntKind.i64.wrap (x103q + 1)) p0) else (none)) else (none)) else (none)) else (some (IntKind.i64.wrap (Int.tdiv (IntKind.i64.wrap (x102q + 7)) 8)))
def huffman_Size.f (k : Nat) (p0 : (List UInt8)) : Option (Int) := huffman_Size.l0 k 0 0 p0
set_option maxHeartbeats 2000000 in
set_option maxRecDepth 100000 in
theorem huffman_Size.calls (k : Nat) {b : Nat} {w0 W : World} {R : Frag} {Fs : List Frag} {p0 : (List UInt8)}  {r0q : Int} (hg0 : Rds (kInt .u8) b w0 [] (.slice (some ⟨0, 0, none⟩) 257 257) G0) (H : huffman_Size.f k p0 = some r0q) (hS : St b w0 W R (Fs)) :
    Calls Tryd.prog 12 ([.string (mkS p0)] : List Value).toArray W (fun e W' => e = .returned (.int .i64 r0q) ∧ St b w0 W' R (Fs)) := by
  unfold huffman_Size.f at H
  refine calls_enter Tryd.func12 rfl 22 rfl (by kernel_rfl) (fun a h => ?_)
  refine wp_seq ?_
  refine WL.start ?_
  refine WL.block (c := 1) (m' := 1) h rfl [(2, .int .i64 0)] (by kernel_rfl) (fun a91q h92q => ?_)
  refine WL.done (by kernel_rfl) ?_
  refine wp_seq ?_
  refine WL.start ?_
  refine WL.block (c := 1) (m' := 1) h92q rfl [(3, .int .i64 0)] (by kernel_rfl) (fun a93q h94q => ?_)
  clear h92q a91q
  refine WL.done (by kernel_rfl) ?_
  refine wp_seq ?_
  refine wp_seq ?_
  refine WL.start ?_
  refine WL.block (c := 3) (m' := 3) h94q rfl [(7, .int .i64 0), (6, .int .i64 (p0.length : Int)), (5, .string (mkS p0))] (by kernel_rfl) (fun a95q h96q => ?_)
  clear h94q a93q
  refine WL.done (by kernel_rfl) ?_
  refine wp_block ?_
  refine wp_loop_ghost (fun kq_ a_ W_ => ∃ (x102q : Int), ∃ (x103q : Int), Hd a_ 22 [(0, .string (mkS p0)), (3, .int .i64 x102q), (6, .int .i64 (p0.length : Int)), (7, .int .i64 x103q)] ∧ Asd (huffman_Size.l0 kq_ x102q x103q p0 = some r0q) ∧ Asd (kq_ ≤ k) ∧ Asd (St b w0 W_ R (Fs))) k ⟨0, 0, h96q.keep ⟨rfl, rfl, rfl, rfl, trivial⟩, ⟨H⟩, ⟨Nat.le_refl _⟩, ⟨hS⟩⟩ ?_
  clear H hS
  rintro k101q a98q W99q ⟨x102q, x103q, h97q, ⟨H⟩, ⟨hkk101q⟩, ⟨hS100q⟩⟩
  obtain _ | k104q := k101q
  · exact absurd H (by simp [huffman_Size.l0])
  simp only [huffman_Size.l0] at H
  refine wp_seq ?_
  refine WL.start ?_
  refine WL.block (c := 1) (m' := 1) h97q rfl [(8, .bool (decide (x103q < (p0.length : Int))))] (by kernel_rfl) (fun a105q h106q => ?_)
  clear h97q a98q
  refine WL.done (by kernel_rfl) ?_
  refine wp_seq ?_
  by_cases c107q : x103q < (p0.length : Int)
  · rw [if_pos c107q] at H
    have hb_ : (decide (x103q < (p0.length : Int))) = true := decide_eq_true c107q
    try rw [hb_] at h106q
    clear hb_
    refine wp_then h106q rfl ?_
    refine wp_skip ?_
    refine wp_seq ?_
    refine wp_block ?_
    refine wp_seq ?_
    refine WL.start ?_
    refine WL.block (c := 2) (m' := 2) h106q rfl [(4, .int .i64 x103q), (9, .int .i64 x103q)] (by kernel_rfl) (fun a108q h109q => ?_)
    clear h106q a105q
    refine WL.done (by kernel_rfl) ?_
    refine WL.start ?_
    refine WL.block (c := 3) (m' := 3) h109q rfl [(12, .int .i64 x103q), (11, .string (mkS p0)), (10, .int .i64 x102q)] (by kernel_rfl) (fun a110q h111q => ?_)
    clear h109q a108q
    by_cases c112q : 0 ≤ x103q
    · rw [if_pos c112q] at H
      refine WL.op' (m := 3) h111q rfl rfl ?_
      refine owp_run (v := .int .u8 (btI p0 x103q)) h111q rfl (by kernel_rfl) (run_stridx rfl rfl rfl Tryd.underlying9 (by first | assumption | omega) (by first | assumption | omega)) (fun a113q h114q => ?_)
      clear h111q a110q
      by_cases c115q : 0 ≤ (btI p0 x103q)
      · rw [if_pos c115q] at H
        by_cases c116q : (btI p0 x103q) < (257 : Int)
        · rw [if_pos c116q] at H
          have hx117q : Rds (kInt .u8) b w0 R (.slice (some ⟨0, 0, none⟩) 257 257) G0 := Rds.mono (fun _ h_ => by cases h_) hg0
          have hi118q : 0 ≤ (btI p0 x103q) := by first | assumption | omega
          have hi120q : (btI p0 x103q) < ((257 : Nat) : Int) := by omega
          have hi119q : (btI p0 x103q) < (G0.length : Int) := by rw [G0qlen]; exact hi120q
          refine WL.op' (m := 4) h114q rfl rfl ?_
          refine owp_run (v := .pointer (some ((⟨0, 0, none⟩ : Addr).add ((btI p0 x103q).toNat * 1)))) h114q rfl (by kernel_rfl) (run_idxarr (ad := ⟨0, 0, none⟩) (sz := 1) rfl rfl rfl Tryd.underlying51 (by kernel_rfl) hi118q hi120q) (fun a121q h122q => ?_)
          clear h114q a113q
          obtain ⟨ad123q, cs124q, ha125q, hr127q, hc126q⟩ := Rds.elemAny hx117q hi118q (gt_get (z := (0 : Int)) hi118q hi119q)
          obtain rfl := Option.some.inj ha125q
          obtain rfl : cs124q = [.int .u8 (gt (0 : Int) G0 (btI p0 x103q))] := hr127q
          refine WL.op' (m := 5) h122q rfl rfl ?_
          refine owp_run (v := .int .u8 (gt (0 : Int) G0 (btI p0 x103q))) h122q rfl (by kernel_rfl) (run_load1 rfl rfl Tryd.underlying5 rfl (cell0 (hc126q _ (fun _ _ hk_ => hS100q.kn hk_)))) (fun a128q h129q => ?_)
          clear h122q a121q
          refine WL.block (c := 3) (m' := 9) h129q rfl [(3, .int .i64 (IntKind.i64.wrap (x102q + (IntKind.i64.wrap (gt (0 : Int) G0 (btI p0 x103q)))))), (17, .int .i64 (IntKind.i64.wrap (x102q + (IntKind.i64.wrap (gt (0 : Int) G0 (btI p0 x103q)))))), (16, .int .i64 (IntKind.i64.wrap (gt (0 : Int) G0 (btI p0 x103q))))] (by kernel_rfl) (fun a130q h131q => ?_)
          clear h129q a128q
          refine WL.done (by kernel_rfl) ?_
          refine WL.start ?_
          refine WL.block (c := 2) (m' := 2) h131q rfl [(7, .int .i64 (IntKind.i64.wrap (x103q + 1))), (18, .int .i64 (IntKind.i64.wrap (x103q + 1)))] (by kernel_rfl) (fun a132q h133q => ?_)
          clear h131q a130q
          refine WL.done (by kernel_rfl) ?_
          exact ⟨k104q, by omega, IntKind.i64.wrap (x102q + (IntKind.i64.wrap (gt (0 : Int) G0 (btI p0 x103q)))), IntKind.i64.wrap (x103q + 1), h133q.keep ⟨rfl, rfl, rfl, rfl, trivial⟩, ⟨H⟩, ⟨by omega⟩, ⟨hS100q⟩⟩
        · rw [if_neg c116q] at H
          cases H
      · rw [if_neg c115q] at H
        cases H
    · rw [if_neg c112q] at H
      cases H
  · rw [if_neg c107q] at H
    have hb_ : (decide (x103q < (p0.length : Int))) = false := decide_eq_false c107q
    try rw [hb_] at h106q
    clear hb_
    refine wp_else h106q rfl ?_
    refine wp_exit ?_
    refine wp_seq ?_
    refine WL.start ?_
    refine WL.block (c := 4) (m' := 4) h106q rfl [(2, .int .i64 (IntKind.i64.wrap (Int.tdiv (IntKind.i64.wrap (x102q + 7)) 8))), (21, .int .i64 (IntKind.i64.wrap (Int.tdiv (IntKind.i64.wrap (x102q + 7)) 8))), (20, .int .i64 (IntKind.i64.wrap (x102q + 7))), (19, .int .i64 x102q)] (by kernel_rfl) (fun a134q h135q => ?_)
    clear h106q a105q
    refine WL.done (by kernel_rfl) ?_
    refine wp_ret ?_
    obtain rfl := Option.some.inj H
    repeat (first | refine then_ret ?_ | refine inBlock_ret ?_ | refine inBlock_go ?_)
    refine body_ret (v := .int .i64 (IntKind.i64.wrap (Int.tdiv (IntKind.i64.wrap (x102q + 7)) 8))) h135q (by kernel_rfl) (by kernel_rfl) ?_
    exact ⟨rfl, hS100q⟩

/-! ### louver/huffman.Encode -/
mutual
def huffman_Encode.l0 : Nat → (List Int) → Int → Int → Int → (List UInt8) → (List S45) → Option ((List Int))
  | 0, _, _, _, _, _, _ => none
  | k + 1, x1140q, x1145q, x1146q, x1147q, p0, r1083q => if x1147q < (p0.length : Int) then (if 0 ≤ x1147q then (if 0 ≤ (btI p0 x1147q) then (if (btI p0 x1147q) < (257 : Int) then (if 0 ≤ ((gt z45 r1083q (btI p0 x1147q)).f1) then (huffman_Encode.l1 k x1140q (bOr .u64 (shlI .u64 x1145q ((gt z45 r1083q (btI p0 x1147q)).f1)) (IntKind.u64.wrap ((gt z45 r1083q (btI p0 x1147q)).f0))) (IntKind.i64.wrap (x1146q + (IntKind.i64.wrap ((gt z45 r1083q (btI p0 x1147q)).f1)))) p0 r1083q x1147q) else (none)) else (none)) else (none)) else (none)) else (if x1146q > 0 then (if 0 ≤ (IntKind.i64.wrap (8 - x1146q)) then (if x1140q.length + 1 ≤ 140737488355328 then (lt1 (x1140q ++ ([IntKind.u8.wrap (bOr .u64 (shlI .u64 x1145q (IntKind.i64.wrap (8 - x1146q))) (IntKind.u64.wrap ((shlI .u64 1 (IntKind.i64.wrap (8 - x1146q))) - 1)))] : List Int) : List Int) fun y1341q => (some y1341q)) else (none)) else (none)) else (some x1140q))
def huffman_Encode.l1 : Nat → (List Int) → Int → Int → (List UInt8) → (List S45) → Int → Option ((List Int))
  | 0, _, _, _, _, _, _ => none
  | k + 1, x1208q, x1213q, x1214q, p0, r1083q, x1147q => if x1214q ≥ 8 then (if 0 ≤ (IntKind.i64.wrap (x1214q - 8)) then (if x1208q.length + 1 ≤ 140737488355328 then (lt1 (x1208q ++ ([IntKind.u8.wrap (shrI .u64 x1213q (IntKind.i64.wrap (x1214q - 8)))] : List Int) : List Int) fun y1244q => (huffman_Encode.l1 k y1244q (bAnd .u64 x1213q (IntKind.u64.wrap ((shlI .u64 1 (IntKind.i64.wrap (x1214q - 8))) - 1))) (IntKind.i64.wrap (x1214q - 8)) p0 r1083q x1147q)) else (none)) else (none)) else (huffman_Encode.l0 k x1208q x1213q x1214q (IntKind.i64.wrap (x1147q + 1)) p0 r1083q)
end
def huffman_Encode.f (k : Nat) (p0 : (List UInt8)) : Option ((List Int)) := bnd1 (huffman_codes.f k) fun r1083q => (bnd1 (huffman_Size.f k p0) fun r1108q => (if (0 : Int) ≤ r1108q then (if r1108q * 1 ≤ 140737488355328 then (lt1 (List.replicate (0 : Int).toNat (0 : Int) : List Int) fun y1124q => (huffman_Encode.l0 k y1124q 0 0 0 p0 r1083q)) else (none)) else (none)))
set_option maxHeartbeats 2000000 in
set_option maxRecDepth 100000 in
theorem huffman_Encode.calls (k : Nat) {b : Nat} {w0 W : World} {R : Frag} {Fs : List Frag} {p0 : (List UInt8)}  {r0q : (List Int)} (hg0 : Rds (kInt .u8) b w0 [] (.slice (some ⟨0, 0, none⟩) 257 257) G0) (H : huffman_Encode.f k p0 = some r0q) (hS : St b w0 W R (Fs)) :
    Calls Tryd.prog 13 ([.string (mkS p0)] : List Value).toArray W (fun e W' => ∃ (u0q : Value) (N0q : Frag), e = .returned (u0q) ∧ Row (kInt .u8) 5 b w0 R u0q r0q N0q ∧ St b w0 W' R (N0q :: Fs)) := by
  unfold huffman_Encode.f at H
  refine calls_enter Tryd.func13 rfl 70 rfl (by kernel_rfl) (fun a h => ?_)
  refine wp_seq ?_
  refine WL.start ?_
  refine WL.block (c := 1) (m' := 1) h rfl [(2, .slice none 0 0)] (by kernel_rfl) (fun a1080q h1081q => ?_)
  refine WL.done (by kernel_rfl) ?_
  refine wp_seq ?_
  refine WL.start ?_
  obtain ⟨r1083q, A1082q, H⟩ := bind1 H
  refine WL.op' (m := 0) h1081q rfl rfl ?_
  refine owp_call [] h1081q rfl (by kernel_rfl) rfl Tryd.func17 (by kernel_rfl) rfl (by kernel_rfl) (huffman_codes.calls k hg0 A1082q hS) (fun e1085q W1084q hp1086q => ?_)
  obtain ⟨rfl, hl1089q, hS1090q⟩ := hp1086q
  refine ⟨_, rfl, fun a1087q h1088q => ?_⟩
  clear h1081q a1080q
  refine WL.op' (m := 1) h1088q rfl rfl ?_
  refine owp_new (fun g_ => .pointer (some ⟨g_, 0, none⟩)) (.cells ((List.replicate 257 z45 : List S45).flatMap (fun x : S45 => ([.int .u32 x.f0, .int .u8 x.f1] : List Value))).toArray 46 (0, 0)) h1088q rfl (by kernel_rfl) (by kernel_rfl) hS1090q (fun a1091q W1093q g1094q h1092q hS1095q => ?_)
  clear h1088q a1087q
  have hl1097q : (List.replicate 257 z45 : List S45).length = 257 := by simp
  have hr1096q : Row k45 46 b w0 R (.slice (some ⟨g1094q, 0, none⟩) 257 257) (List.replicate 257 z45 : List S45) [(g1094q, .cells ((List.replicate 257 z45 : List S45).flatMap (fun x : S45 => ([.int .u32 x.f0, .int .u8 x.f1] : List Value))).toArray 46 (0, 0))] := Row.arr (reps_flat (fun x_ => by obtain ⟨_, hk_, rfl⟩ := k45qmk (b := b) (w0 := w0) (R := R) (x := x_); exact hk_) _) hl1097q (by decide)
  obtain ⟨M1098q, hM_⟩ : ∃ y : Frag, y = [(g1094q, .cells ((List.replicate 257 z45 : List S45).flatMap (fun x : S45 => ([.int .u32 x.f0, .int .u8 x.f1] : List Value))).toArray 46 (0, 0))] := ⟨_, rfl⟩
  rw [← hM_] at hr1096q hS1095q
  clear hM_
  refine WL.op' (m := 2) h1092q rfl rfl ?_
  refine owp_storearr (f := (fun x : S45 => ([.int .u32 x.f0, .int .u8 x.f1] : List Value))) (ys := r1083q) (N := 257) h1092q rfl (by kernel_rfl) rfl rfl rfl (by kernel_rfl) (fun x_ => by obtain ⟨_, hk_, rfl⟩ := k45qmk (b := b) (w0 := w0) (R := R) (x := x_); exact hk_) hl1097q hl1089q (by decide) hr1096q hS1095q (fun a1099q W1101q M1102q h1100q hr1103q hS1104q => ?_)
  clear h1092q a1091q
  refine WL.done (by kernel_rfl) ?_
  refine wp_seq ?_
  refine WL.start ?_
  refine WL.block (c := 1) (m' := 1) h1100q rfl [(11, .string (mkS p0))] (by kernel_rfl) (fun a1105q h1106q => ?_)
  clear h1100q a1099q
  obtain ⟨r1108q, A1107q, H⟩ := bind1 H
  refine WL.op' (m := 1) h1106q rfl rfl ?_
  refine owp_call [.string (mkS p0)] h1106q rfl (by kernel_rfl) rfl Tryd.func12 (by kernel_rfl) rfl (by kernel_rfl) (huffman_Size.calls k hg0 A1107q hS1104q) (fun e1110q W1109q hp1111q => ?_)
  obtain ⟨rfl, hS1114q⟩ := hp1111q
  refine ⟨_, rfl, fun a1112q h1113q => ?_⟩
  clear h1106q a1105q
  by_cases c1115q : (0 : Int) ≤ r1108q
  · rw [if_pos c1115q] at H
    by_cases c1116q : r1108q * 1 ≤ 140737488355328
    · rw [if_pos c1116q] at H
      refine WL.op' (m := 2) h1113q rfl rfl ?_
      refine owp_make' (z := .int .u8 0) (z0 := (0 : Int)) (bytes := 1) (dk := (kInt .u8)) h1113q rfl (by kernel_rfl) rfl rfl rfl Tryd.underlying33 (by kernel_rfl) rfl (by decide) ⟨rfl, rfl⟩ hS1114q (by first | assumption | omega) (by first | assumption | omega) (by omega) (fun a1117q W1119q v1120q M1121q h1118q hr1122q hS1123q => ?_)
      clear h1113q a1112q
      obtain ⟨y1124q, hy1125q, H⟩ := lete H
      have hr1126q : Row (kInt .u8) 5 b w0 R v1120q y1124q M1121q := by rw [hy1125q]; exact hr1122q
      clear hr1122q
      obtain ⟨A1127q, c1128q, rfl⟩ := hr1126q.form
      refine WL.block (c := 1) (m' := 4) h1118q rfl [(4, .slice A1127q y1124q.length c1128q)] (by kernel_rfl) (fun a1129q h1130q => ?_)
      clear h1118q a1117q
      refine WL.done (by kernel_rfl) ?_
      refine wp_seq ?_
      refine WL.start ?_
      refine WL.block (c := 2) (m' := 2) h1130q rfl [(6, .int .i64 0), (5, .int .u64 0)] (by kernel_rfl) (fun a1131q h1132q => ?_)
      clear h1130q a1129q
      refine WL.done (by kernel_rfl) ?_
      refine wp_seq ?_
      refine wp_seq ?_
      refine WL.start ?_
      refine WL.block (c := 3) (m' := 3) h1132q rfl [(16, .int .i64 0), (15, .int .i64 (p0.length : Int)), (14, .string (mkS p0))] (by kernel_rfl) (fun a1133q h1134q => ?_)
      clear h1132q a1131q
      refine WL.done (by kernel_rfl) ?_
      refine wp_block ?_
      have hS1148q : St b w0 W1119q R (M1102q :: M1121q :: Fs) := hS1123q.bring 1 rfl rfl
      refine wp_loop_ghost (fun kq_ a_ W_ => ∃ (x1140q : (List Int)), ∃ (A1141q : Option Addr), ∃ (c1142q : Nat), ∃ (M1143q : Frag), ∃ (x1145q : Int), ∃ (x1146q : Int), ∃ (x1147q : Int), Hd a_ 70 [(0, .string (mkS p0)), (3, .pointer (some ⟨g1094q, 0, none⟩)), (4, .slice A1141q x1140q.length c1142q), (5, .int .u64 x1145q), (6, .int .i64 x1146q), (15, .int .i64 (p0.length : Int)), (16, .int .i64 x1147q)] ∧ Asd (huffman_Encode.l0 kq_ x1140q x1145q x1146q x1147q p0 r1083q = some r0q) ∧ Asd (kq_ ≤ k) ∧ Asd (St b w0 W_ R (M1102q :: M1143q :: Fs)) ∧ Asd (Row (kInt .u8) 5 b w0 R (.slice A1141q x1140q.length c1142q) x1140q M1143q)) k ⟨y1124q, A1127q, c1128q, M1121q, 0, 0, 0, h1134q.keep ⟨rfl, rfl, rfl, rfl, rfl, rfl, rfl, trivial⟩, ⟨H⟩, ⟨Nat.le_refl _⟩, ⟨hS1148q⟩, ⟨hr1126q⟩⟩ ?_
      clear H hS1148q
      rintro k1139q a1136q W1137q ⟨x1140q, A1141q, c1142q, M1143q, x1145q, x1146q, x1147q, h1135q, ⟨H⟩, ⟨hkk1139q⟩, ⟨hS1138q⟩, ⟨hr1144q⟩⟩
      obtain _ | k1149q := k1139q
      · exact absurd H (by simp [huffman_Encode.l0])
      simp only [huffman_Encode.l0] at H
      refine wp_seq ?_
      refine WL.start ?_
      refine WL.block (c := 1) (m' := 1) h1135q rfl [(17, .bool (decide (x1147q < (p0.length : Int))))] (by kernel_rfl) (fun a1150q h1151q => ?_)
      clear h1135q a1136q
      refine WL.done (by kernel_rfl) ?_
      refine wp_seq ?_
      by_cases c1152q : x1147q < (p0.length : Int)
      · rw [if_pos c1152q] at H
        have hb_ : (decide (x1147q < (p0.length : Int))) = true := decide_eq_true c1152q
        try rw [hb_] at h1151q
        clear hb_
        refine wp_then h1151q rfl ?_
        refine wp_skip ?_
        refine wp_seq ?_
        refine wp_block ?_
        refine wp_seq ?_
        refine WL.start ?_
        refine WL.block (c := 2) (m' := 2) h1151q rfl [(7, .int .i64 x1147q), (18, .int .i64 x1147q)] (by kernel_rfl) (fun a1153q h1154q => ?_)
        clear h1151q a1150q
        refine WL.done (by kernel_rfl) ?_
        refine wp_seq ?_
        refine WL.start ?_
        refine WL.block (c := 2) (m' := 2) h1154q rfl [(20, .int .i64 x1147q), (19, .string (mkS p0))] (by kernel_rfl) (fun a1155q h1156q => ?_)
        clear h1154q a1153q
        by_cases c1157q : 0 ≤ x1147q
        · rw [if_pos c1157q] at H
          refine WL.op' (m := 2) h1156q rfl rfl ?_
          refine owp_run (v := .int .u8 (btI p0 x1147q)) h1156q rfl (by kernel_rfl) (run_stridx rfl rfl rfl Tryd.underlying9 (by first | assumption | omega) (by first | assumption | omega)) (fun a1158q h1159q => ?_)
          clear h1156q a1155q
          by_cases c1160q : 0 ≤ (btI p0 x1147q)
          · rw [if_pos c1160q] at H
            by_cases c1161q : (btI p0 x1147q) < (257 : Int)
            · rw [if_pos c1161q] at H
              have hi1162q : 0 ≤ (btI p0 x1147q) := by first | assumption | omega
              have hi1164q : (btI p0 x1147q) < ((257 : Nat) : Int) := by omega
              have hi1163q : (btI p0 x1147q) < (r1083q.length : Int) := by rw [hl1089q]; exact hi1164q
              refine WL.op' (m := 3) h1159q rfl rfl ?_
              refine owp_run (v := .pointer (some ((⟨g1094q, 0, none⟩ : Addr).add ((btI p0 x1147q).toNat * 2)))) h1159q rfl (by kernel_rfl) (run_idxarr (ad := ⟨g1094q, 0, none⟩) (sz := 2) rfl rfl rfl Tryd.underlying46 (by kernel_rfl) hi1162q hi1164q) (fun a1166q h1167q => ?_)
              clear h1159q a1158q
              obtain ⟨ad1168q, cs1169q, ha1170q, hr1172q, hc1171q⟩ := Rds.elemAny hr1103q.rds hi1162q (gt_get (z := z45) hi1162q hi1163q)
              obtain rfl := Option.some.inj ha1170q
              obtain rfl := k45qrd hr1172q
              refine WL.op' (m := 4) h1167q rfl rfl ?_
              refine owp_run (v := .agg #[.int .u32 ((gt z45 r1083q (btI p0 x1147q)).f0), .int .u8 ((gt z45 r1083q (btI p0 x1147q)).f1)]) h1167q rfl (by kernel_rfl) (run_loadN rfl rfl Tryd.underlying45 rfl (cs := ([.int .u32 ((gt z45 r1083q (btI p0 x1147q)).f0), .int .u8 ((gt z45 r1083q (btI p0 x1147q)).f1)] : List Value)) (by kernel_rfl) (hc1171q _ (fun _ _ hk_ => (hS1138q).pool.kn hk_))) (fun a1173q h1174q => ?_)
              clear h1167q a1166q
              refine WL.op' (m := 5) h1174q rfl rfl ?_
              refine owp_new (fun g_ => .pointer (some ⟨g_, 0, none⟩)) (.cells ([.int .u32 0, .int .u8 0] : List Value).toArray 45 (0, 0)) h1174q rfl (by kernel_rfl) (by kernel_rfl) hS1138q (fun a1175q W1177q g1178q h1176q hS1179q => ?_)
              clear h1174q a1173q
              refine WL.op' (m := 6) h1176q rfl rfl ?_
              refine owp_store (i := 0) (vs := ([.int .u32 ((gt z45 r1083q (btI p0 x1147q)).f0), .int .u8 ((gt z45 r1083q (btI p0 x1147q)).f1)] : List Value)) h1176q rfl (by kernel_rfl) rfl rfl rfl rfl (by simp [Value.oneCell']) (by kernel_rfl) hS1179q (by simp) (cs' := ([.int .u32 ((gt z45 r1083q (btI p0 x1147q)).f0), .int .u8 ((gt z45 r1083q (btI p0 x1147q)).f1)] : List Value)) rfl (fun a1180q W1182q h1181q hS1183q => ?_)
              clear h1176q a1175q
              refine WL.done (by kernel_rfl) ?_
              refine wp_seq ?_
              refine WL.start ?_
              refine WL.block (c := 2) (m' := 2) h1181q rfl [(25, .pointer (some ⟨g1178q, 1, none⟩)), (24, .int .u64 x1145q)] (by kernel_rfl) (fun a1184q h1185q => ?_)
              clear h1181q a1180q
              refine WL.op' (m := 2) h1185q rfl rfl ?_
              refine owp_run (v := .int .u8 ((gt z45 r1083q (btI p0 x1147q)).f1)) h1185q rfl (by kernel_rfl) (run_load1 rfl rfl Tryd.underlying5 rfl (hS1183q.cell (i := 1) rfl)) (fun a1186q h1187q => ?_)
              clear h1185q a1184q
              by_cases c1188q : 0 ≤ ((gt z45 r1083q (btI p0 x1147q)).f1)
              · rw [if_pos c1188q] at H
                refine WL.op' (m := 3) h1187q rfl rfl ?_
                refine owp_run (v := .int .u64 (shlI .u64 x1145q ((gt z45 r1083q (btI p0 x1147q)).f1))) h1187q rfl (by kernel_rfl) (run_shl rfl rfl rfl (by assumption)) (fun a1189q h1190q => ?_)
                clear h1187q a1186q
                refine WL.block (c := 1) (m' := 5) h1190q rfl [(28, .pointer (some ⟨g1178q, 0, none⟩))] (by kernel_rfl) (fun a1191q h1192q => ?_)
                clear h1190q a1189q
                refine WL.op' (m := 5) h1192q rfl rfl ?_
                refine owp_run (v := .int .u32 ((gt z45 r1083q (btI p0 x1147q)).f0)) h1192q rfl (by kernel_rfl) (run_load1 rfl rfl Tryd.underlying22 rfl (hS1183q.cell (i := 0) rfl)) (fun a1193q h1194q => ?_)
                clear h1192q a1191q
                refine WL.block (c := 3) (m' := 9) h1194q rfl [(5, .int .u64 (bOr .u64 (shlI .u64 x1145q ((gt z45 r1083q (btI p0 x1147q)).f1)) (IntKind.u64.wrap ((gt z45 r1083q (btI p0 x1147q)).f0)))), (31, .int .u64 (bOr .u64 (shlI .u64 x1145q ((gt z45 r1083q (btI p0 x1147q)).f1)) (IntKind.u64.wrap ((gt z45 r1083q (btI p0 x1147q)).f0)))), (30, .int .u64 (IntKind.u64.wrap ((gt z45 r1083q (btI p0 x1147q)).f0)))] (by kernel_rfl) (fun a1195q h1196q => ?_)
                clear h1194q a1193q
                refine WL.done (by kernel_rfl) ?_
                refine wp_seq ?_
                refine WL.start ?_
                refine WL.block (c := 2) (m' := 2) h1196q rfl [(33, .pointer (some ⟨g1178q, 1, none⟩)), (32, .int .i64 x1146q)] (by kernel_rfl) (fun a1197q h1198q => ?_)
                clear h1196q a1195q
                refine WL.op' (m := 2) h1198q rfl rfl ?_
                refine owp_run (v := .int .u8 ((gt z45 r1083q (btI p0 x1147q)).f1)) h1198q rfl (by kernel_rfl) (run_load1 rfl rfl Tryd.underlying5 rfl (hS1183q.cell (i := 1) rfl)) (fun a1199q h1200q => ?_)
                clear h1198q a1197q
                refine WL.block (c := 3) (m' := 6) h1200q rfl [(6, .int .i64 (IntKind.i64.wrap (x1146q + (IntKind.i64.wrap ((gt z45 r1083q (btI p0 x1147q)).f1))))), (36, .int .i64 (IntKind.i64.wrap (x1146q + (IntKind.i64.wrap ((gt z45 r1083q (btI p0 x1147q)).f1))))), (35, .int .i64 (IntKind.i64.wrap ((gt z45 r1083q (btI p0 x1147q)).f1)))] (by kernel_rfl) (fun a1201q h1202q => ?_)
                clear h1200q a1199q
                refine WL.done (by kernel_rfl) ?_
                refine wp_block ?_
                have hS1215q : St b w0 W1182q R (M1102q :: M1143q :: Fs) := hS1183q.drop_
                refine wp_loop_ghost (fun kq_ a_ W_ => ∃ (x1208q : (List Int)), ∃ (A1209q : Option Addr), ∃ (c1210q : Nat), ∃ (M1211q : Frag), ∃ (x1213q : Int), ∃ (x1214q : Int), Hd a_ 70 [(0, .string (mkS p0)), (3, .pointer (some ⟨g1094q, 0, none⟩)), (4, .slice A1209q x1208q.length c1210q), (5, .int .u64 x1213q), (6, .int .i64 x1214q), (15, .int .i64 (p0.length : Int)), (16, .int .i64 x1147q)] ∧ Asd (huffman_Encode.l1 kq_ x1208q x1213q x1214q p0 r1083q x1147q = some r0q) ∧ Asd (kq_ ≤ k1149q) ∧ Asd (St b w0 W_ R (M1102q :: M1211q :: Fs)) ∧ Asd (Row (kInt .u8) 5 b w0 R (.slice A1209q x1208q.length c1210q) x1208q M1211q)) k1149q ⟨x1140q, A1141q, c1142q, M1143q, bOr .u64 (shlI .u64 x1145q ((gt z45 r1083q (btI p0 x1147q)).f1)) (IntKind.u64.wrap ((gt z45 r1083q (btI p0 x1147q)).f0)), IntKind.i64.wrap (x1146q + (IntKind.i64.wrap ((gt z45 r1083q (btI p0 x1147q)).f1))), h1202q.keep ⟨rfl, rfl, rfl, rfl, rfl, rfl, rfl, trivial⟩, ⟨H⟩, ⟨Nat.le_refl _⟩, ⟨hS1215q⟩, ⟨hr1144q⟩⟩ ?_
                clear H hS1215q
                rintro k1207q a1204q W1205q ⟨x1208q, A1209q, c1210q, M1211q, x1213q, x1214q, h1203q, ⟨H⟩, ⟨hkk1207q⟩, ⟨hS1206q⟩, ⟨hr1212q⟩⟩
                obtain _ | k1216q := k1207q
                · exact absurd H (by simp [huffman_Encode.l1])
                simp only [huffman_Encode.l1] at H
                refine wp_seq ?_
                refine wp_seq ?_
                refine WL.start ?_
                refine WL.block (c := 2) (m' := 2) h1203q rfl [(38, .bool (decide (x1214q ≥ 8))), (37, .int .i64 x1214q)] (by kernel_rfl) (fun a1217q h1218q => ?_)
                clear h1203q a1204q
                refine WL.done (by kernel_rfl) ?_
                by_cases c1219q : x1214q ≥ 8
                · rw [if_pos c1219q] at H
                  have hb_ : (decide (x1214q ≥ 8)) = true := decide_eq_true c1219q
                  try rw [hb_] at h1218q
                  clear hb_
                  refine wp_then h1218q rfl ?_
                  refine wp_skip ?_
                  refine wp_block ?_
                  refine wp_seq ?_
                  refine WL.start ?_
                  refine WL.block (c := 3) (m' := 3) h1218q rfl [(6, .int .i64 (IntKind.i64.wrap (x1214q - 8))), (40, .int .i64 (IntKind.i64.wrap (x1214q - 8))), (39, .int .i64 x1214q)] (by kernel_rfl) (fun a1220q h1221q => ?_)
                  clear h1218q a1217q
                  refine WL.done (by kernel_rfl) ?_
                  refine wp_seq ?_
                  refine WL.start ?_
                  refine WL.block (c := 3) (m' := 3) h1221q rfl [(43, .int .i64 (IntKind.i64.wrap (x1214q - 8))), (42, .int .u64 x1213q), (41, .slice A1209q x1208q.length c1210q)] (by kernel_rfl) (fun a1222q h1223q => ?_)
                  clear h1221q a1220q
                  by_cases c1224q : 0 ≤ (IntKind.i64.wrap (x1214q - 8))
                  · rw [if_pos c1224q] at H
                    refine WL.op' (m := 3) h1223q rfl rfl ?_
                    refine owp_run (v := .int .u64 (shrI .u64 x1213q (IntKind.i64.wrap (x1214q - 8)))) h1223q rfl (by kernel_rfl) (run_shr rfl rfl rfl (by assumption)) (fun a1225q h1226q => ?_)
                    clear h1223q a1222q
                    refine WL.block (c := 1) (m' := 5) h1226q rfl [(45, .int .u8 (IntKind.u8.wrap (shrI .u64 x1213q (IntKind.i64.wrap (x1214q - 8)))))] (by kernel_rfl) (fun a1227q h1228q => ?_)
                    clear h1226q a1225q
                    refine WL.op' (m := 5) h1228q rfl rfl ?_
                    refine owp_new (fun g_ => .slice (some ⟨g_, 0, none⟩) 1 1) (.cells ([.int .u8 (IntKind.u8.wrap (shrI .u64 x1213q (IntKind.i64.wrap (x1214q - 8))))] : List Value).toArray 5 (0, 0)) h1228q rfl (by kernel_rfl) (by kernel_rfl) hS1206q (fun a1229q W1231q g1232q h1230q hS1233q => ?_)
                    clear h1228q a1227q
                    have hr1234q : Row (kInt .u8) 5 b w0 R (.slice (some ⟨g1232q, 0, none⟩) 1 1) ([IntKind.u8.wrap (shrI .u64 x1213q (IntKind.i64.wrap (x1214q - 8)))] : List Int) [(g1232q, .cells ([.int .u8 (IntKind.u8.wrap (shrI .u64 x1213q (IntKind.i64.wrap (x1214q - 8))))] : List Value).toArray 5 (0, 0))] := Row.lit (xs := ([IntKind.u8.wrap (shrI .u64 x1213q (IntKind.i64.wrap (x1214q - 8)))] : List Int)) (Mi := []) ⟨_, _, [], _, rfl, rfl, ⟨rfl, rfl⟩, ⟨rfl, rfl⟩⟩ (by simp [maxLen])
                    by_cases c1235q : x1208q.length + 1 ≤ 140737488355328
                    · rw [if_pos c1235q] at H
                      have hS1236q : St b w0 W1231q R (M1211q :: [(g1232q, .cells ([.int .u8 (IntKind.u8.wrap (shrI .u64 x1213q (IntKind.i64.wrap (x1214q - 8))))] : List Value).toArray 5 (0, 0))] :: M1102q :: Fs) := hS1233q.bring 2 rfl rfl
                      refine WL.op' (m := 6) h1230q rfl rfl ?_
                      refine owp_app_take (z := .int .u8 0) (bytes := 1) (dk := (kInt .u8)) h1230q rfl (by kernel_rfl) rfl rfl rfl hr1212q hr1234q hS1236q Tryd.underlying33 (by kernel_rfl) rfl (by decide) (by decide) (by first | omega | (simp only [List.length_cons, List.length_nil] at *; omega)) (fun a1237q W1239q v1240q M1241q h1238q hr1242q hS1243q => ?_)
                      clear h1230q a1229q
                      obtain ⟨y1244q, hy1245q, H⟩ := lete H
                      have hr1246q : Row (kInt .u8) 5 b w0 R v1240q y1244q M1241q := by rw [hy1245q]; exact hr1242q
                      clear hr1242q
                      obtain ⟨A1247q, c1248q, rfl⟩ := hr1246q.form
                      refine WL.block (c := 1) (m' := 8) h1238q rfl [(4, .slice A1247q y1244q.length c1248q)] (by kernel_rfl) (fun a1249q h1250q => ?_)
                      clear h1238q a1237q
                      refine WL.done (by kernel_rfl) ?_
                      refine WL.start ?_
                      refine WL.block (c := 2) (m' := 2) h1250q rfl [(49, .int .i64 (IntKind.i64.wrap (x1214q - 8))), (48, .int .u64 x1213q)] (by kernel_rfl) (fun a1251q h1252q => ?_)
                      clear h1250q a1249q
                      refine WL.op' (m := 2) h1252q rfl rfl ?_
                      refine owp_run (v := .int .u64 (shlI .u64 1 (IntKind.i64.wrap (x1214q - 8)))) h1252q rfl (by kernel_rfl) (run_shl rfl rfl rfl (by assumption)) (fun a1253q h1254q => ?_)
                      clear h1252q a1251q
                      refine WL.block (c := 3) (m' := 6) h1254q rfl [(5, .int .u64 (bAnd .u64 x1213q (IntKind.u64.wrap ((shlI .u64 1 (IntKind.i64.wrap (x1214q - 8))) - 1)))), (52, .int .u64 (bAnd .u64 x1213q (IntKind.u64.wrap ((shlI .u64 1 (IntKind.i64.wrap (x1214q - 8))) - 1)))), (51, .int .u64 (IntKind.u64.wrap ((shlI .u64 1 (IntKind.i64.wrap (x1214q - 8))) - 1)))] (by kernel_rfl) (fun a1255q h1256q => ?_)
                      clear h1254q a1253q
                      refine WL.done (by kernel_rfl) ?_
                      have hS1257q : St b w0 W1239q R (M1102q :: M1241q :: Fs) := hS1243q.bring 1 rfl rfl
                      exact ⟨k1216q, by omega, y1244q, A1247q, c1248q, M1241q, bAnd .u64 x1213q (IntKind.u64.wrap ((shlI .u64 1 (IntKind.i64.wrap (x1214q - 8))) - 1)), IntKind.i64.wrap (x1214q - 8), h1256q.keep ⟨rfl, rfl, rfl, rfl, rfl, rfl, rfl, trivial⟩, ⟨H⟩, ⟨by omega⟩, ⟨hS1257q⟩, ⟨hr1246q⟩⟩
                    · rw [if_neg c1235q] at H
                      cases H
                  · rw [if_neg c1224q] at H
                    cases H
                · rw [if_neg c1219q] at H
                  have hb_ : (decide (x1214q ≥ 8)) = false := decide_eq_false c1219q
                  try rw [hb_] at h1218q
                  clear hb_
                  refine wp_else h1218q rfl ?_
                  refine wp_exit ?_
                  refine WL.start ?_
                  refine WL.block (c := 2) (m' := 2) h1218q rfl [(16, .int .i64 (IntKind.i64.wrap (x1147q + 1))), (53, .int .i64 (IntKind.i64.wrap (x1147q + 1)))] (by kernel_rfl) (fun a1258q h1259q => ?_)
                  clear h1218q a1217q
                  refine WL.done (by kernel_rfl) ?_
                  exact ⟨k1216q, by omega, x1208q, A1209q, c1210q, M1211q, x1213q, x1214q, IntKind.i64.wrap (x1147q + 1), h1259q.keep ⟨rfl, rfl, rfl, rfl, rfl, rfl, rfl, trivial⟩, ⟨H⟩, ⟨by omega⟩, ⟨hS1206q⟩, ⟨hr1212q⟩⟩
              · rw [if_neg c1188q] at H
                cases H
            · rw [if_neg c1161q] at H
              cases H
          · rw [if_neg c1160q] at H
            cases H
        · rw [if_neg c1157q] at H
          cases H
      · rw [if_neg c1152q] at H
        have hb_ : (decide (x1147q < (p0.length : Int))) = false := decide_eq_false c1152q
        try rw [hb_] at h1151q
        clear hb_
        refine wp_else h1151q rfl ?_
        refine wp_exit ?_
        refine wp_seq ?_
        refine wp_seq ?_
        refine WL.start ?_
        refine WL.block (c := 2) (m' := 2) h1151q rfl [(55, .bool (decide (x1146q > 0))), (54, .int .i64 x1146q)] (by kernel_rfl) (fun a1260q h1261q => ?_)
        clear h1151q a1150q
        refine WL.done (by kernel_rfl) ?_
        by_cases c1262q : x1146q > 0
        · rw [if_pos c1262q] at H
          have hb_ : (decide (x1146q > 0)) = true := decide_eq_true c1262q
          try rw [hb_] at h1261q
          clear hb_
          refine wp_then h1261q rfl ?_
          refine wp_seq ?_
          refine WL.start ?_
          refine WL.block (c := 3) (m' := 3) h1261q rfl [(9, .int .i64 (IntKind.i64.wrap (8 - x1146q))), (57, .int .i64 (IntKind.i64.wrap (8 - x1146q))), (56, .int .i64 x1146q)] (by kernel_rfl) (fun a1263q h1264q => ?_)
          clear h1261q a1260q
          refine WL.done (by kernel_rfl) ?_
          refine WT.start 12 (fun w_ => True) (by kernel_rfl) #[false, false, false, false, false, false, false, false, false, false, false, false] 12 rfl rfl ?_
          have hS1306q := hS1138q.drew
          refine WT.take 0 (listed' := #[true, false, false, false, false, false, false, false, false, false, false, false]) h1264q rfl rfl (by kernel_rfl) rfl rfl (.slice A1141q x1140q.length c1142q) (fun _ _ => by kernel_rfl) trivial (fun _ _ _ h_ => h_) (fun a1307q h1308q => ?_)
          clear h1264q a1263q
          refine WT.take 1 (listed' := #[true, true, false, false, false, false, false, false, false, false, false, false]) h1308q rfl rfl (by kernel_rfl) rfl rfl (.int .u64 x1145q) (fun _ _ => by kernel_rfl) trivial (fun _ _ _ h_ => h_) (fun a1309q h1310q => ?_)
          clear h1308q a1307q
          refine WT.take 2 (listed' := #[true, true, true, false, false, false, false, false, false, false, false, false]) h1310q rfl rfl (by kernel_rfl) rfl rfl (.int .i64 (IntKind.i64.wrap (8 - x1146q))) (fun _ _ => by kernel_rfl) trivial (fun _ _ _ h_ => h_) (fun a1311q h1312q => ?_)
          clear h1310q a1309q
          refine WT.take 4 (listed' := #[true, true, true, false, true, false, false, false, false, false, false, false]) h1312q rfl rfl (by kernel_rfl) rfl rfl (.int .i64 (IntKind.i64.wrap (8 - x1146q))) (fun _ _ => by kernel_rfl) trivial (fun _ _ _ h_ => h_) (fun a1313q h1314q => ?_)
          clear h1312q a1311q
          by_cases c1315q : 0 ≤ (IntKind.i64.wrap (8 - x1146q))
          · rw [if_pos c1315q] at H
            refine WT.take 3 (listed' := #[true, true, true, true, true, false, false, false, false, false, false, false]) h1314q rfl rfl (by kernel_rfl) rfl rfl (.int .u64 (shlI .u64 x1145q (IntKind.i64.wrap (8 - x1146q)))) (fun w_ hs_ => (run_shl rfl rfl rfl (by assumption))) trivial (fun _ _ _ h_ => h_) (fun a1316q h1317q => ?_)
            clear h1314q a1313q
            refine WT.take 5 (listed' := #[true, true, true, true, true, true, false, false, false, false, false, false]) h1317q rfl rfl (by kernel_rfl) rfl rfl (.int .u64 (shlI .u64 1 (IntKind.i64.wrap (8 - x1146q)))) (fun w_ hs_ => (run_shl rfl rfl rfl (by assumption))) trivial (fun _ _ _ h_ => h_) (fun a1318q h1319q => ?_)
            clear h1317q a1316q
            refine WT.take 6 (listed' := #[true, true, true, true, true, true, true, false, false, false, false, false]) h1319q rfl rfl (by kernel_rfl) rfl rfl (.int .u64 (IntKind.u64.wrap ((shlI .u64 1 (IntKind.i64.wrap (8 - x1146q))) - 1))) (fun _ _ => by kernel_rfl) trivial (fun _ _ _ h_ => h_) (fun a1320q h1321q => ?_)
            clear h1319q a1318q
            refine WT.take 7 (listed' := #[true, true, true, true, true, true, true, true, false, false, false, false]) h1321q rfl rfl (by kernel_rfl) rfl rfl (.int .u64 (bOr .u64 (shlI .u64 x1145q (IntKind.i64.wrap (8 - x1146q))) (IntKind.u64.wrap ((shlI .u64 1 (IntKind.i64.wrap (8 - x1146q))) - 1)))) (fun _ _ => by kernel_rfl) trivial (fun _ _ _ h_ => h_) (fun a1322q h1323q => ?_)
            clear h1321q a1320q
            refine WT.take 8 (listed' := #[true, true, true, true, true, true, true, true, true, false, false, false]) h1323q rfl rfl (by kernel_rfl) rfl rfl (.int .u8 (IntKind.u8.wrap (bOr .u64 (shlI .u64 x1145q (IntKind.i64.wrap (8 - x1146q))) (IntKind.u64.wrap ((shlI .u64 1 (IntKind.i64.wrap (8 - x1146q))) - 1))))) (fun _ _ => by kernel_rfl) trivial (fun _ _ _ h_ => h_) (fun a1324q h1325q => ?_)
            clear h1323q a1322q
            refine WT.op 9 (listed' := #[true, true, true, true, true, true, true, true, true, true, false, false]) h1325q rfl (by kernel_rfl) rfl rfl ?_
            refine owp_new (fun g_ => .slice (some ⟨g_, 0, none⟩) 1 1) (.cells ([.int .u8 (IntKind.u8.wrap (bOr .u64 (shlI .u64 x1145q (IntKind.i64.wrap (8 - x1146q))) (IntKind.u64.wrap ((shlI .u64 1 (IntKind.i64.wrap (8 - x1146q))) - 1))))] : List Value).toArray 5 (0, 0)) h1325q rfl (by kernel_rfl) (by kernel_rfl) hS1306q (fun a1326q W1328q g1329q h1327q hS1330q => ?_)
            clear h1325q a1324q
            have hr1331q : Row (kInt .u8) 5 b w0 R (.slice (some ⟨g1329q, 0, none⟩) 1 1) ([IntKind.u8.wrap (bOr .u64 (shlI .u64 x1145q (IntKind.i64.wrap (8 - x1146q))) (IntKind.u64.wrap ((shlI .u64 1 (IntKind.i64.wrap (8 - x1146q))) - 1)))] : List Int) [(g1329q, .cells ([.int .u8 (IntKind.u8.wrap (bOr .u64 (shlI .u64 x1145q (IntKind.i64.wrap (8 - x1146q))) (IntKind.u64.wrap ((shlI .u64 1 (IntKind.i64.wrap (8 - x1146q))) - 1))))] : List Value).toArray 5 (0, 0))] := Row.lit (xs := ([IntKind.u8.wrap (bOr .u64 (shlI .u64 x1145q (IntKind.i64.wrap (8 - x1146q))) (IntKind.u64.wrap ((shlI .u64 1 (IntKind.i64.wrap (8 - x1146q))) - 1)))] : List Int)) (Mi := []) ⟨_, _, [], _, rfl, rfl, ⟨rfl, rfl⟩, ⟨rfl, rfl⟩⟩ (by simp [maxLen])
            refine ⟨.inr trivial, ?_⟩
            by_cases c1332q : x1140q.length + 1 ≤ 140737488355328
            · rw [if_pos c1332q] at H
              have hS1333q : St b w0 W1328q R (M1143q :: [(g1329q, .cells ([.int .u8 (IntKind.u8.wrap (bOr .u64 (shlI .u64 x1145q (IntKind.i64.wrap (8 - x1146q))) (IntKind.u64.wrap ((shlI .u64 1 (IntKind.i64.wrap (8 - x1146q))) - 1))))] : List Value).toArray 5 (0, 0))] :: M1102q :: Fs) := hS1330q.bring 2 rfl rfl
              refine WT.op 10 (listed' := #[true, true, true, true, true, true, true, true, true, true, true, false]) h1327q rfl (by kernel_rfl) rfl rfl ?_
              refine owp_app_take (z := .int .u8 0) (bytes := 1) (dk := (kInt .u8)) h1327q rfl (by kernel_rfl) rfl rfl rfl hr1144q hr1331q hS1333q Tryd.underlying33 (by kernel_rfl) rfl (by decide) (by decide) (by first | omega | (simp only [List.length_cons, List.length_nil] at *; omega)) (fun a1334q W1336q v1337q M1338q h1335q hr1339q hS1340q => ?_)
              clear h1327q a1326q
              obtain ⟨y1341q, hy1342q, H⟩ := lete H
              have hr1343q : Row (kInt .u8) 5 b w0 R v1337q y1341q M1338q := by rw [hy1342q]; exact hr1339q
              clear hr1339q
              obtain ⟨A1344q, c1345q, rfl⟩ := hr1343q.form
              refine ⟨.inr trivial, ?_⟩
              refine WT.take 11 (listed' := #[true, true, true, true, true, true, true, true, true, true, true, true]) h1335q rfl rfl (by kernel_rfl) rfl rfl (.slice A1344q y1341q.length c1345q) (fun _ _ => by kernel_rfl) trivial (fun _ _ _ h_ => h_) (fun a1346q h1347q => ?_)
              clear h1335q a1334q
              refine WT.done (by kernel_rfl) ?_
              refine wp_seq ?_
              refine WL.start ?_
              refine WL.block (c := 2) (m' := 2) h1347q rfl [(2, .slice A1344q y1341q.length c1345q), (69, .slice A1344q y1341q.length c1345q)] (by kernel_rfl) (fun a1348q h1349q => ?_)
              clear h1347q a1346q
              refine WL.done (by kernel_rfl) ?_
              refine wp_ret ?_
              have hS1350q : St b w0 W1336q R (M1102q :: M1338q :: Fs) := hS1340q.bring 1 rfl rfl
              have hS1351q : St b w0 W1336q R (M1338q :: Fs) := hS1350q.drop_
              obtain rfl := Option.some.inj H
              repeat (first | refine then_ret ?_ | refine inBlock_ret ?_ | refine inBlock_go ?_)
              refine body_ret (v := .slice A1344q y1341q.length c1345q) h1349q (by kernel_rfl) (by kernel_rfl) ?_
              exact ⟨.slice A1344q y1341q.length c1345q, M1338q, rfl, hr1343q, hS1351q⟩
            · rw [if_neg c1332q] at H
              cases H
          · rw [if_neg c1315q] at H
            cases H
        · rw [if_neg c1262q] at H
          have hb_ : (decide (x1146q > 0)) = false := decide_eq_false c1262q
          try rw [hb_] at h1261q
          clear hb_
          refine wp_else h1261q rfl ?_
          refine wp_skip ?_
          refine wp_seq ?_
          refine WL.start ?_
          refine WL.block (c := 2) (m' := 2) h1261q rfl [(2, .slice A1141q x1140q.length c1142q), (69, .slice A1141q x1140q.length c1142q)] (by kernel_rfl) (fun a1352q h1353q => ?_)
          clear h1261q a1260q
          refine WL.done (by kernel_rfl) ?_
          refine wp_ret ?_
          have hS1354q : St b w0 W1137q R (M1143q :: Fs) := hS1138q.drop_
          obtain rfl := Option.some.inj H
          repeat (first | refine then_ret ?_ | refine inBlock_ret ?_ | refine inBlock_go ?_)
          refine body_ret (v := .slice A1141q x1140q.length c1142q) h1353q (by kernel_rfl) (by kernel_rfl) ?_
          exact ⟨.slice A1141q x1140q.length c1142q, M1143q, rfl, hr1144q, hS1354q⟩
    · rw [if_neg c1116q] at H
      cases H
  · rw [if_neg c1115q] at H
    cases H

/-! ### louver/louverlaw03.fixed -/
def louverlaw03qfixed.f (k : Nat)  : Option (Bool) := bnd2 (huffman_Code.f k 48) fun r69q r70q => (if r69q = 0 then (if r70q = 5 then (bnd1 (huffman_Encode.f k ([97] : List UInt8)) fun r90q => (some (decide ((toS r90q) = ([31] : List UInt8))))) else (some false)) else (some false))
set_option maxHeartbeats 2000000 in
set_option maxRecDepth 100000 in
theorem louverlaw03qfixed.calls (k : Nat) {b : Nat} {w0 W : World} {R : Frag} {Fs : List Frag}   {r0q : Bool} (hg0 : Rds (kInt .u8) b w0 [] (.slice (some ⟨0, 0, none⟩) 257 257) G0) (H : louverlaw03qfixed.f k = some r0q) (hS : St b w0 W R (Fs)) :
    Calls Tryd.prog 10 ([] : List Value).toArray W (fun e W' => e = .returned (.bool r0q) ∧ St b w0 W' R (Fs)) := by
  unfold louverlaw03qfixed.f at H
  refine calls_enter Tryd.func10 rfl 18 rfl (by kernel_rfl) (fun a h => ?_)
  refine wp_seq ?_
  refine WL.start ?_
  refine WL.block (c := 1) (m' := 1) h rfl [(0, .bool false)] (by kernel_rfl) (fun a66q h67q => ?_)
  refine WL.done (by kernel_rfl) ?_
  refine wp_seq ?_
  refine WL.start ?_
  obtain ⟨r69q, r70q, A68q, H⟩ := bind2 H
  refine WL.op' (m := 0) h67q rfl rfl ?_
  refine owp_call [.int .i64 48] h67q rfl (by kernel_rfl) rfl Tryd.func9 (by kernel_rfl) rfl (by kernel_rfl) (huffman_Code.calls k hg0 A68q hS) (fun e72q W71q hp73q => ?_)
  obtain ⟨rfl, hS76q⟩ := hp73q
  refine ⟨_, rfl, fun a74q h75q => ?_⟩
  clear h67q a66q
  refine WL.block (c := 5) (m' := 6) h75q rfl [(2, .int .i64 r70q), (1, .int .u32 r69q), (6, .int .i64 r70q), (5, .int .u32 r69q), (3, .tuple #[.int .u32 r69q, .int .i64 r70q])] (by kernel_rfl) (fun a77q h78q => ?_)
  clear h75q a74q
  refine WL.done (by kernel_rfl) ?_
  refine wp_seq ?_
  refine WL.start ?_
  refine WL.block (c := 3) (m' := 3) h78q rfl [(9, .bool (decide (r69q = 0))), (8, .bool (decide (r69q = 0))), (7, .int .u32 r69q)] (by kernel_rfl) (fun a79q h80q => ?_)
  clear h78q a77q
  by_cases c81q : r69q = 0
  · rw [if_pos c81q] at H
    have hb_ : (decide (r69q = 0)) = true := decide_eq_true c81q
    try rw [hb_] at h80q
    clear hb_
    refine WL.op' (m := 3) h80q rfl rfl (owp_run h80q rfl (by kernel_rfl) (v := .int .i64 r70q) (by kernel_rfl) (fun a82q h83q => ?_))
    clear h80q a79q
    refine WL.op' (m := 4) h83q rfl rfl (owp_run h83q rfl (by kernel_rfl) (v := .bool (decide (r70q = 5))) (by kernel_rfl) (fun a84q h85q => ?_))
    clear h83q a82q
    refine WL.block (c := 2) (m' := 7) h85q rfl [(13, .bool (decide (r70q = 5))), (12, .bool (decide (r70q = 5)))] (by kernel_rfl) (fun a86q h87q => ?_)
    clear h85q a84q
    by_cases c88q : r70q = 5
    · rw [if_pos c88q] at H
      have hb_ : (decide (r70q = 5)) = true := decide_eq_true c88q
      try rw [hb_] at h87q
      clear hb_
      obtain ⟨r90q, A89q, H⟩ := bind1 H
      refine WL.op' (m := 7) h87q rfl rfl ?_
      refine owp_call [.string (mkS ([97] : List UInt8))] h87q rfl (by kernel_rfl) rfl Tryd.func13 (by kernel_rfl) rfl (by kernel_rfl) (huffman_Encode.calls k hg0 A89q hS76q) (fun e92q W91q hp93q => ?_)
      obtain ⟨v96q, M97q, rfl, hr98q, hS99q⟩ := hp93q
      refine ⟨_, rfl, fun a94q h95q => ?_⟩
      clear h87q a86q
      obtain ⟨A100q, c101q, rfl⟩ := hr98q.form
      refine WL.op' (m := 8) h95q rfl rfl ?_
      refine owp_run (v := .string (mkS (toS r90q))) h95q rfl (by kernel_rfl) (run_tostr rfl rfl hr98q.rds (fun _ _ hk_ => (hS99q).pool.kn hk_) Tryd.underlying33 Tryd.underlying5 Tryd.underlying9) (fun a102q h103q => ?_)
      clear h95q a94q
      refine WL.op' (m := 9) h103q rfl rfl ?_
      refine owp_run (v := .bool (decide ((toS r90q) = ([31] : List UInt8)))) h103q rfl (by kernel_rfl) (run_streq rfl rfl rfl) (fun a104q h105q => ?_)
      clear h103q a102q
      refine WL.block (c := 2) (m' := 12) h105q rfl [(0, .bool (decide ((toS r90q) = ([31] : List UInt8)))), (17, .bool (decide ((toS r90q) = ([31] : List UInt8))))] (by kernel_rfl) (fun a106q h107q => ?_)
      clear h105q a104q
      refine WL.done (by kernel_rfl) ?_
      refine wp_ret ?_
      have hS108q : St b w0 W91q R (Fs) := hS99q.drop_
      obtain rfl := Option.some.inj H
      repeat (first | refine then_ret ?_ | refine inBlock_ret ?_ | refine inBlock_go ?_)
      refine body_ret (v := .bool (decide ((toS r90q) = ([31] : List UInt8)))) h107q (by kernel_rfl) (by kernel_rfl) ?_
      exact ⟨rfl, hS108q⟩
    · rw [if_neg c88q] at H
      have hb_ : (decide (r70q = 5)) = false := decide_eq_false c88q
      try rw [hb_] at h87q
      clear hb_
      refine WL.skipped (m := 7) h87q rfl rfl (by kernel_rfl) rfl (fun a109q h110q => ?_)
      clear h87q a86q
      refine WL.skipped (m := 8) h110q rfl rfl (by kernel_rfl) rfl (fun a111q h112q => ?_)
      clear h110q a109q
      refine WL.skipped (m := 9) h112q rfl rfl (by kernel_rfl) rfl (fun a113q h114q => ?_)
      clear h112q a111q
      refine WL.block (c := 2) (m' := 12) h114q rfl [(0, .bool false), (17, .bool false)] (by kernel_rfl) (fun a115q h116q => ?_)
      clear h114q a113q
      refine WL.done (by kernel_rfl) ?_
      refine wp_ret ?_
      obtain rfl := Option.some.inj H
      repeat (first | refine then_ret ?_ | refine inBlock_ret ?_ | refine inBlock_go ?_)
      refine body_ret (v := .bool false) h116q (by kernel_rfl) (by kernel_rfl) ?_
      exact ⟨rfl, hS76q⟩
  · rw [if_neg c81q] at H
    have hb_ : (decide (r69q = 0)) = false := decide_eq_false c81q
    try rw [hb_] at h80q
    clear hb_
    refine WL.skipped (m := 3) h80q rfl rfl (by kernel_rfl) rfl (fun a117q h118q => ?_)
    clear h80q a79q
    refine WL.skipped (m := 4) h118q rfl rfl (by kernel_rfl) rfl (fun a119q h120q => ?_)
    clear h118q a117q
    refine WL.block (c := 2) (m' := 7) h120q rfl [(13, .bool false), (12, .bool false)] (by kernel_rfl) (fun a121q h122q => ?_)
    clear h120q a119q
    refine WL.skipped (m := 7) h122q rfl rfl (by kernel_rfl) rfl (fun a123q h124q => ?_)
    clear h122q a121q
    refine WL.skipped (m := 8) h124q rfl rfl (by kernel_rfl) rfl (fun a125q h126q => ?_)
    clear h124q a123q
    refine WL.skipped (m := 9) h126q rfl rfl (by kernel_rfl) rfl (fun a127q h128q => ?_)
    clear h126q a125q
    refine WL.block (c := 2) (m' := 12) h128q rfl [(0, .bool false), (17, .bool false)] (by kernel_rfl) (fun a129q h130q => ?_)
    clear h128q a127q
    refine WL.done (by kernel_rfl) ?_
    refine wp_ret ?_
    obtain rfl := Option.some.inj H
    repeat (first | refine then_ret ?_ | refine inBlock_ret ?_ | refine inBlock_go ?_)
    refine body_ret (v := .bool false) h130q (by kernel_rfl) (by kernel_rfl) ?_
    exact ⟨rfl, hS76q⟩

/-! ### louver/louverlaw03.HuffmanFull -/
def louverlaw03qHuffmanFull.l0 : Nat → Int → Int → Int → Option (Bool)
  | 0, _, _, _ => none
  | k + 1, x352q, x353q, p0 => if x353q < 257 then (bnd2 (huffman_Code.f k x353q) fun r363q r364q => (if r364q < 1 then (some false) else (if r364q > 30 then (some false) else (if 0 ≤ (IntKind.i64.wrap (30 - r364q)) then (louverlaw03qHuffmanFull.l0 k (IntKind.u64.wrap (x352q + (shlI .u64 1 (IntKind.i64.wrap (30 - r364q))))) (IntKind.i64.wrap (x353q + 1)) p0) else (none))))) else (bnd2 (huffman_Code.f k p0) fun r405q r406q => (bnd1 (louverlaw03qfixed.f k) fun r416q => (if r416q = true then (if x352q = 1073741824 then (if p0 < 0 then (some ((decide (r406q = 0)) == true)) else (some ((decide (r406q = 0)) == (decide (p0 > 256))))) else (some false)) else (some false))))
def louverlaw03qHuffmanFull.f (k : Nat) (p0 : Int) : Option (Bool) := louverlaw03qHuffmanFull.l0 k 0 0 p0
set_option maxHeartbeats 2000000 in
set_option maxRecDepth 100000 in
theorem louverlaw03qHuffmanFull.calls (k : Nat) {b : Nat} {w0 W : World} {R : Frag} {Fs : List Frag} {p0 : Int}  {r0q : Bool} (hg0 : Rds (kInt .u8) b w0 [] (.slice (some ⟨0, 0, none⟩) 257 257) G0) (H : louverlaw03qHuffmanFull.f k p0 = some r0q) (hS : St b w0 W R (Fs)) :
    Calls Tryd.prog 4 ([.int .i64 p0] : List Value).toArray W (fun e W' => e = .returned (.bool r0q) ∧ St b w0 W' R (Fs)) := by
  unfold louverlaw03qHuffmanFull.f at H
  refine calls_enter Tryd.func4 rfl 50 rfl (by kernel_rfl) (fun a h => ?_)
  refine wp_seq ?_
  refine WL.start ?_
  refine WL.block (c := 1) (m' := 1) h rfl [(2, .bool false)] (by kernel_rfl) (fun a341q h342q => ?_)
  refine WL.done (by kernel_rfl) ?_
  refine wp_seq ?_
  refine WL.start ?_
  refine WL.block (c := 1) (m' := 1) h342q rfl [(3, .int .u64 0)] (by kernel_rfl) (fun a343q h344q => ?_)
  clear h342q a341q
  refine WL.done (by kernel_rfl) ?_
  refine wp_seq ?_
  refine wp_seq ?_
  refine WL.start ?_
  refine WL.block (c := 1) (m' := 1) h344q rfl [(9, .int .i64 0)] (by kernel_rfl) (fun a345q h346q => ?_)
  clear h344q a343q
  refine WL.done (by kernel_rfl) ?_
  refine wp_block ?_
  refine wp_loop_ghost (fun kq_ a_ W_ => ∃ (x352q : Int), ∃ (x353q : Int), Hd a_ 50 [(0, .int .i64 p0), (3, .int .u64 x352q), (9, .int .i64 x353q)] ∧ Asd (louverlaw03qHuffmanFull.l0 kq_ x352q x353q p0 = some r0q) ∧ Asd (kq_ ≤ k) ∧ Asd (St b w0 W_ R (Fs))) k ⟨0, 0, h346q.keep ⟨rfl, rfl, rfl, trivial⟩, ⟨H⟩, ⟨Nat.le_refl _⟩, ⟨hS⟩⟩ ?_
  clear H hS
  rintro k351q a348q W349q ⟨x352q, x353q, h347q, ⟨H⟩, ⟨hkk351q⟩, ⟨hS350q⟩⟩
  obtain _ | k354q := k351q
  · exact absurd H (by simp [louverlaw03qHuffmanFull.l0])
  simp only [louverlaw03qHuffmanFull.l0] at H
  refine wp_seq ?_
  refine WL.start ?_
  refine WL.block (c := 1) (m' := 1) h347q rfl [(10, .bool (decide (x353q < 257)))] (by kernel_rfl) (fun a355q h356q => ?_)
  clear h347q a348q
  refine WL.done (by kernel_rfl) ?_
  refine wp_seq ?_
  by_cases c357q : x353q < 257
  · rw [if_pos c357q] at H
    have hb_ : (decide (x353q < 257)) = true := decide_eq_true c357q
    try rw [hb_] at h356q
    clear hb_
    refine wp_then h356q rfl ?_
    refine wp_skip ?_
    refine wp_seq ?_
    refine wp_block ?_
    refine wp_seq ?_
    refine WL.start ?_
    refine WL.block (c := 2) (m' := 2) h356q rfl [(4, .int .i64 x353q), (11, .int .i64 x353q)] (by kernel_rfl) (fun a358q h359q => ?_)
    clear h356q a355q
    refine WL.done (by kernel_rfl) ?_
    refine wp_seq ?_
    refine WL.start ?_
    refine WL.block (c := 1) (m' := 1) h359q rfl [(13, .int .i64 x353q)] (by kernel_rfl) (fun a360q h361q => ?_)
    clear h359q a358q
    obtain ⟨r363q, r364q, A362q, H⟩ := bind2 H
    refine WL.op' (m := 1) h361q rfl rfl ?_
    refine owp_call [.int .i64 x353q] h361q rfl (by kernel_rfl) rfl Tryd.func9 (by kernel_rfl) rfl (by kernel_rfl) (huffman_Code.calls k354q hg0 A362q hS350q) (fun e366q W365q hp367q => ?_)
    obtain ⟨rfl, hS370q⟩ := hp367q
    refine ⟨_, rfl, fun a368q h369q => ?_⟩
    clear h361q a360q
    refine WL.block (c := 5) (m' := 7) h369q rfl [(6, .int .i64 r364q), (5, .int .u32 r363q), (16, .int .i64 r364q), (15, .int .u32 r363q), (12, .tuple #[.int .u32 r363q, .int .i64 r364q])] (by kernel_rfl) (fun a371q h372q => ?_)
    clear h369q a368q
    refine WL.done (by kernel_rfl) ?_
    refine wp_seq ?_
    refine wp_seq ?_
    refine WL.start ?_
    refine WL.block (c := 3) (m' := 3) h372q rfl [(19, .bool (decide (r364q < 1))), (18, .bool (decide (r364q < 1))), (17, .int .i64 r364q)] (by kernel_rfl) (fun a373q h374q => ?_)
    clear h372q a371q
    by_cases c375q : r364q < 1
    · rw [if_pos c375q] at H
      have hb_ : (decide (r364q < 1)) = true := decide_eq_true c375q
      try rw [hb_] at h374q
      clear hb_
      refine WL.skipped (m := 3) h374q rfl rfl (by kernel_rfl) rfl (fun a376q h377q => ?_)
      clear h374q a373q
      refine WL.skipped (m := 4) h377q rfl rfl (by kernel_rfl) rfl (fun a378q h379q => ?_)
      clear h377q a376q
      refine WL.block (c := 1) (m' := 6) h379q rfl [(22, .bool true)] (by kernel_rfl) (fun a380q h381q => ?_)
      clear h379q a378q
      refine WL.done (by kernel_rfl) ?_
      refine wp_then h381q rfl ?_
      refine wp_seq ?_
      refine WL.start ?_
      refine WL.block (c := 1) (m' := 1) h381q rfl [(2, .bool false)] (by kernel_rfl) (fun a382q h383q => ?_)
      clear h381q a380q
      refine WL.done (by kernel_rfl) ?_
      refine wp_ret ?_
      obtain rfl := Option.some.inj H
      repeat (first | refine then_ret ?_ | refine inBlock_ret ?_ | refine inBlock_go ?_)
      refine body_ret (v := .bool false) h383q (by kernel_rfl) (by kernel_rfl) ?_
      exact ⟨rfl, hS370q⟩
    · rw [if_neg c375q] at H
      have hb_ : (decide (r364q < 1)) = false := decide_eq_false c375q
      try rw [hb_] at h374q
      clear hb_
      refine WL.op' (m := 3) h374q rfl rfl (owp_run h374q rfl (by kernel_rfl) (v := .int .i64 r364q) (by kernel_rfl) (fun a384q h385q => ?_))
      clear h374q a373q
      refine WL.op' (m := 4) h385q rfl rfl (owp_run h385q rfl (by kernel_rfl) (v := .bool (decide (r364q > 30))) (by kernel_rfl) (fun a386q h387q => ?_))
      clear h385q a384q
      refine WL.block (c := 1) (m' := 6) h387q rfl [(22, .bool (decide (r364q > 30)))] (by kernel_rfl) (fun a388q h389q => ?_)
      clear h387q a386q
      refine WL.done (by kernel_rfl) ?_
      by_cases c390q : r364q > 30
      · rw [if_pos c390q] at H
        have hb_ : (decide (r364q > 30)) = true := decide_eq_true c390q
        try rw [hb_] at h389q
        clear hb_
        refine wp_then h389q rfl ?_
        refine wp_seq ?_
        refine WL.start ?_
        refine WL.block (c := 1) (m' := 1) h389q rfl [(2, .bool false)] (by kernel_rfl) (fun a391q h392q => ?_)
        clear h389q a388q
        refine WL.done (by kernel_rfl) ?_
        refine wp_ret ?_
        obtain rfl := Option.some.inj H
        repeat (first | refine then_ret ?_ | refine inBlock_ret ?_ | refine inBlock_go ?_)
        refine body_ret (v := .bool false) h392q (by kernel_rfl) (by kernel_rfl) ?_
        exact ⟨rfl, hS370q⟩
      · rw [if_neg c390q] at H
        have hb_ : (decide (r364q > 30)) = false := decide_eq_false c390q
        try rw [hb_] at h389q
        clear hb_
        refine wp_else h389q rfl ?_
        refine wp_skip ?_
        refine WL.start ?_
        refine WL.block (c := 3) (m' := 3) h389q rfl [(25, .int .i64 (IntKind.i64.wrap (30 - r364q))), (24, .int .i64 r364q), (23, .int .u64 x352q)] (by kernel_rfl) (fun a393q h394q => ?_)
        clear h389q a388q
        by_cases c395q : 0 ≤ (IntKind.i64.wrap (30 - r364q))
        · rw [if_pos c395q] at H
          refine WL.op' (m := 3) h394q rfl rfl ?_
          refine owp_run (v := .int .u64 (shlI .u64 1 (IntKind.i64.wrap (30 - r364q)))) h394q rfl (by kernel_rfl) (run_shl rfl rfl rfl (by assumption)) (fun a396q h397q => ?_)
          clear h394q a393q
          refine WL.block (c := 2) (m' := 6) h397q rfl [(3, .int .u64 (IntKind.u64.wrap (x352q + (shlI .u64 1 (IntKind.i64.wrap (30 - r364q)))))), (27, .int .u64 (IntKind.u64.wrap (x352q + (shlI .u64 1 (IntKind.i64.wrap (30 - r364q))))))] (by kernel_rfl) (fun a398q h399q => ?_)
          clear h397q a396q
          refine WL.done (by kernel_rfl) ?_
          refine WL.start ?_
          refine WL.block (c := 2) (m' := 2) h399q rfl [(9, .int .i64 (IntKind.i64.wrap (x353q + 1))), (28, .int .i64 (IntKind.i64.wrap (x353q + 1)))] (by kernel_rfl) (fun a400q h401q => ?_)
          clear h399q a398q
          refine WL.done (by kernel_rfl) ?_
          exact ⟨k354q, by omega, IntKind.u64.wrap (x352q + (shlI .u64 1 (IntKind.i64.wrap (30 - r364q)))), IntKind.i64.wrap (x353q + 1), h401q.keep ⟨rfl, rfl, rfl, trivial⟩, ⟨H⟩, ⟨by omega⟩, ⟨hS370q⟩⟩
        · rw [if_neg c395q] at H
          cases H
  · rw [if_neg c357q] at H
    have hb_ : (decide (x353q < 257)) = false := decide_eq_false c357q
    try rw [hb_] at h356q
    clear hb_
    refine wp_else h356q rfl ?_
    refine wp_exit ?_
    refine wp_seq ?_
    refine WL.start ?_
    refine WL.block (c := 1) (m' := 1) h356q rfl [(30, .int .i64 p0)] (by kernel_rfl) (fun a402q h403q => ?_)
    clear h356q a355q
    obtain ⟨r405q, r406q, A404q, H⟩ := bind2 H
    refine WL.op' (m := 1) h403q rfl rfl ?_
    refine owp_call [.int .i64 p0] h403q rfl (by kernel_rfl) rfl Tryd.func9 (by kernel_rfl) rfl (by kernel_rfl) (huffman_Code.calls k354q hg0 A404q hS350q) (fun e408q W407q hp409q => ?_)
    obtain ⟨rfl, hS412q⟩ := hp409q
    refine ⟨_, rfl, fun a410q h411q => ?_⟩
    clear h403q a402q
    refine WL.block (c := 5) (m' := 7) h411q rfl [(8, .int .i64 r406q), (7, .int .u32 r405q), (33, .int .i64 r406q), (32, .int .u32 r405q), (29, .tuple #[.int .u32 r405q, .int .i64 r406q])] (by kernel_rfl) (fun a413q h414q => ?_)
    clear h411q a410q
    refine WL.done (by kernel_rfl) ?_
    refine wp_seq ?_
    refine WL.start ?_
    obtain ⟨r416q, A415q, H⟩ := bind1 H
    refine WL.op' (m := 0) h414q rfl rfl ?_
    refine owp_call [] h414q rfl (by kernel_rfl) rfl Tryd.func10 (by kernel_rfl) rfl (by kernel_rfl) (louverlaw03qfixed.calls k354q hg0 A415q hS412q) (fun e418q W417q hp419q => ?_)
    obtain ⟨rfl, hS422q⟩ := hp419q
    refine ⟨_, rfl, fun a420q h421q => ?_⟩
    clear h414q a413q
    refine WL.block (c := 1) (m' := 2) h421q rfl [(35, .bool r416q)] (by kernel_rfl) (fun a423q h424q => ?_)
    clear h421q a420q
    by_cases c425q : r416q = true
    · rw [if_pos c425q] at H
      have hb_ : r416q = true := c425q
      try rw [hb_] at h424q
      clear hb_
      refine WL.op' (m := 2) h424q rfl rfl (owp_run h424q rfl (by kernel_rfl) (v := .int .u64 x352q) (by kernel_rfl) (fun a426q h427q => ?_))
      clear h424q a423q
      refine WL.op' (m := 3) h427q rfl rfl (owp_run h427q rfl (by kernel_rfl) (v := .bool (decide (x352q = 1073741824))) (by kernel_rfl) (fun a428q h429q => ?_))
      clear h427q a426q
      refine WL.block (c := 2) (m' := 6) h429q rfl [(39, .bool (decide (x352q = 1073741824))), (38, .bool (decide (x352q = 1073741824)))] (by kernel_rfl) (fun a430q h431q => ?_)
      clear h429q a428q
      by_cases c432q : x352q = 1073741824
      · rw [if_pos c432q] at H
        have hb_ : (decide (x352q = 1073741824)) = true := decide_eq_true c432q
        try rw [hb_] at h431q
        clear hb_
        refine WL.op' (m := 6) h431q rfl rfl (owp_run h431q rfl (by kernel_rfl) (v := .int .i64 r406q) (by kernel_rfl) (fun a433q h434q => ?_))
        clear h431q a430q
        refine WL.op' (m := 7) h434q rfl rfl (owp_run h434q rfl (by kernel_rfl) (v := .bool (decide (r406q = 0))) (by kernel_rfl) (fun a435q h436q => ?_))
        clear h434q a433q
        refine WL.op' (m := 8) h436q rfl rfl (owp_run h436q rfl (by kernel_rfl) (v := .int .i64 p0) (by kernel_rfl) (fun a437q h438q => ?_))
        clear h436q a435q
        refine WL.op' (m := 9) h438q rfl rfl (owp_run h438q rfl (by kernel_rfl) (v := .bool (decide (p0 < 0))) (by kernel_rfl) (fun a439q h440q => ?_))
        clear h438q a437q
        refine WL.op' (m := 10) h440q rfl rfl (owp_run h440q rfl (by kernel_rfl) (v := .bool (decide (p0 < 0))) (by kernel_rfl) (fun a441q h442q => ?_))
        clear h440q a439q
        by_cases c443q : p0 < 0
        · rw [if_pos c443q] at H
          have hb_ : (decide (p0 < 0)) = true := decide_eq_true c443q
          try rw [hb_] at h442q
          clear hb_
          refine WL.skipped (m := 11) h442q rfl rfl (by kernel_rfl) rfl (fun a444q h445q => ?_)
          clear h442q a441q
          refine WL.skipped (m := 12) h445q rfl rfl (by kernel_rfl) rfl (fun a446q h447q => ?_)
          clear h445q a444q
          refine WL.op' (m := 13) h447q rfl rfl (owp_run h447q rfl (by kernel_rfl) (v := .bool true) (by kernel_rfl) (fun a448q h449q => ?_))
          clear h447q a446q
          refine WL.op' (m := 14) h449q rfl rfl (owp_run h449q rfl (by kernel_rfl) (v := .bool ((decide (r406q = 0)) == true)) (by kernel_rfl) (fun a450q h451q => ?_))
          clear h449q a448q
          refine WL.block (c := 2) (m' := 17) h451q rfl [(2, .bool ((decide (r406q = 0)) == true)), (49, .bool ((decide (r406q = 0)) == true))] (by kernel_rfl) (fun a452q h453q => ?_)
          clear h451q a450q
          refine WL.done (by kernel_rfl) ?_
          refine wp_ret ?_
          obtain rfl := Option.some.inj H
          repeat (first | refine then_ret ?_ | refine inBlock_ret ?_ | refine inBlock_go ?_)
          refine body_ret (v := .bool ((decide (r406q = 0)) == true)) h453q (by kernel_rfl) (by kernel_rfl) ?_
          exact ⟨rfl, hS422q⟩
        · rw [if_neg c443q] at H
          have hb_ : (decide (p0 < 0)) = false := decide_eq_false c443q
          try rw [hb_] at h442q
          clear hb_
          refine WL.op' (m := 11) h442q rfl rfl (owp_run h442q rfl (by kernel_rfl) (v := .int .i64 p0) (by kernel_rfl) (fun a454q h455q => ?_))
          clear h442q a441q
          refine WL.op' (m := 12) h455q rfl rfl (owp_run h455q rfl (by kernel_rfl) (v := .bool (decide (p0 > 256))) (by kernel_rfl) (fun a456q h457q => ?_))
          clear h455q a454q
          refine WL.op' (m := 13) h457q rfl rfl (owp_run h457q rfl (by kernel_rfl) (v := .bool (decide (p0 > 256))) (by kernel_rfl) (fun a458q h459q => ?_))
          clear h457q a456q
          refine WL.op' (m := 14) h459q rfl rfl (owp_run h459q rfl (by kernel_rfl) (v := .bool ((decide (r406q = 0)) == (decide (p0 > 256)))) (by kernel_rfl) (fun a460q h461q => ?_))
          clear h459q a458q
          refine WL.block (c := 2) (m' := 17) h461q rfl [(2, .bool ((decide (r406q = 0)) == (decide (p0 > 256)))), (49, .bool ((decide (r406q = 0)) == (decide (p0 > 256))))] (by kernel_rfl) (fun a462q h463q => ?_)
          clear h461q a460q
          refine WL.done (by kernel_rfl) ?_
          refine wp_ret ?_
          obtain rfl := Option.some.inj H
          repeat (first | refine then_ret ?_ | refine inBlock_ret ?_ | refine inBlock_go ?_)
          refine body_ret (v := .bool ((decide (r406q = 0)) == (decide (p0 > 256)))) h463q (by kernel_rfl) (by kernel_rfl) ?_
          exact ⟨rfl, hS422q⟩
      · rw [if_neg c432q] at H
        have hb_ : (decide (x352q = 1073741824)) = false := decide_eq_false c432q
        try rw [hb_] at h431q
        clear hb_
        refine WL.skipped (m := 6) h431q rfl rfl (by kernel_rfl) rfl (fun a464q h465q => ?_)
        clear h431q a430q
        refine WL.skipped (m := 7) h465q rfl rfl (by kernel_rfl) rfl (fun a466q h467q => ?_)
        clear h465q a464q
        refine WL.skipped (m := 8) h467q rfl rfl (by kernel_rfl) rfl (fun a468q h469q => ?_)
        clear h467q a466q
        refine WL.skipped (m := 9) h469q rfl rfl (by kernel_rfl) rfl (fun a470q h471q => ?_)
        clear h469q a468q
        refine WL.skipped (m := 10) h471q rfl rfl (by kernel_rfl) rfl (fun a472q h473q => ?_)
        clear h471q a470q
        refine WL.skipped (m := 11) h473q rfl rfl (by kernel_rfl) rfl (fun a474q h475q => ?_)
        clear h473q a472q
        refine WL.skipped (m := 12) h475q rfl rfl (by kernel_rfl) rfl (fun a476q h477q => ?_)
        clear h475q a474q
        refine WL.skipped (m := 13) h477q rfl rfl (by kernel_rfl) rfl (fun a478q h479q => ?_)
        clear h477q a476q
        refine WL.skipped (m := 14) h479q rfl rfl (by kernel_rfl) rfl (fun a480q h481q => ?_)
        clear h479q a478q
        refine WL.block (c := 2) (m' := 17) h481q rfl [(2, .bool false), (49, .bool false)] (by kernel_rfl) (fun a482q h483q => ?_)
        clear h481q a480q
        refine WL.done (by kernel_rfl) ?_
        refine wp_ret ?_
        obtain rfl := Option.some.inj H
        repeat (first | refine then_ret ?_ | refine inBlock_ret ?_ | refine inBlock_go ?_)
        refine body_ret (v := .bool false) h483q (by kernel_rfl) (by kernel_rfl) ?_
        exact ⟨rfl, hS422q⟩
    · rw [if_neg c425q] at H
      have hb_ : r416q = false := (Bool.eq_false_iff.2 c425q)
      try rw [hb_] at h424q
      clear hb_
      refine WL.skipped (m := 2) h424q rfl rfl (by kernel_rfl) rfl (fun a484q h485q => ?_)
      clear h424q a423q
      refine WL.skipped (m := 3) h485q rfl rfl (by kernel_rfl) rfl (fun a486q h487q => ?_)
      clear h485q a484q
      refine WL.block (c := 2) (m' := 6) h487q rfl [(39, .bool false), (38, .bool false)] (by kernel_rfl) (fun a488q h489q => ?_)
      clear h487q a486q
      refine WL.skipped (m := 6) h489q rfl rfl (by kernel_rfl) rfl (fun a490q h491q => ?_)
      clear h489q a488q
      refine WL.skipped (m := 7) h491q rfl rfl (by kernel_rfl) rfl (fun a492q h493q => ?_)
      clear h491q a490q
      refine WL.skipped (m := 8) h493q rfl rfl (by kernel_rfl) rfl (fun a494q h495q => ?_)
      clear h493q a492q
      refine WL.skipped (m := 9) h495q rfl rfl (by kernel_rfl) rfl (fun a496q h497q => ?_)
      clear h495q a494q
      refine WL.skipped (m := 10) h497q rfl rfl (by kernel_rfl) rfl (fun a498q h499q => ?_)
      clear h497q a496q
      refine WL.skipped (m := 11) h499q rfl rfl (by kernel_rfl) rfl (fun a500q h501q => ?_)
      clear h499q a498q
      refine WL.skipped (m := 12) h501q rfl rfl (by kernel_rfl) rfl (fun a502q h503q => ?_)
      clear h501q a500q
      refine WL.skipped (m := 13) h503q rfl rfl (by kernel_rfl) rfl (fun a504q h505q => ?_)
      clear h503q a502q
      refine WL.skipped (m := 14) h505q rfl rfl (by kernel_rfl) rfl (fun a506q h507q => ?_)
      clear h505q a504q
      refine WL.block (c := 2) (m' := 17) h507q rfl [(2, .bool false), (49, .bool false)] (by kernel_rfl) (fun a508q h509q => ?_)
      clear h507q a506q
      refine WL.done (by kernel_rfl) ?_
      refine wp_ret ?_
      obtain rfl := Option.some.inj H
      repeat (first | refine then_ret ?_ | refine inBlock_ret ?_ | refine inBlock_go ?_)
      refine body_ret (v := .bool false) h509q (by kernel_rfl) (by kernel_rfl) ?_
      exact ⟨rfl, hS422q⟩

/-! ### louver/louverlaw03.HuffmanJoins -/
def louverlaw03qHuffmanJoins.f (k : Nat) (p0 : (List UInt8)) (p1 : (List UInt8)) : Option (Bool) := if (p0.length : Int) > 3000 then (bnd1 (louverlaw03qfixed.f k) fun r290q => (some r290q)) else (if (p1.length : Int) > 3000 then (bnd1 (louverlaw03qfixed.f k) fun r309q => (some r309q)) else (bnd1 (huffman_Size.f k p0) fun r321q => (bnd1 (huffman_Size.f k p1) fun r331q => (if p0.length + p1.length ≤ 9223372036854775807 then (bnd1 (huffman_Size.f k (p0 ++ p1)) fun r344q => (bnd1 (louverlaw03qfixed.f k) fun r354q => (if r354q = true then (if r344q ≤ (IntKind.i64.wrap (r321q + r331q)) then (if r344q ≥ (IntKind.i64.wrap ((IntKind.i64.wrap (r321q + r331q)) - 1)) then (if r321q ≤ (IntKind.i64.wrap (4 * (p0.length : Int))) then (some (decide ((IntKind.i64.wrap (8 * r321q)) ≥ (IntKind.i64.wrap (5 * (p0.length : Int)))))) else (some false)) else (some false)) else (some false)) else (some false)))) else (none)))))
set_option maxHeartbeats 2000000 in
set_option maxRecDepth 100000 in
theorem louverlaw03qHuffmanJoins.calls (k : Nat) {b : Nat} {w0 W : World} {R : Frag} {Fs : List Frag} {p0 : (List UInt8)} {p1 : (List UInt8)}  {r0q : Bool} (hg0 : Rds (kInt .u8) b w0 [] (.slice (some ⟨0, 0, none⟩) 257 257) G0) (H : louverlaw03qHuffmanJoins.f k p0 p1 = some r0q) (hS : St b w0 W R (Fs)) :
    Calls Tryd.prog 5 ([.string (mkS p0), .string (mkS p1)] : List Value).toArray W (fun e W' => e = .returned (.bool r0q) ∧ St b w0 W' R (Fs)) := by
  unfold louverlaw03qHuffmanJoins.f at H
  refine calls_enter Tryd.func5 rfl 56 rfl (by kernel_rfl) (fun a h => ?_)
  refine wp_seq ?_
  refine WL.start ?_
  refine WL.block (c := 1) (m' := 1) h rfl [(4, .bool false)] (by kernel_rfl) (fun a276q h277q => ?_)
  refine WL.done (by kernel_rfl) ?_
  refine wp_seq ?_
  refine wp_seq ?_
  refine WL.start ?_
  refine WL.block (c := 4) (m' := 4) h277q rfl [(11, .bool (decide ((p0.length : Int) > 3000))), (10, .bool (decide ((p0.length : Int) > 3000))), (9, .int .i64 (p0.length : Int)), (8, .string (mkS p0))] (by kernel_rfl) (fun a278q h279q => ?_)
  clear h277q a276q
  by_cases c280q : (p0.length : Int) > 3000
  · rw [if_pos c280q] at H
    have hb_ : (decide ((p0.length : Int) > 3000)) = true := decide_eq_true c280q
    try rw [hb_] at h279q
    clear hb_
    refine WL.skipped (m := 4) h279q rfl rfl (by kernel_rfl) rfl (fun a281q h282q => ?_)
    clear h279q a278q
    refine WL.skipped (m := 5) h282q rfl rfl (by kernel_rfl) rfl (fun a283q h284q => ?_)
    clear h282q a281q
    refine WL.skipped (m := 6) h284q rfl rfl (by kernel_rfl) rfl (fun a285q h286q => ?_)
    clear h284q a283q
    refine WL.block (c := 1) (m' := 8) h286q rfl [(15, .bool true)] (by kernel_rfl) (fun a287q h288q => ?_)
    clear h286q a285q
    refine WL.done (by kernel_rfl) ?_
    refine wp_then h288q rfl ?_
    refine wp_seq ?_
    refine WL.start ?_
    obtain ⟨r290q, A289q, H⟩ := bind1 H
    refine WL.op' (m := 0) h288q rfl rfl ?_
    refine owp_call [] h288q rfl (by kernel_rfl) rfl Tryd.func10 (by kernel_rfl) rfl (by kernel_rfl) (louverlaw03qfixed.calls k hg0 A289q hS) (fun e292q W291q hp293q => ?_)
    obtain ⟨rfl, hS296q⟩ := hp293q
    refine ⟨_, rfl, fun a294q h295q => ?_⟩
    clear h288q a287q
    refine WL.block (c := 1) (m' := 2) h295q rfl [(4, .bool r290q)] (by kernel_rfl) (fun a297q h298q => ?_)
    clear h295q a294q
    refine WL.done (by kernel_rfl) ?_
    refine wp_ret ?_
    obtain rfl := Option.some.inj H
    repeat (first | refine then_ret ?_ | refine inBlock_ret ?_ | refine inBlock_go ?_)
    refine body_ret (v := .bool r290q) h298q (by kernel_rfl) (by kernel_rfl) ?_
    exact ⟨rfl, hS296q⟩
  · rw [if_neg c280q] at H
    have hb_ : (decide ((p0.length : Int) > 3000)) = false := decide_eq_false c280q
    try rw [hb_] at h279q
    clear hb_
    refine WL.op' (m := 4) h279q rfl rfl (owp_run h279q rfl (by kernel_rfl) (v := .string (mkS p1)) (by kernel_rfl) (fun a299q h300q => ?_))
    clear h279q a278q
    refine WL.op' (m := 5) h300q rfl rfl (owp_run h300q rfl (by kernel_rfl) (v := .int .i64 (p1.length : Int)) (by kernel_rfl) (fun a301q h302q => ?_))
    clear h300q a299q
    refine WL.op' (m := 6) h302q rfl rfl (owp_run h302q rfl (by kernel_rfl) (v := .bool (decide ((p1.length : Int) > 3000))) (by kernel_rfl) (fun a303q h304q => ?_))
    clear h302q a301q
    refine WL.block (c := 1) (m' := 8) h304q rfl [(15, .bool (decide ((p1.length : Int) > 3000)))] (by kernel_rfl) (fun a305q h306q => ?_)
    clear h304q a303q
    refine WL.done (by kernel_rfl) ?_
    by_cases c307q : (p1.length : Int) > 3000
    · rw [if_pos c307q] at H
      have hb_ : (decide ((p1.length : Int) > 3000)) = true := decide_eq_true c307q
      try rw [hb_] at h306q
      clear hb_
      refine wp_then h306q rfl ?_
      refine wp_seq ?_
      refine WL.start ?_
      obtain ⟨r309q, A308q, H⟩ := bind1 H
      refine WL.op' (m := 0) h306q rfl rfl ?_
      refine owp_call [] h306q rfl (by kernel_rfl) rfl Tryd.func10 (by kernel_rfl) rfl (by kernel_rfl) (louverlaw03qfixed.calls k hg0 A308q hS) (fun e311q W310q hp312q => ?_)
      obtain ⟨rfl, hS315q⟩ := hp312q
      refine ⟨_, rfl, fun a313q h314q => ?_⟩
      clear h306q a305q
      refine WL.block (c := 1) (m' := 2) h314q rfl [(4, .bool r309q)] (by kernel_rfl) (fun a316q h317q => ?_)
      clear h314q a313q
      refine WL.done (by kernel_rfl) ?_
      refine wp_ret ?_
      obtain rfl := Option.some.inj H
      repeat (first | refine then_ret ?_ | refine inBlock_ret ?_ | refine inBlock_go ?_)
      refine body_ret (v := .bool r309q) h317q (by kernel_rfl) (by kernel_rfl) ?_
      exact ⟨rfl, hS315q⟩
    · rw [if_neg c307q] at H
      have hb_ : (decide ((p1.length : Int) > 3000)) = false := decide_eq_false c307q
      try rw [hb_] at h306q
      clear hb_
      refine wp_else h306q rfl ?_
      refine wp_skip ?_
      refine wp_seq ?_
      refine WL.start ?_
      refine WL.block (c := 1) (m' := 1) h306q rfl [(17, .string (mkS p0))] (by kernel_rfl) (fun a318q h319q => ?_)
      clear h306q a305q
      obtain ⟨r321q, A320q, H⟩ := bind1 H
      refine WL.op' (m := 1) h319q rfl rfl ?_
      refine owp_call [.string (mkS p0)] h319q rfl (by kernel_rfl) rfl Tryd.func12 (by kernel_rfl) rfl (by kernel_rfl) (huffman_Size.calls k hg0 A320q hS) (fun e323q W322q hp324q => ?_)
      obtain ⟨rfl, hS327q⟩ := hp324q
      refine ⟨_, rfl, fun a325q h326q => ?_⟩
      clear h319q a318q
      refine WL.block (c := 1) (m' := 3) h326q rfl [(19, .string (mkS p1))] (by kernel_rfl) (fun a328q h329q => ?_)
      clear h326q a325q
      obtain ⟨r331q, A330q, H⟩ := bind1 H
      refine WL.op' (m := 3) h329q rfl rfl ?_
      refine owp_call [.string (mkS p1)] h329q rfl (by kernel_rfl) rfl Tryd.func12 (by kernel_rfl) rfl (by kernel_rfl) (huffman_Size.calls k hg0 A330q hS327q) (fun e333q W332q hp334q => ?_)
      obtain ⟨rfl, hS337q⟩ := hp334q
      refine ⟨_, rfl, fun a335q h336q => ?_⟩
      clear h329q a328q
      refine WL.block (c := 2) (m' := 6) h336q rfl [(22, .string (mkS p1)), (21, .string (mkS p0))] (by kernel_rfl) (fun a338q h339q => ?_)
      clear h336q a335q
      by_cases c340q : p0.length + p1.length ≤ 9223372036854775807
      · rw [if_pos c340q] at H
        refine WL.op' (m := 6) h339q rfl rfl ?_
        refine owp_run (v := .string (mkS (p0 ++ p1))) h339q rfl (by kernel_rfl) (run_concat rfl rfl rfl (by assumption)) (fun a341q h342q => ?_)
        clear h339q a338q
        obtain ⟨r344q, A343q, H⟩ := bind1 H
        refine WL.op' (m := 7) h342q rfl rfl ?_
        refine owp_call [.string (mkS (p0 ++ p1))] h342q rfl (by kernel_rfl) rfl Tryd.func12 (by kernel_rfl) rfl (by kernel_rfl) (huffman_Size.calls k hg0 A343q hS337q) (fun e346q W345q hp347q => ?_)
        obtain ⟨rfl, hS350q⟩ := hp347q
        refine ⟨_, rfl, fun a348q h349q => ?_⟩
        clear h342q a341q
        refine WL.block (c := 3) (m' := 11) h349q rfl [(7, .int .i64 r344q), (6, .int .i64 r331q), (5, .int .i64 r321q)] (by kernel_rfl) (fun a351q h352q => ?_)
        clear h349q a348q
        refine WL.done (by kernel_rfl) ?_
        refine wp_seq ?_
        refine WL.start ?_
        obtain ⟨r354q, A353q, H⟩ := bind1 H
        refine WL.op' (m := 0) h352q rfl rfl ?_
        refine owp_call [] h352q rfl (by kernel_rfl) rfl Tryd.func10 (by kernel_rfl) rfl (by kernel_rfl) (louverlaw03qfixed.calls k hg0 A353q hS350q) (fun e356q W355q hp357q => ?_)
        obtain ⟨rfl, hS360q⟩ := hp357q
        refine ⟨_, rfl, fun a358q h359q => ?_⟩
        clear h352q a351q
        refine WL.block (c := 1) (m' := 2) h359q rfl [(26, .bool r354q)] (by kernel_rfl) (fun a361q h362q => ?_)
        clear h359q a358q
        by_cases c363q : r354q = true
        · rw [if_pos c363q] at H
          have hb_ : r354q = true := c363q
          try rw [hb_] at h362q
          clear hb_
          refine WL.op' (m := 2) h362q rfl rfl (owp_run h362q rfl (by kernel_rfl) (v := .int .i64 r344q) (by kernel_rfl) (fun a364q h365q => ?_))
          clear h362q a361q
          refine WL.op' (m := 3) h365q rfl rfl (owp_run h365q rfl (by kernel_rfl) (v := .int .i64 r321q) (by kernel_rfl) (fun a366q h367q => ?_))
          clear h365q a364q
          refine WL.op' (m := 4) h367q rfl rfl (owp_run h367q rfl (by kernel_rfl) (v := .int .i64 r331q) (by kernel_rfl) (fun a368q h369q => ?_))
          clear h367q a366q
          refine WL.op' (m := 5) h369q rfl rfl (owp_run h369q rfl (by kernel_rfl) (v := .int .i64 (IntKind.i64.wrap (r321q + r331q))) (by kernel_rfl) (fun a370q h371q => ?_))
          clear h369q a368q
          refine WL.op' (m := 6) h371q rfl rfl (owp_run h371q rfl (by kernel_rfl) (v := .bool (decide (r344q ≤ (IntKind.i64.wrap (r321q + r331q))))) (by kernel_rfl) (fun a372q h373q => ?_))
          clear h371q a370q
          refine WL.block (c := 2) (m' := 9) h373q rfl [(33, .bool (decide (r344q ≤ (IntKind.i64.wrap (r321q + r331q))))), (32, .bool (decide (r344q ≤ (IntKind.i64.wrap (r321q + r331q)))))] (by kernel_rfl) (fun a374q h375q => ?_)
          clear h373q a372q
          by_cases c376q : r344q ≤ (IntKind.i64.wrap (r321q + r331q))
          · rw [if_pos c376q] at H
            have hb_ : (decide (r344q ≤ (IntKind.i64.wrap (r321q + r331q)))) = true := decide_eq_true c376q
            try rw [hb_] at h375q
            clear hb_
            refine WL.op' (m := 9) h375q rfl rfl (owp_run h375q rfl (by kernel_rfl) (v := .int .i64 r344q) (by kernel_rfl) (fun a377q h378q => ?_))
            clear h375q a374q
            refine WL.op' (m := 10) h378q rfl rfl (owp_run h378q rfl (by kernel_rfl) (v := .int .i64 r321q) (by kernel_rfl) (fun a379q h380q => ?_))
            clear h378q a377q
            refine WL.op' (m := 11) h380q rfl rfl (owp_run h380q rfl (by kernel_rfl) (v := .int .i64 r331q) (by kernel_rfl) (fun a381q h382q => ?_))
            clear h380q a379q
            refine WL.op' (m := 12) h382q rfl rfl (owp_run h382q rfl (by kernel_rfl) (v := .int .i64 (IntKind.i64.wrap (r321q + r331q))) (by kernel_rfl) (fun a383q h384q => ?_))
            clear h382q a381q
            refine WL.op' (m := 13) h384q rfl rfl (owp_run h384q rfl (by kernel_rfl) (v := .int .i64 (IntKind.i64.wrap ((IntKind.i64.wrap (r321q + r331q)) - 1))) (by kernel_rfl) (fun a385q h386q => ?_))
            clear h384q a383q
            refine WL.op' (m := 14) h386q rfl rfl (owp_run h386q rfl (by kernel_rfl) (v := .bool (decide (r344q ≥ (IntKind.i64.wrap ((IntKind.i64.wrap (r321q + r331q)) - 1))))) (by kernel_rfl) (fun a387q h388q => ?_))
            clear h386q a385q
            refine WL.block (c := 2) (m' := 17) h388q rfl [(41, .bool (decide (r344q ≥ (IntKind.i64.wrap ((IntKind.i64.wrap (r321q + r331q)) - 1))))), (40, .bool (decide (r344q ≥ (IntKind.i64.wrap ((IntKind.i64.wrap (r321q + r331q)) - 1)))))] (by kernel_rfl) (fun a389q h390q => ?_)
            clear h388q a387q
            by_cases c391q : r344q ≥ (IntKind.i64.wrap ((IntKind.i64.wrap (r321q + r331q)) - 1))
            · rw [if_pos c391q] at H
              have hb_ : (decide (r344q ≥ (IntKind.i64.wrap ((IntKind.i64.wrap (r321q + r331q)) - 1)))) = true := decide_eq_true c391q
              try rw [hb_] at h390q
              clear hb_
              refine WL.op' (m := 17) h390q rfl rfl (owp_run h390q rfl (by kernel_rfl) (v := .int .i64 r321q) (by kernel_rfl) (fun a392q h393q => ?_))
              clear h390q a389q
              refine WL.op' (m := 18) h393q rfl rfl (owp_run h393q rfl (by kernel_rfl) (v := .string (mkS p0)) (by kernel_rfl) (fun a394q h395q => ?_))
              clear h393q a392q
              refine WL.op' (m := 19) h395q rfl rfl (owp_run h395q rfl (by kernel_rfl) (v := .int .i64 (p0.length : Int)) (by kernel_rfl) (fun a396q h397q => ?_))
              clear h395q a394q
              refine WL.op' (m := 20) h397q rfl rfl (owp_run h397q rfl (by kernel_rfl) (v := .int .i64 (IntKind.i64.wrap (4 * (p0.length : Int)))) (by kernel_rfl) (fun a398q h399q => ?_))
              clear h397q a396q
              refine WL.op' (m := 21) h399q rfl rfl (owp_run h399q rfl (by kernel_rfl) (v := .bool (decide (r321q ≤ (IntKind.i64.wrap (4 * (p0.length : Int)))))) (by kernel_rfl) (fun a400q h401q => ?_))
              clear h399q a398q
              refine WL.block (c := 2) (m' := 24) h401q rfl [(48, .bool (decide (r321q ≤ (IntKind.i64.wrap (4 * (p0.length : Int)))))), (47, .bool (decide (r321q ≤ (IntKind.i64.wrap (4 * (p0.length : Int))))))] (by kernel_rfl) (fun a402q h403q => ?_)
              clear h401q a400q
              by_cases c404q : r321q ≤ (IntKind.i64.wrap (4 * (p0.length : Int)))
              · rw [if_pos c404q] at H
                have hb_ : (decide (r321q ≤ (IntKind.i64.wrap (4 * (p0.length : Int))))) = true := decide_eq_true c404q
                try rw [hb_] at h403q
                clear hb_
                refine WL.op' (m := 24) h403q rfl rfl (owp_run h403q rfl (by kernel_rfl) (v := .int .i64 r321q) (by kernel_rfl) (fun a405q h406q => ?_))
                clear h403q a402q
                refine WL.op' (m := 25) h406q rfl rfl (owp_run h406q rfl (by kernel_rfl) (v := .int .i64 (IntKind.i64.wrap (8 * r321q))) (by kernel_rfl) (fun a407q h408q => ?_))
                clear h406q a405q
                refine WL.op' (m := 26) h408q rfl rfl (owp_run h408q rfl (by kernel_rfl) (v := .string (mkS p0)) (by kernel_rfl) (fun a409q h410q => ?_))
                clear h408q a407q
                refine WL.op' (m := 27) h410q rfl rfl (owp_run h410q rfl (by kernel_rfl) (v := .int .i64 (p0.length : Int)) (by kernel_rfl) (fun a411q h412q => ?_))
                clear h410q a409q
                refine WL.op' (m := 28) h412q rfl rfl (owp_run h412q rfl (by kernel_rfl) (v := .int .i64 (IntKind.i64.wrap (5 * (p0.length : Int)))) (by kernel_rfl) (fun a413q h414q => ?_))
                clear h412q a411q
                refine WL.op' (m := 29) h414q rfl rfl (owp_run h414q rfl (by kernel_rfl) (v := .bool (decide ((IntKind.i64.wrap (8 * r321q)) ≥ (IntKind.i64.wrap (5 * (p0.length : Int)))))) (by kernel_rfl) (fun a415q h416q => ?_))
                clear h414q a413q
                refine WL.block (c := 2) (m' := 32) h416q rfl [(4, .bool (decide ((IntKind.i64.wrap (8 * r321q)) ≥ (IntKind.i64.wrap (5 * (p0.length : Int)))))), (55, .bool (decide ((IntKind.i64.wrap (8 * r321q)) ≥ (IntKind.i64.wrap (5 * (p0.length : Int))))))] (by kernel_rfl) (fun a417q h418q => ?_)
                clear h416q a415q
                refine WL.done (by kernel_rfl) ?_
                refine wp_ret ?_
                obtain rfl := Option.some.inj H
                repeat (first | refine then_ret ?_ | refine inBlock_ret ?_ | refine inBlock_go ?_)
                refine body_ret (v := .bool (decide ((IntKind.i64.wrap (8 * r321q)) ≥ (IntKind.i64.wrap (5 * (p0.length : Int)))))) h418q (by kernel_rfl) (by kernel_rfl) ?_
                exact ⟨rfl, hS360q⟩
              · rw [if_neg c404q] at H
                have hb_ : (decide (r321q ≤ (IntKind.i64.wrap (4 * (p0.length : Int))))) = false := decide_eq_false c404q
                try rw [hb_] at h403q
                clear hb_
                refine WL.skipped (m := 24) h403q rfl rfl (by kernel_rfl) rfl (fun a419q h420q => ?_)
                clear h403q a402q
                refine WL.skipped (m := 25) h420q rfl rfl (by kernel_rfl) rfl (fun a421q h422q => ?_)
                clear h420q a419q
                refine WL.skipped (m := 26) h422q rfl rfl (by kernel_rfl) rfl (fun a423q h424q => ?_)
                clear h422q a421q
                refine WL.skipped (m := 27) h424q rfl rfl (by kernel_rfl) rfl (fun a425q h426q => ?_)
                clear h424q a423q
                refine WL.skipped (m := 28) h426q rfl rfl (by kernel_rfl) rfl (fun a427q h428q => ?_)
                clear h426q a425q
                refine WL.skipped (m := 29) h428q rfl rfl (by kernel_rfl) rfl (fun a429q h430q => ?_)
                clear h428q a427q
                refine WL.block (c := 2) (m' := 32) h430q rfl [(4, .bool false), (55, .bool false)] (by kernel_rfl) (fun a431q h432q => ?_)
                clear h430q a429q
                refine WL.done (by kernel_rfl) ?_
                refine wp_ret ?_
                obtain rfl := Option.some.inj H
                repeat (first | refine then_ret ?_ | refine inBlock_ret ?_ | refine inBlock_go ?_)
                refine body_ret (v := .bool false) h432q (by kernel_rfl) (by kernel_rfl) ?_
                exact ⟨rfl, hS360q⟩
            · rw [if_neg c391q] at H
              have hb_ : (decide (r344q ≥ (IntKind.i64.wrap ((IntKind.i64.wrap (r321q + r331q)) - 1)))) = false := decide_eq_false c391q
              try rw [hb_] at h390q
              clear hb_
              refine WL.skipped (m := 17) h390q rfl rfl (by kernel_rfl) rfl (fun a433q h434q => ?_)
              clear h390q a389q
              refine WL.skipped (m := 18) h434q rfl rfl (by kernel_rfl) rfl (fun a435q h436q => ?_)
              clear h434q a433q
              refine WL.skipped (m := 19) h436q rfl rfl (by kernel_rfl) rfl (fun a437q h438q => ?_)
              clear h436q a435q
              refine WL.skipped (m := 20) h438q rfl rfl (by kernel_rfl) rfl (fun a439q h440q => ?_)
              clear h438q a437q
              refine WL.skipped (m := 21) h440q rfl rfl (by kernel_rfl) rfl (fun a441q h442q => ?_)
              clear h440q a439q
              refine WL.block (c := 2) (m' := 24) h442q rfl [(48, .bool false), (47, .bool false)] (by kernel_rfl) (fun a443q h444q => ?_)
              clear h442q a441q
              refine WL.skipped (m := 24) h444q rfl rfl (by kernel_rfl) rfl (fun a445q h446q => ?_)
              clear h444q a443q
              refine WL.skipped (m := 25) h446q rfl rfl (by kernel_rfl) rfl (fun a447q h448q => ?_)
              clear h446q a445q
              refine WL.skipped (m := 26) h448q rfl rfl (by kernel_rfl) rfl (fun a449q h450q => ?_)
              clear h448q a447q
              refine WL.skipped (m := 27) h450q rfl rfl (by kernel_rfl) rfl (fun a451q h452q => ?_)
              clear h450q a449q
              refine WL.skipped (m := 28) h452q rfl rfl (by kernel_rfl) rfl (fun a453q h454q => ?_)
              clear h452q a451q
              refine WL.skipped (m := 29) h454q rfl rfl (by kernel_rfl) rfl (fun a455q h456q => ?_)
              clear h454q a453q
              refine WL.block (c := 2) (m' := 32) h456q rfl [(4, .bool false), (55, .bool false)] (by kernel_rfl) (fun a457q h458q => ?_)
              clear h456q a455q
              refine WL.done (by kernel_rfl) ?_
              refine wp_ret ?_
              obtain rfl := Option.some.inj H
              repeat (first | refine then_ret ?_ | refine inBlock_ret ?_ | refine inBlock_go ?_)
              refine body_ret (v := .bool false) h458q (by kernel_rfl) (by kernel_rfl) ?_
              exact ⟨rfl, hS360q⟩
          · rw [if_neg c376q] at H
            have hb_ : (decide (r344q ≤ (IntKind.i64.wrap (r321q + r331q)))) = false := decide_eq_false c376q
            try rw [hb_] at h375q
            clear hb_
            refine WL.skipped (m := 9) h375q rfl rfl (by kernel_rfl) rfl (fun a459q h460q => ?_)
            clear h375q a374q
            refine WL.skipped (m := 10) h460q rfl rfl (by kernel_rfl) rfl (fun a461q h462q => ?_)
            clear h460q a459q
            refine WL.skipped (m := 11) h462q rfl rfl (by kernel_rfl) rfl (fun a463q h464q => ?_)
            clear h462q a461q
            refine WL.skipped (m := 12) h464q rfl rfl (by kernel_rfl) rfl (fun a465q h466q => ?_)
            clear h464q a463q
            refine WL.skipped (m := 13) h466q rfl rfl (by kernel_rfl) rfl (fun a467q h468q => ?_)
            clear h466q a465q
            refine WL.skipped (m := 14) h468q rfl rfl (by kernel_rfl) rfl (fun a469q h470q => ?_)
            clear h468q a467q
            refine WL.block (c := 2) (m' := 17) h470q rfl [(41, .bool false), (40, .bool false)] (by kernel_rfl) (fun a471q h472q => ?_)
            clear h470q a469q
            refine WL.skipped (m := 17) h472q rfl rfl (by kernel_rfl) rfl (fun a473q h474q => ?_)
            clear h472q a471q
            refine WL.skipped (m := 18) h474q rfl rfl (by kernel_rfl) rfl (fun a475q h476q => ?_)
            clear h474q a473q
            refine WL.skipped (m := 19) h476q rfl rfl (by kernel_rfl) rfl (fun a477q h478q => ?_)
            clear h476q a475q
            refine WL.skipped (m := 20) h478q rfl rfl (by kernel_rfl) rfl (fun a479q h480q => ?_)
            clear h478q a477q
            refine WL.skipped (m := 21) h480q rfl rfl (by kernel_rfl) rfl (fun a481q h482q => ?_)
            clear h480q a479q
            refine WL.block (c := 2) (m' := 24) h482q rfl [(48, .bool false), (47, .bool false)] (by kernel_rfl) (fun a483q h484q => ?_)
            clear h482q a481q
            refine WL.skipped (m := 24) h484q rfl rfl (by kernel_rfl) rfl (fun a485q h486q => ?_)
            clear h484q a483q
            refine WL.skipped (m := 25) h486q rfl rfl (by kernel_rfl) rfl (fun a487q h488q => ?_)
            clear h486q a485q
            refine WL.skipped (m := 26) h488q rfl rfl (by kernel_rfl) rfl (fun a489q h490q => ?_)
            clear h488q a487q
            refine WL.skipped (m := 27) h490q rfl rfl (by kernel_rfl) rfl (fun a491q h492q => ?_)
            clear h490q a489q
            refine WL.skipped (m := 28) h492q rfl rfl (by kernel_rfl) rfl (fun a493q h494q => ?_)
            clear h492q a491q
            refine WL.skipped (m := 29) h494q rfl rfl (by kernel_rfl) rfl (fun a495q h496q => ?_)
            clear h494q a493q
            refine WL.block (c := 2) (m' := 32) h496q rfl [(4, .bool false), (55, .bool false)] (by kernel_rfl) (fun a497q h498q => ?_)
            clear h496q a495q
            refine WL.done (by kernel_rfl) ?_
            refine wp_ret ?_
            obtain rfl := Option.some.inj H
            repeat (first | refine then_ret ?_ | refine inBlock_ret ?_ | refine inBlock_go ?_)
            refine body_ret (v := .bool false) h498q (by kernel_rfl) (by kernel_rfl) ?_
            exact ⟨rfl, hS360q⟩
        · rw [if_neg c363q] at H
          have hb_ : r354q = false := (Bool.eq_false_iff.2 c363q)
          try rw [hb_] at h362q
          clear hb_
          refine WL.skipped (m := 2) h362q rfl rfl (by kernel_rfl) rfl (fun a499q h500q => ?_)
          clear h362q a361q
          refine WL.skipped (m := 3) h500q rfl rfl (by kernel_rfl) rfl (fun a501q h502q => ?_)
          clear h500q a499q
          refine WL.skipped (m := 4) h502q rfl rfl (by kernel_rfl) rfl (fun a503q h504q => ?_)
          clear h502q a501q
          refine WL.skipped (m := 5) h504q rfl rfl (by kernel_rfl) rfl (fun a505q h506q => ?_)
          clear h504q a503q
          refine WL.skipped (m := 6) h506q rfl rfl (by kernel_rfl) rfl (fun a507q h508q => ?_)
          clear h506q a505q
          refine WL.block (c := 2) (m' := 9) h508q rfl [(33, .bool false), (32, .bool false)] (by kernel_rfl) (fun a509q h510q => ?_)
          clear h508q a507q
          refine WL.skipped (m := 9) h510q rfl rfl (by kernel_rfl) rfl (fun a511q h512q => ?_)
          clear h510q a509q
          refine WL.skipped (m := 10) h512q rfl rfl (by kernel_rfl) rfl (fun a513q h514q => ?_)
          clear h512q a511q
          refine WL.skipped (m := 11) h514q rfl rfl (by kernel_rfl) rfl (fun a515q h516q => ?_)
          clear h514q a513q
          refine WL.skipped (m := 12) h516q rfl rfl (by kernel_rfl) rfl (fun a517q h518q => ?_)
          clear h516q a515q
          refine WL.skipped (m := 13) h518q rfl rfl (by kernel_rfl) rfl (fun a519q h520q => ?_)
          clear h518q a517q
          refine WL.skipped (m := 14) h520q rfl rfl (by kernel_rfl) rfl (fun a521q h522q => ?_)
          clear h520q a519q
          refine WL.block (c := 2) (m' := 17) h522q rfl [(41, .bool false), (40, .bool false)] (by kernel_rfl) (fun a523q h524q => ?_)
          clear h522q a521q
          refine WL.skipped (m := 17) h524q rfl rfl (by kernel_rfl) rfl (fun a525q h526q => ?_)
          clear h524q a523q
          refine WL.skipped (m := 18) h526q rfl rfl (by kernel_rfl) rfl (fun a527q h528q => ?_)
          clear h526q a525q
          refine WL.skipped (m := 19) h528q rfl rfl (by kernel_rfl) rfl (fun a529q h530q => ?_)
          clear h528q a527q
          refine WL.skipped (m := 20) h530q rfl rfl (by kernel_rfl) rfl (fun a531q h532q => ?_)
          clear h530q a529q
          refine WL.skipped (m := 21) h532q rfl rfl (by kernel_rfl) rfl (fun a533q h534q => ?_)
          clear h532q a531q
          refine WL.block (c := 2) (m' := 24) h534q rfl [(48, .bool false), (47, .bool false)] (by kernel_rfl) (fun a535q h536q => ?_)
          clear h534q a533q
          refine WL.skipped (m := 24) h536q rfl rfl (by kernel_rfl) rfl (fun a537q h538q => ?_)
          clear h536q a535q
          refine WL.skipped (m := 25) h538q rfl rfl (by kernel_rfl) rfl (fun a539q h540q => ?_)
          clear h538q a537q
          refine WL.skipped (m := 26) h540q rfl rfl (by kernel_rfl) rfl (fun a541q h542q => ?_)
          clear h540q a539q
          refine WL.skipped (m := 27) h542q rfl rfl (by kernel_rfl) rfl (fun a543q h544q => ?_)
          clear h542q a541q
          refine WL.skipped (m := 28) h544q rfl rfl (by kernel_rfl) rfl (fun a545q h546q => ?_)
          clear h544q a543q
          refine WL.skipped (m := 29) h546q rfl rfl (by kernel_rfl) rfl (fun a547q h548q => ?_)
          clear h546q a545q
          refine WL.block (c := 2) (m' := 32) h548q rfl [(4, .bool false), (55, .bool false)] (by kernel_rfl) (fun a549q h550q => ?_)
          clear h548q a547q
          refine WL.done (by kernel_rfl) ?_
          refine wp_ret ?_
          obtain rfl := Option.some.inj H
          repeat (first | refine then_ret ?_ | refine inBlock_ret ?_ | refine inBlock_go ?_)
          refine body_ret (v := .bool false) h550q (by kernel_rfl) (by kernel_rfl) ?_
          exact ⟨rfl, hS360q⟩
      · rw [if_neg c340q] at H
        cases H

/-! ### louver/louverref03.Sizes -/
def louverref03qSizes.f  : Option ((List Int)) := some ([13, 23, 28, 28, 28, 28, 28, 28, 28, 24, 30, 28, 28, 30, 28, 28, 28, 28, 28, 28, 28, 28, 30, 28, 28, 28, 28, 28, 28, 28, 28, 28, 6, 10, 10, 12, 13, 6, 8, 11, 10, 10, 8, 11, 8, 6, 6, 6, 5, 5, 5, 6, 6, 6, 6, 6, 6, 6, 7, 8, 15, 6, 12, 10, 13, 6, 7, 7, 7, 7, 7, 7, 7, 7, 7, 7, 7, 7, 7, 7, 7, 7, 7, 7, 7, 7, 7, 7, 8, 7, 8, 13, 19, 13, 14, 6, 15, 5, 6, 5, 6, 5, 6, 6, 6, 5, 7, 7, 6, 6, 6, 5, 6, 7, 6, 5, 5, 6, 7, 7, 7, 7, 7, 15, 11, 14, 13, 28, 20, 22, 20, 20, 22, 22, 22, 23, 22, 23, 23, 23, 23, 23, 24, 23, 24, 24, 22, 23, 24, 23, 23, 23, 23, 21, 22, 23, 22, 23, 23, 24, 22, 21, 20, 22, 22, 23, 23, 21, 23, 22, 22, 24, 21, 22, 23, 23, 21, 21, 22, 21, 23, 22, 23, 23, 20, 22, 22, 22, 23, 22, 22, 23, 26, 26, 20, 19, 22, 23, 22, 25, 26, 26, 26, 27, 27, 26, 24, 25, 19, 21, 26, 27, 27, 26, 27, 24, 21, 21, 26, 26, 28, 27, 27, 27, 20, 24, 20, 21, 22, 21, 21, 23, 22, 22, 25, 25, 24, 24, 26, 23, 26, 27, 26, 26, 27, 27, 27, 27, 27, 28, 27, 27, 27, 27, 27, 26, 30] : List Int)
set_option maxHeartbeats 2000000 in
set_option maxRecDepth 100000 in
theorem louverref03qSizes.calls {b : Nat} {w0 W : World} {R : Frag} {Fs : List Frag}   {r0q : (List Int)}  (H : louverref03qSizes.f = some r0q) (hS : St b w0 W R (Fs)) :
    Calls Tryd.prog 18 ([] : List Value).toArray W (fun e W' => ∃ (u0q : Value) (N0q : Frag), e = .returned (u0q) ∧ Row (kInt .i64) 3 b w0 R u0q r0q N0q ∧ St b w0 W' R (N0q :: Fs)) := by
  unfold louverref03qSizes.f at H
  refine calls_enter Tryd.func18 rfl 2 rfl (by kernel_rfl) (fun a h => ?_)
  refine wp_seq ?_
  refine WL.start ?_
  refine WL.block (c := 1) (m' := 1) h rfl [(0, .slice none 0 0)] (by kernel_rfl) (fun a11q h12q => ?_)
  refine WL.done (by kernel_rfl) ?_
  refine wp_seq ?_
  refine WL.start ?_
  refine WL.op' (m := 0) h12q rfl rfl ?_
  refine owp_new (fun g_ => .slice (some ⟨g_, 0, none⟩) 257 257) (.cells ([.int .i64 13, .int .i64 23, .int .i64 28, .int .i64 28, .int .i64 28, .int .i64 28, .int .i64 28, .int .i64 28, .int .i64 28, .int .i64 24, .int .i64 30, .int .i64 28, .int .i64 28, .int .i64 30, .int .i64 28, .int .i64 28, .int .i64 28, .int .i64 28, .int .i64 28, .int .i64 28, .int .i64 28, .int .i64 28, .int .i64 30, .int .i64 28, .int .i64 28, .int .i64 28, .int .i64 28, .int .i64 28, .int .i64 28, .int .i64 28, .int .i64 28, .int .i64 28, .int .i64 6, .int .i64 10, .int .i64 10, .int .i64 12, .int .i64 13, .int .i64 6, .int .i64 8, .int .i64 11, .int .i64 10, .int .i64 10, .int .i64 8, .int .i64 11, .int .i64 8, .int .i64 6, .int .i64 6, .int .i64 6, .int .i64 5, .int .i64 5, .int .i64 5, .int .i64 6, .int .i64 6, .int .i64 6, .int .i64 6, .int .i64 6, .int .i64 6, .int .i64 6, .int .i64 7, .int .i64 8, .int .i64 15, .int .i64 6, .int .i64 12, .int .i64 10, .int .i64 13, .int .i64 6, .int .i64 7, .int .i64 7, .int .i64 7, .int .i64 7, .int .i64 7, .int .i64 7, .int .i64 7, .int .i64 7, .int .i64 7, .int .i64 7, .int .i64 7, .int .i64 7, .int .i64 7, .int .i64 7, .int .i64 7, .int .i64 7, .int .i64 7, .int .i64 7, .int .i64 7, .int .i64 7, .int .i64 7, .int .i64 7, .int .i64 8, .int .i64 7, .int .i64 8, .int .i64 13, .int .i64 19, .int .i64 13, .int .i64 14, .int .i64 6, .int .i64 15, .int .i64 5, .int .i64 6, .int .i64 5, .int .i64 6, .int .i64 5, .int .i64 6, .int .i64 6, .int .i64 6, .int .i64 5, .int .i64 7, .int .i64 7, .int .i64 6, .int .i64 6, .int .i64 6, .int .i64 5, .int .i64 6, .int .i64 7, .int .i64 6, .int .i64 5, .int .i64 5, .int .i64 6, .int .i64 7, .int .i64 7, .int .i64 7, .int .i64 7, .int .i64 7, .int .i64 15, .int .i64 11, .int .i64 14, .int .i64 13, .int .i64 28, .int .i64 20, .int .i64 22, .int .i64 20, .int .i64 20, .int .i64 22, .int .i64 22, .int .i64 22, .int .i64 23, .int .i64 22, .int .i64 23, .int .i64 23, .int .i64 23, .int .i64 23, .int .i64 23, .int .i64 24, .int .i64 23, .int .i64 24, .int .i64 24, .int .i64 22, .int .i64 23, .int .i64 24, .int .i64 23, .int .i64 23, .int .i64 23, .int .i64 23, .int .i64 21, .int .i64 22, .int .i64 23, .int .i64 22, .int .i64 23, .int .i64 23, .int .i64 24, .int .i64 22, .int .i64 21, .int .i64 20, .int .i64 22, .int .i64 22, .int .i64 23, .int .i64 23, .int .i64 21, .int .i64 23, .int .i64 22, .int .i64 22, .int .i64 24, .int .i64 21, .int .i64 22, .int .i64 23, .int .i64 23, .int .i64 21, .int .i64 21, .int .i64 22, .int .i64 21, .int .i64 23, .int .i64 22, .int .i64 23, .int .i64 23, .int .i64 20, .int .i64 22, .int .i64 22, .int .i64 22, .int .i64 23, .int .i64 22, .int .i64 22, .int .i64 23, .int .i64 26, .int .i64 26, .int .i64 20, .int .i64 19, .int .i64 22, .int .i64 23, .int .i64 22, .int .i64 25, .int .i64 26, .int .i64 26, .int .i64 26, .int .i64 27, .int .i64 27, .int .i64 26, .int .i64 24, .int .i64 25, .int .i64 19, .int .i64 21, .int .i64 26, .int .i64 27, .int .i64 27, .int .i64 26, .int .i64 27, .int .i64 24, .int .i64 21, .int .i64 21, .int .i64 26, .int .i64 26, .int .i64 28, .int .i64 27, .int .i64 27, .int .i64 27, .int .i64 20, .int .i64 24, .int .i64 20, .int .i64 21, .int .i64 22, .int .i64 21, .int .i64 21, .int .i64 23, .int .i64 22, .int .i64 22, .int .i64 25, .int .i64 25, .int .i64 24, .int .i64 24, .int .i64 26, .int .i64 23, .int .i64 26, .int .i64 27, .int .i64 26, .int .i64 26, .int .i64 27, .int .i64 27, .int .i64 27, .int .i64 27, .int .i64 27, .int .i64 28, .int .i64 27, .int .i64 27, .int .i64 27, .int .i64 27, .int .i64 27, .int .i64 26, .int .i64 30] : List Value).toArray 3 (0, 0)) h12q rfl (by kernel_rfl) (by kernel_rfl) hS (fun a13q W15q g16q h14q hS17q => ?_)
  clear h12q a11q
  have hr18q : Row (kInt .i64) 3 b w0 R (.slice (some ⟨g16q, 0, none⟩) 257 257) ([13, 23, 28, 28, 28, 28, 28, 28, 28, 24, 30, 28, 28, 30, 28, 28, 28, 28, 28, 28, 28, 28, 30, 28, 28, 28, 28, 28, 28, 28, 28, 28, 6, 10, 10, 12, 13, 6, 8, 11, 10, 10, 8, 11, 8, 6, 6, 6, 5, 5, 5, 6, 6, 6, 6, 6, 6, 6, 7, 8, 15, 6, 12, 10, 13, 6, 7, 7, 7, 7, 7, 7, 7, 7, 7, 7, 7, 7, 7, 7, 7, 7, 7, 7, 7, 7, 7, 7, 8, 7, 8, 13, 19, 13, 14, 6, 15, 5, 6, 5, 6, 5, 6, 6, 6, 5, 7, 7, 6, 6, 6, 5, 6, 7, 6, 5, 5, 6, 7, 7, 7, 7, 7, 15, 11, 14, 13, 28, 20, 22, 20, 20, 22, 22, 22, 23, 22, 23, 23, 23, 23, 23, 24, 23, 24, 24, 22, 23, 24, 23, 23, 23, 23, 21, 22, 23, 22, 23, 23, 24, 22, 21, 20, 22, 22, 23, 23, 21, 23, 22, 22, 24, 21, 22, 23, 23, 21, 21, 22, 21, 23, 22, 23, 23, 20, 22, 22, 22, 23, 22, 22, 23, 26, 26, 20, 19, 22, 23, 22, 25, 26, 26, 26, 27, 27, 26, 24, 25, 19, 21, 26, 27, 27, 26, 27, 24, 21, 21, 26, 26, 28, 27, 27, 27, 20, 24, 20, 21, 22, 21, 21, 23, 22, 22, 25, 25, 24, 24, 26, 23, 26, 27, 26, 26, 27, 27, 27, 27, 27, 28, 27, 27, 27, 27, 27, 26, 30] : List Int) [(g16q, .cells ([.int .i64 13, .int .i64 23, .int .i64 28, .int .i64 28, .int .i64 28, .int .i64 28, .int .i64 28, .int .i64 28, .int .i64 28, .int .i64 24, .int .i64 30, .int .i64 28, .int .i64 28, .int .i64 30, .int .i64 28, .int .i64 28, .int .i64 28, .int .i64 28, .int .i64 28, .int .i64 28, .int .i64 28, .int .i64 28, .int .i64 30, .int .i64 28, .int .i64 28, .int .i64 28, .int .i64 28, .int .i64 28, .int .i64 28, .int .i64 28, .int .i64 28, .int .i64 28, .int .i64 6, .int .i64 10, .int .i64 10, .int .i64 12, .int .i64 13, .int .i64 6, .int .i64 8, .int .i64 11, .int .i64 10, .int .i64 10, .int .i64 8, .int .i64 11, .int .i64 8, .int .i64 6, .int .i64 6, .int .i64 6, .int .i64 5, .int .i64 5, .int .i64 5, .int .i64 6, .int .i64 6, .int .i64 6, .int .i64 6, .int .i64 6, .int .i64 6, .int .i64 6, .int .i64 7, .int .i64 8, .int .i64 15, .int .i64 6, .int .i64 12, .int .i64 10, .int .i64 13, .int .i64 6, .int .i64 7, .int .i64 7, .int .i64 7, .int .i64 7, .int .i64 7, .int .i64 7, .int .i64 7, .int .i64 7, .int .i64 7, .int .i64 7, .int .i64 7, .int .i64 7, .int .i64 7, .int .i64 7, .int .i64 7, .int .i64 7, .int .i64 7, .int .i64 7, .int .i64 7, .int .i64 7, .int .i64 7, .int .i64 7, .int .i64 8, .int .i64 7, .int .i64 8, .int .i64 13, .int .i64 19, .int .i64 13, .int .i64 14, .int .i64 6, .int .i64 15, .int .i64 5, .int .i64 6, .int .i64 5, .int .i64 6, .int .i64 5, .int .i64 6, .int .i64 6, .int .i64 6, .int .i64 5, .int .i64 7, .int .i64 7, .int .i64 6, .int .i64 6, .int .i64 6, .int .i64 5, .int .i64 6, .int .i64 7, .int .i64 6, .int .i64 5, .int .i64 5, .int .i64 6, .int .i64 7, .int .i64 7, .int .i64 7, .int .i64 7, .int .i64 7, .int .i64 15, .int .i64 11, .int .i64 14, .int .i64 13, .int .i64 28, .int .i64 20, .int .i64 22, .int .i64 20, .int .i64 20, .int .i64 22, .int .i64 22, .int .i64 22, .int .i64 23, .int .i64 22, .int .i64 23, .int .i64 23, .int .i64 23, .int .i64 23, .int .i64 23, .int .i64 24, .int .i64 23, .int .i64 24, .int .i64 24, .int .i64 22, .int .i64 23, .int .i64 24, .int .i64 23, .int .i64 23, .int .i64 23, .int .i64 23, .int .i64 21, .int .i64 22, .int .i64 23, .int .i64 22, .int .i64 23, .int .i64 23, .int .i64 24, .int .i64 22, .int .i64 21, .int .i64 20, .int .i64 22, .int .i64 22, .int .i64 23, .int .i64 23, .int .i64 21, .int .i64 23, .int .i64 22, .int .i64 22, .int .i64 24, .int .i64 21, .int .i64 22, .int .i64 23, .int .i64 23, .int .i64 21, .int .i64 21, .int .i64 22, .int .i64 21, .int .i64 23, .int .i64 22, .int .i64 23, .int .i64 23, .int .i64 20, .int .i64 22, .int .i64 22, .int .i64 22, .int .i64 23, .int .i64 22, .int .i64 22, .int .i64 23, .int .i64 26, .int .i64 26, .int .i64 20, .int .i64 19, .int .i64 22, .int .i64 23, .int .i64 22, .int .i64 25, .int .i64 26, .int .i64 26, .int .i64 26, .int .i64 27, .int .i64 27, .int .i64 26, .int .i64 24, .int .i64 25, .int .i64 19, .int .i64 21, .int .i64 26, .int .i64 27, .int .i64 27, .int .i64 26, .int .i64 27, .int .i64 24, .int .i64 21, .int .i64 21, .int .i64 26, .int .i64 26, .int .i64 28, .int .i64 27, .int .i64 27, .int .i64 27, .int .i64 20, .int .i64 24, .int .i64 20, .int .i64 21, .int .i64 22, .int .i64 21, .int .i64 21, .int .i64 23, .int .i64 22, .int .i64 22, .int .i64 25, .int .i64 25, .int .i64 24, .int .i64 24, .int .i64 26, .int .i64 23, .int .i64 26, .int .i64 27, .int .i64 26, .int .i64 26, .int .i64 27, .int .i64 27, .int .i64 27, .int .i64 27, .int .i64 27, .int .i64 28, .int .i64 27, .int .i64 27, .int .i64 27, .int .i64 27, .int .i64 27, .int .i64 26, .int .i64 30] : List Value).toArray 3 (0, 0))] := Row.lit (xs := ([13, 23, 28, 28, 28, 28, 28, 28, 28, 24, 30, 28, 28, 30, 28, 28, 28, 28, 28, 28, 28, 28, 30, 28, 28, 28, 28, 28, 28, 28, 28, 28, 6, 10, 10, 12, 13, 6, 8, 11, 10, 10, 8, 11, 8, 6, 6, 6, 5, 5, 5, 6, 6, 6, 6, 6, 6, 6, 7, 8, 15, 6, 12, 10, 13, 6, 7, 7, 7, 7, 7, 7, 7, 7, 7, 7, 7, 7, 7, 7, 7, 7, 7, 7, 7, 7, 7, 7, 8, 7, 8, 13, 19, 13, 14, 6, 15, 5, 6, 5, 6, 5, 6, 6, 6, 5, 7, 7, 6, 6, 6, 5, 6, 7, 6, 5, 5, 6, 7, 7, 7, 7, 7, 15, 11, 14, 13, 28, 20, 22, 20, 20, 22, 22, 22, 23, 22, 23, 23, 23, 23, 23, 24, 23, 24, 24, 22, 23, 24, 23, 23, 23, 23, 21, 22, 23, 22, 23, 23, 24, 22, 21, 20, 22, 22, 23, 23, 21, 23, 22, 22, 24, 21, 22, 23, 23, 21, 21, 22, 21, 23, 22, 23, 23, 20, 22, 22, 22, 23, 22, 22, 23, 26, 26, 20, 19, 22, 23, 22, 25, 26, 26, 26, 27, 27, 26, 24, 25, 19, 21, 26, 27, 27, 26, 27, 24, 21, 21, 26, 26, 28, 27, 27, 27, 20, 24, 20, 21, 22, 21, 21, 23, 22, 22, 25, 25, 24, 24, 26, 23, 26, 27, 26, 26, 27, 27, 27, 27, 27, 28, 27, 27, 27, 27, 27, 26, 30] : List Int)) (Mi := []) (reps_int .i64 _) (by simp [maxLen])
  refine WL.block (c := 1) (m' := 2) h14q rfl [(0, .slice (some ⟨g16q, 0, none⟩) 257 257)] (by kernel_rfl) (fun a19q h20q => ?_)
  clear h14q a13q
  refine WL.done (by kernel_rfl) ?_
  refine wp_ret ?_
  obtain rfl := Option.some.inj H
  repeat (first | refine then_ret ?_ | refine inBlock_ret ?_ | refine inBlock_go ?_)
  refine body_ret (v := .slice (some ⟨g16q, 0, none⟩) 257 257) h20q (by kernel_rfl) (by kernel_rfl) ?_
  exact ⟨.slice (some ⟨g16q, 0, none⟩) 257 257, [(g16q, .cells ([.int .i64 13, .int .i64 23, .int .i64 28, .int .i64 28, .int .i64 28, .int .i64 28, .int .i64 28, .int .i64 28, .int .i64 28, .int .i64 24, .int .i64 30, .int .i64 28, .int .i64 28, .int .i64 30, .int .i64 28, .int .i64 28, .int .i64 28, .int .i64 28, .int .i64 28, .int .i64 28, .int .i64 28, .int .i64 28, .int .i64 30, .int .i64 28, .int .i64 28, .int .i64 28, .int .i64 28, .int .i64 28, .int .i64 28, .int .i64 28, .int .i64 28, .int .i64 28, .int .i64 6, .int .i64 10, .int .i64 10, .int .i64 12, .int .i64 13, .int .i64 6, .int .i64 8, .int .i64 11, .int .i64 10, .int .i64 10, .int .i64 8, .int .i64 11, .int .i64 8, .int .i64 6, .int .i64 6, .int .i64 6, .int .i64 5, .int .i64 5, .int .i64 5, .int .i64 6, .int .i64 6, .int .i64 6, .int .i64 6, .int .i64 6, .int .i64 6, .int .i64 6, .int .i64 7, .int .i64 8, .int .i64 15, .int .i64 6, .int .i64 12, .int .i64 10, .int .i64 13, .int .i64 6, .int .i64 7, .int .i64 7, .int .i64 7, .int .i64 7, .int .i64 7, .int .i64 7, .int .i64 7, .int .i64 7, .int .i64 7, .int .i64 7, .int .i64 7, .int .i64 7, .int .i64 7, .int .i64 7, .int .i64 7, .int .i64 7, .int .i64 7, .int .i64 7, .int .i64 7, .int .i64 7, .int .i64 7, .int .i64 7, .int .i64 8, .int .i64 7, .int .i64 8, .int .i64 13, .int .i64 19, .int .i64 13, .int .i64 14, .int .i64 6, .int .i64 15, .int .i64 5, .int .i64 6, .int .i64 5, .int .i64 6, .int .i64 5, .int .i64 6, .int .i64 6, .int .i64 6, .int .i64 5, .int .i64 7, .int .i64 7, .int .i64 6, .int .i64 6, .int .i64 6, .int .i64 5, .int .i64 6, .int .i64 7, .int .i64 6, .int .i64 5, .int .i64 5, .int .i64 6, .int .i64 7, .int .i64 7, .int .i64 7, .int .i64 7, .int .i64 7, .int .i64 15, .int .i64 11, .int .i64 14, .int .i64 13, .int .i64 28, .int .i64 20, .int .i64 22, .int .i64 20, .int .i64 20, .int .i64 22, .int .i64 22, .int .i64 22, .int .i64 23, .int .i64 22, .int .i64 23, .int .i64 23, .int .i64 23, .int .i64 23, .int .i64 23, .int .i64 24, .int .i64 23, .int .i64 24, .int .i64 24, .int .i64 22, .int .i64 23, .int .i64 24, .int .i64 23, .int .i64 23, .int .i64 23, .int .i64 23, .int .i64 21, .int .i64 22, .int .i64 23, .int .i64 22, .int .i64 23, .int .i64 23, .int .i64 24, .int .i64 22, .int .i64 21, .int .i64 20, .int .i64 22, .int .i64 22, .int .i64 23, .int .i64 23, .int .i64 21, .int .i64 23, .int .i64 22, .int .i64 22, .int .i64 24, .int .i64 21, .int .i64 22, .int .i64 23, .int .i64 23, .int .i64 21, .int .i64 21, .int .i64 22, .int .i64 21, .int .i64 23, .int .i64 22, .int .i64 23, .int .i64 23, .int .i64 20, .int .i64 22, .int .i64 22, .int .i64 22, .int .i64 23, .int .i64 22, .int .i64 22, .int .i64 23, .int .i64 26, .int .i64 26, .int .i64 20, .int .i64 19, .int .i64 22, .int .i64 23, .int .i64 22, .int .i64 25, .int .i64 26, .int .i64 26, .int .i64 26, .int .i64 27, .int .i64 27, .int .i64 26, .int .i64 24, .int .i64 25, .int .i64 19, .int .i64 21, .int .i64 26, .int .i64 27, .int .i64 27, .int .i64 26, .int .i64 27, .int .i64 24, .int .i64 21, .int .i64 21, .int .i64 26, .int .i64 26, .int .i64 28, .int .i64 27, .int .i64 27, .int .i64 27, .int .i64 20, .int .i64 24, .int .i64 20, .int .i64 21, .int .i64 22, .int .i64 21, .int .i64 21, .int .i64 23, .int .i64 22, .int .i64 22, .int .i64 25, .int .i64 25, .int .i64 24, .int .i64 24, .int .i64 26, .int .i64 23, .int .i64 26, .int .i64 27, .int .i64 26, .int .i64 26, .int .i64 27, .int .i64 27, .int .i64 27, .int .i64 27, .int .i64 27, .int .i64 28, .int .i64 27, .int .i64 27, .int .i64 27, .int .i64 27, .int .i64 27, .int .i64 26, .int .i64 30] : List Value).toArray 3 (0, 0))], rfl, hr18q, hS17q⟩

/-! ### louver/louverref03.one -/
def louverref03qone.l0 : Nat → (List UInt8) → Bool → Int → (List UInt8) → Option ((List UInt8))
  | 0, _, _, _, _ => none
  | k + 1, x158q, x159q, x160q, p0 => if x160q ≥ 0 then (if 0 ≤ x160q then (if x160q ≤ (IntKind.i64.wrap (x160q + 1)) then (if (IntKind.i64.wrap (x160q + 1)) ≤ (p0.length : Int) then (if x159q = true then (if ((p0.take (IntKind.i64.wrap (x160q + 1)).toNat).drop x160q.toNat) = ([48] : List UInt8) then (if ([49] : List UInt8).length + x158q.length ≤ 9223372036854775807 then (louverref03qone.l0 k (([49] : List UInt8) ++ x158q) false (IntKind.i64.wrap (x160q - 1)) p0) else (none)) else (if ([48] : List UInt8).length + x158q.length ≤ 9223372036854775807 then (louverref03qone.l0 k (([48] : List UInt8) ++ x158q) true (IntKind.i64.wrap (x160q - 1)) p0) else (none))) else (if ((p0.take (IntKind.i64.wrap (x160q + 1)).toNat).drop x160q.toNat).length + x158q.length ≤ 9223372036854775807 then (louverref03qone.l0 k (((p0.take (IntKind.i64.wrap (x160q + 1)).toNat).drop x160q.toNat) ++ x158q) false (IntKind.i64.wrap (x160q - 1)) p0) else (none))) else (none)) else (none)) else (none)) else (some x158q)
def louverref03qone.f (k : Nat) (p0 : (List UInt8)) : Option ((List UInt8)) := louverref03qone.l0 k ([] : List UInt8) true (IntKind.i64.wrap ((p0.length : Int) - 1)) p0
set_option maxHeartbeats 2000000 in
set_option maxRecDepth 100000 in
theorem louverref03qone.calls (k : Nat) {b : Nat} {w0 W : World} {R : Frag} {Fs : List Frag} {p0 : (List UInt8)}  {r0q : (List UInt8)}  (H : louverref03qone.f k p0 = some r0q) (hS : St b w0 W R (Fs)) :
    Calls Tryd.prog 19 ([.string (mkS p0)] : List Value).toArray W (fun e W' => e = .returned (.string (mkS r0q)) ∧ St b w0 W' R (Fs)) := by
  unfold louverref03qone.f at H
  refine calls_enter Tryd.func19 rfl 26 rfl (by kernel_rfl) (fun a h => ?_)
  refine wp_seq ?_
  refine WL.start ?_
  refine WL.block (c := 1) (m' := 1) h rfl [(2, .string (mkS ([] : List UInt8)))] (by kernel_rfl) (fun a145q h146q => ?_)
  refine WL.done (by kernel_rfl) ?_
  refine wp_seq ?_
  refine WL.start ?_
  refine WL.block (c := 1) (m' := 1) h146q rfl [(3, .string (mkS ([] : List UInt8)))] (by kernel_rfl) (fun a147q h148q => ?_)
  clear h146q a145q
  refine WL.done (by kernel_rfl) ?_
  refine wp_seq ?_
  refine WL.start ?_
  refine WL.block (c := 1) (m' := 1) h148q rfl [(4, .bool true)] (by kernel_rfl) (fun a149q h150q => ?_)
  clear h148q a147q
  refine WL.done (by kernel_rfl) ?_
  refine wp_seq ?_
  refine wp_seq ?_
  refine WL.start ?_
  refine WL.block (c := 4) (m' := 4) h150q rfl [(5, .int .i64 (IntKind.i64.wrap ((p0.length : Int) - 1))), (9, .int .i64 (IntKind.i64.wrap ((p0.length : Int) - 1))), (8, .int .i64 (p0.length : Int)), (7, .string (mkS p0))] (by kernel_rfl) (fun a151q h152q => ?_)
  clear h150q a149q
  refine WL.done (by kernel_rfl) ?_
  refine wp_block ?_
  refine wp_loop_ghost (fun kq_ a_ W_ => ∃ (x158q : (List UInt8)), ∃ (x159q : Bool), ∃ (x160q : Int), Hd a_ 26 [(0, .string (mkS p0)), (3, .string (mkS x158q)), (4, .bool x159q), (5, .int .i64 x160q)] ∧ Asd (louverref03qone.l0 kq_ x158q x159q x160q p0 = some r0q) ∧ Asd (kq_ ≤ k) ∧ Asd (St b w0 W_ R (Fs))) k ⟨([] : List UInt8), true, IntKind.i64.wrap ((p0.length : Int) - 1), h152q.keep ⟨rfl, rfl, rfl, rfl, trivial⟩, ⟨H⟩, ⟨Nat.le_refl _⟩, ⟨hS⟩⟩ ?_
  clear H hS
  rintro k157q a154q W155q ⟨x158q, x159q, x160q, h153q, ⟨H⟩, ⟨hkk157q⟩, ⟨hS156q⟩⟩
  obtain _ | k161q := k157q
  · exact absurd H (by simp [louverref03qone.l0])
  simp only [louverref03qone.l0] at H
  refine wp_seq ?_
  refine wp_seq ?_
  refine WL.start ?_
  refine WL.block (c := 2) (m' := 2) h153q rfl [(11, .bool (decide (x160q ≥ 0))), (10, .int .i64 x160q)] (by kernel_rfl) (fun a162q h163q => ?_)
  clear h153q a154q
  refine WL.done (by kernel_rfl) ?_
  by_cases c164q : x160q ≥ 0
  · rw [if_pos c164q] at H
    have hb_ : (decide (x160q ≥ 0)) = true := decide_eq_true c164q
    try rw [hb_] at h163q
    clear hb_
    refine wp_then h163q rfl ?_
    refine wp_skip ?_
    refine wp_seq ?_
    refine wp_block ?_
    refine wp_seq ?_
    refine WL.start ?_
    refine WL.block (c := 4) (m' := 4) h163q rfl [(17, .int .i64 (IntKind.i64.wrap (x160q + 1))), (16, .int .i64 x160q), (15, .int .i64 x160q), (14, .string (mkS p0))] (by kernel_rfl) (fun a165q h166q => ?_)
    clear h163q a162q
    by_cases c167q : 0 ≤ x160q
    · rw [if_pos c167q] at H
      by_cases c168q : x160q ≤ (IntKind.i64.wrap (x160q + 1))
      · rw [if_pos c168q] at H
        by_cases c169q : (IntKind.i64.wrap (x160q + 1)) ≤ (p0.length : Int)
        · rw [if_pos c169q] at H
          refine WL.op' (m := 4) h166q rfl rfl ?_
          refine owp_run (v := .string (mkS ((p0.take (IntKind.i64.wrap (x160q + 1)).toNat).drop x160q.toNat))) h166q rfl (by kernel_rfl) (run_strcut' (l := x160q) (h := IntKind.i64.wrap (x160q + 1)) rfl rfl Tryd.underlying9 ⟨_, rfl⟩ ⟨_, rfl⟩ (by first | assumption | omega) (by first | assumption | omega) (by first | assumption | omega) rfl) (fun a170q h171q => ?_)
          clear h166q a165q
          refine WL.block (c := 1) (m' := 6) h171q rfl [(6, .string (mkS ((p0.take (IntKind.i64.wrap (x160q + 1)).toNat).drop x160q.toNat)))] (by kernel_rfl) (fun a172q h173q => ?_)
          clear h171q a170q
          refine WL.done (by kernel_rfl) ?_
          refine wp_seq ?_
          refine wp_seq ?_
          refine WL.start ?_
          refine WL.block (c := 1) (m' := 1) h173q rfl [(19, .bool x159q)] (by kernel_rfl) (fun a174q h175q => ?_)
          clear h173q a172q
          refine WL.done (by kernel_rfl) ?_
          by_cases c176q : x159q = true
          · rw [if_pos c176q] at H
            have hb_ : x159q = true := c176q
            try rw [hb_] at h175q
            clear hb_
            refine wp_then h175q rfl ?_
            refine wp_seq ?_
            refine WL.start ?_
            refine WL.block (c := 1) (m' := 1) h175q rfl [(20, .string (mkS ((p0.take (IntKind.i64.wrap (x160q + 1)).toNat).drop x160q.toNat)))] (by kernel_rfl) (fun a177q h178q => ?_)
            clear h175q a174q
            refine WL.op' (m := 1) h178q rfl rfl ?_
            refine owp_run (v := .bool (decide (((p0.take (IntKind.i64.wrap (x160q + 1)).toNat).drop x160q.toNat) = ([48] : List UInt8)))) h178q rfl (by kernel_rfl) (run_streq rfl rfl rfl) (fun a179q h180q => ?_)
            clear h178q a177q
            refine WL.done (by kernel_rfl) ?_
            by_cases c181q : ((p0.take (IntKind.i64.wrap (x160q + 1)).toNat).drop x160q.toNat) = ([48] : List UInt8)
            · rw [if_pos c181q] at H
              have hb_ : (decide (((p0.take (IntKind.i64.wrap (x160q + 1)).toNat).drop x160q.toNat) = ([48] : List UInt8))) = true := decide_eq_true c181q
              try rw [hb_] at h180q
              clear hb_
              refine wp_then h180q rfl ?_
              refine wp_seq ?_
              refine WL.start ?_
              refine WL.block (c := 1) (m' := 1) h180q rfl [(6, .string (mkS ([49] : List UInt8)))] (by kernel_rfl) (fun a182q h183q => ?_)
              clear h180q a179q
              refine WL.done (by kernel_rfl) ?_
              refine WL.start ?_
              refine WL.block (c := 1) (m' := 1) h183q rfl [(4, .bool false)] (by kernel_rfl) (fun a184q h185q => ?_)
              clear h183q a182q
              refine WL.done (by kernel_rfl) ?_
              refine WL.start ?_
              refine WL.block (c := 2) (m' := 2) h185q rfl [(23, .string (mkS x158q)), (22, .string (mkS ([49] : List UInt8)))] (by kernel_rfl) (fun a186q h187q => ?_)
              clear h185q a184q
              by_cases c188q : ([49] : List UInt8).length + x158q.length ≤ 9223372036854775807
              · rw [if_pos c188q] at H
                refine WL.op' (m := 2) h187q rfl rfl ?_
                refine owp_run (v := .string (mkS (([49] : List UInt8) ++ x158q))) h187q rfl (by kernel_rfl) (run_concat rfl rfl rfl (by assumption)) (fun a189q h190q => ?_)
                clear h187q a186q
                refine WL.block (c := 1) (m' := 4) h190q rfl [(3, .string (mkS (([49] : List UInt8) ++ x158q)))] (by kernel_rfl) (fun a191q h192q => ?_)
                clear h190q a189q
                refine WL.done (by kernel_rfl) ?_
                refine WL.start ?_
                refine WL.block (c := 3) (m' := 3) h192q rfl [(5, .int .i64 (IntKind.i64.wrap (x160q - 1))), (13, .int .i64 (IntKind.i64.wrap (x160q - 1))), (12, .int .i64 x160q)] (by kernel_rfl) (fun a193q h194q => ?_)
                clear h192q a191q
                refine WL.done (by kernel_rfl) ?_
                exact ⟨k161q, by omega, ([49] : List UInt8) ++ x158q, false, IntKind.i64.wrap (x160q - 1), h194q.keep ⟨rfl, rfl, rfl, rfl, trivial⟩, ⟨H⟩, ⟨by omega⟩, ⟨hS156q⟩⟩
              · rw [if_neg c188q] at H
                cases H
            · rw [if_neg c181q] at H
              have hb_ : (decide (((p0.take (IntKind.i64.wrap (x160q + 1)).toNat).drop x160q.toNat) = ([48] : List UInt8))) = false := decide_eq_false c181q
              try rw [hb_] at h180q
              clear hb_
              refine wp_else h180q rfl ?_
              refine WL.start ?_
              refine WL.block (c := 1) (m' := 1) h180q rfl [(6, .string (mkS ([48] : List UInt8)))] (by kernel_rfl) (fun a195q h196q => ?_)
              clear h180q a179q
              refine WL.done (by kernel_rfl) ?_
              refine WL.start ?_
              refine WL.block (c := 2) (m' := 2) h196q rfl [(23, .string (mkS x158q)), (22, .string (mkS ([48] : List UInt8)))] (by kernel_rfl) (fun a197q h198q => ?_)
              clear h196q a195q
              by_cases c199q : ([48] : List UInt8).length + x158q.length ≤ 9223372036854775807
              · rw [if_pos c199q] at H
                refine WL.op' (m := 2) h198q rfl rfl ?_
                refine owp_run (v := .string (mkS (([48] : List UInt8) ++ x158q))) h198q rfl (by kernel_rfl) (run_concat rfl rfl rfl (by assumption)) (fun a200q h201q => ?_)
                clear h198q a197q
                refine WL.block (c := 1) (m' := 4) h201q rfl [(3, .string (mkS (([48] : List UInt8) ++ x158q)))] (by kernel_rfl) (fun a202q h203q => ?_)
                clear h201q a200q
                refine WL.done (by kernel_rfl) ?_
                refine WL.start ?_
                refine WL.block (c := 3) (m' := 3) h203q rfl [(5, .int .i64 (IntKind.i64.wrap (x160q - 1))), (13, .int .i64 (IntKind.i64.wrap (x160q - 1))), (12, .int .i64 x160q)] (by kernel_rfl) (fun a204q h205q => ?_)
                clear h203q a202q
                refine WL.done (by kernel_rfl) ?_
                exact ⟨k161q, by omega, ([48] : List UInt8) ++ x158q, true, IntKind.i64.wrap (x160q - 1), h205q.keep ⟨rfl, rfl, rfl, rfl, trivial⟩, ⟨H⟩, ⟨by omega⟩, ⟨hS156q⟩⟩
              · rw [if_neg c199q] at H
                cases H
          · rw [if_neg c176q] at H
            have hb_ : x159q = false := (Bool.eq_false_iff.2 c176q)
            try rw [hb_] at h175q
            clear hb_
            refine wp_else h175q rfl ?_
            refine wp_skip ?_
            refine WL.start ?_
            refine WL.block (c := 2) (m' := 2) h175q rfl [(23, .string (mkS x158q)), (22, .string (mkS ((p0.take (IntKind.i64.wrap (x160q + 1)).toNat).drop x160q.toNat)))] (by kernel_rfl) (fun a206q h207q => ?_)
            clear h175q a174q
            by_cases c208q : ((p0.take (IntKind.i64.wrap (x160q + 1)).toNat).drop x160q.toNat).length + x158q.length ≤ 9223372036854775807
            · rw [if_pos c208q] at H
              refine WL.op' (m := 2) h207q rfl rfl ?_
              refine owp_run (v := .string (mkS (((p0.take (IntKind.i64.wrap (x160q + 1)).toNat).drop x160q.toNat) ++ x158q))) h207q rfl (by kernel_rfl) (run_concat rfl rfl rfl (by assumption)) (fun a209q h210q => ?_)
              clear h207q a206q
              refine WL.block (c := 1) (m' := 4) h210q rfl [(3, .string (mkS (((p0.take (IntKind.i64.wrap (x160q + 1)).toNat).drop x160q.toNat) ++ x158q)))] (by kernel_rfl) (fun a211q h212q => ?_)
              clear h210q a209q
              refine WL.done (by kernel_rfl) ?_
              refine WL.start ?_
              refine WL.block (c := 3) (m' := 3) h212q rfl [(5, .int .i64 (IntKind.i64.wrap (x160q - 1))), (13, .int .i64 (IntKind.i64.wrap (x160q - 1))), (12, .int .i64 x160q)] (by kernel_rfl) (fun a213q h214q => ?_)
              clear h212q a211q
              refine WL.done (by kernel_rfl) ?_
              exact ⟨k161q, by omega, ((p0.take (IntKind.i64.wrap (x160q + 1)).toNat).drop x160q.toNat) ++ x158q, false, IntKind.i64.wrap (x160q - 1), h214q.keep ⟨rfl, rfl, rfl, rfl, trivial⟩, ⟨H⟩, ⟨by omega⟩, ⟨hS156q⟩⟩
            · rw [if_neg c208q] at H
              cases H
        · rw [if_neg c169q] at H
          cases H
      · rw [if_neg c168q] at H
        cases H
    · rw [if_neg c167q] at H
      cases H
  · rw [if_neg c164q] at H
    have hb_ : (decide (x160q ≥ 0)) = false := decide_eq_false c164q
    try rw [hb_] at h163q
    clear hb_
    refine wp_else h163q rfl ?_
    refine wp_exit ?_
    refine wp_seq ?_
    refine WL.start ?_
    refine WL.block (c := 2) (m' := 2) h163q rfl [(2, .string (mkS x158q)), (25, .string (mkS x158q))] (by kernel_rfl) (fun a215q h216q => ?_)
    clear h163q a162q
    refine WL.done (by kernel_rfl) ?_
    refine wp_ret ?_
    obtain rfl := Option.some.inj H
    repeat (first | refine then_ret ?_ | refine inBlock_ret ?_ | refine inBlock_go ?_)
    refine body_ret (v := .string (mkS x158q)) h216q (by kernel_rfl) (by kernel_rfl) ?_
    exact ⟨rfl, hS156q⟩

/-! ### louver/louverref03.Codes -/
mutual
def louverref03qCodes.l0 : Nat → (List (List UInt8)) → (List UInt8) → Int → (List Int) → Option ((List (List UInt8)))
  | 0, _, _, _, _ => none
  | k + 1, x560q, x565q, x566q, r523q => if x566q ≤ 30 then (louverref03qCodes.l1 k x560q x565q 0 r523q x566q) else (some x560q)
def louverref03qCodes.l1 : Nat → (List (List UInt8)) → (List UInt8) → Int → (List Int) → Int → Option ((List (List UInt8)))
  | 0, _, _, _, _, _ => none
  | k + 1, x579q, x584q, x585q, r523q, x566q => if x585q < (r523q.length : Int) then (if 0 ≤ x585q then (if (gt (0 : Int) r523q x585q) = x566q then (if x584q = ([] : List UInt8) then (louverref03qCodes.j2 k x584q r523q x566q x579q x585q) else (bnd1 (louverref03qone.f k x584q) fun r638q => (louverref03qCodes.j2 k r638q r523q x566q x579q x585q))) else (louverref03qCodes.l1 k x579q x584q (IntKind.i64.wrap (x585q + 1)) r523q x566q)) else (none)) else (louverref03qCodes.l0 k x579q x584q (IntKind.i64.wrap (x566q + 1)) r523q)
def louverref03qCodes.j2 : Nat → (List UInt8) → (List Int) → Int → (List (List UInt8)) → Int → Option ((List (List UInt8)))
  | 0, _, _, _, _, _ => none
  | k + 1, x633q, r523q, x566q, x579q, x585q => louverref03qCodes.l3 k x633q r523q x566q x579q x585q
def louverref03qCodes.l3 : Nat → (List UInt8) → (List Int) → Int → (List (List UInt8)) → Int → Option ((List (List UInt8)))
  | 0, _, _, _, _, _ => none
  | k + 1, x653q, r523q, x566q, x579q, x585q => if (x653q.length : Int) < x566q then (if x653q.length + ([48] : List UInt8).length ≤ 9223372036854775807 then (louverref03qCodes.l3 k (x653q ++ ([48] : List UInt8)) r523q x566q x579q x585q) else (none)) else (if 0 ≤ x585q then (if x585q < (x579q.length : Int) then (lt1 (x579q.set x585q.toNat x653q : List (List UInt8)) fun y682q => (louverref03qCodes.l1 k y682q x653q (IntKind.i64.wrap (x585q + 1)) r523q x566q)) else (none)) else (none))
end
def louverref03qCodes.f (k : Nat)  : Option ((List (List UInt8))) := bnd1 (louverref03qSizes.f) fun r523q => (lt1 (List.replicate (257 : Int).toNat [] : List (List UInt8)) fun y544q => (louverref03qCodes.l0 k y544q ([] : List UInt8) 1 r523q))
set_option maxHeartbeats 2000000 in
set_option maxRecDepth 100000 in
theorem louverref03qCodes.calls (k : Nat) {b : Nat} {w0 W : World} {R : Frag} {Fs : List Frag}   {r0q : (List (List UInt8))}  (H : louverref03qCodes.f k = some r0q) (hS : St b w0 W R (Fs)) :
    Calls Tryd.prog 11 ([] : List Value).toArray W (fun e W' => ∃ (u0q : Value) (N0q : Frag), e = .returned (u0q) ∧ Row kStr 9 b w0 R u0q r0q N0q ∧ St b w0 W' R (N0q :: Fs)) := by
  unfold louverref03qCodes.f at H
  refine calls_enter Tryd.func11 rfl 39 rfl (by kernel_rfl) (fun a h => ?_)
  refine wp_seq ?_
  refine WL.start ?_
  refine WL.block (c := 1) (m' := 1) h rfl [(0, .slice none 0 0)] (by kernel_rfl) (fun a520q h521q => ?_)
  refine WL.done (by kernel_rfl) ?_
  refine wp_seq ?_
  refine WL.start ?_
  obtain ⟨r523q, A522q, H⟩ := bind1 H
  refine WL.op' (m := 0) h521q rfl rfl ?_
  refine owp_call [] h521q rfl (by kernel_rfl) rfl Tryd.func18 (by kernel_rfl) rfl (by kernel_rfl) (louverref03qSizes.calls  A522q hS) (fun e525q W524q hp526q => ?_)
  obtain ⟨v529q, M530q, rfl, hr531q, hS532q⟩ := hp526q
  refine ⟨_, rfl, fun a527q h528q => ?_⟩
  clear h521q a520q
  obtain ⟨A533q, c534q, rfl⟩ := hr531q.form
  refine WL.block (c := 1) (m' := 2) h528q rfl [(1, .slice A533q r523q.length c534q)] (by kernel_rfl) (fun a535q h536q => ?_)
  clear h528q a527q
  refine WL.done (by kernel_rfl) ?_
  refine wp_seq ?_
  refine WL.start ?_
  refine WL.op' (m := 0) h536q rfl rfl ?_
  refine owp_make' (z := .string (mkS [])) (z0 := []) (bytes := 16) (dk := kStr) h536q rfl (by kernel_rfl) rfl rfl rfl Tryd.underlying26 (by kernel_rfl) rfl (by decide) ⟨rfl, rfl⟩ hS532q (by first | assumption | omega) (by first | assumption | omega) (by omega) (fun a537q W539q v540q M541q h538q hr542q hS543q => ?_)
  clear h536q a535q
  obtain ⟨y544q, hy545q, H⟩ := lete H
  have hr546q : Row kStr 9 b w0 R v540q y544q M541q := by rw [hy545q]; exact hr542q
  clear hr542q
  obtain ⟨A547q, c548q, rfl⟩ := hr546q.form
  refine WL.block (c := 1) (m' := 2) h538q rfl [(2, .slice A547q y544q.length c548q)] (by kernel_rfl) (fun a549q h550q => ?_)
  clear h538q a537q
  refine WL.done (by kernel_rfl) ?_
  refine wp_seq ?_
  refine WL.start ?_
  refine WL.block (c := 1) (m' := 1) h550q rfl [(3, .string (mkS ([] : List UInt8)))] (by kernel_rfl) (fun a551q h552q => ?_)
  clear h550q a549q
  refine WL.done (by kernel_rfl) ?_
  refine wp_seq ?_
  refine wp_seq ?_
  refine WL.start ?_
  refine WL.block (c := 1) (m' := 1) h552q rfl [(4, .int .i64 1)] (by kernel_rfl) (fun a553q h554q => ?_)
  clear h552q a551q
  refine WL.done (by kernel_rfl) ?_
  refine wp_block ?_
  have hS567q : St b w0 W539q R (M530q :: M541q :: Fs) := hS543q.bring 1 rfl rfl
  refine wp_loop_ghost (fun kq_ a_ W_ => ∃ (x560q : (List (List UInt8))), ∃ (A561q : Option Addr), ∃ (c562q : Nat), ∃ (M563q : Frag), ∃ (x565q : (List UInt8)), ∃ (x566q : Int), Hd a_ 39 [(1, .slice A533q r523q.length c534q), (2, .slice A561q x560q.length c562q), (3, .string (mkS x565q)), (4, .int .i64 x566q)] ∧ Asd (louverref03qCodes.l0 kq_ x560q x565q x566q r523q = some r0q) ∧ Asd (kq_ ≤ k) ∧ Asd (St b w0 W_ R (M530q :: M563q :: Fs)) ∧ Asd (Row kStr 9 b w0 R (.slice A561q x560q.length c562q) x560q M563q)) k ⟨y544q, A547q, c548q, M541q, ([] : List UInt8), 1, h554q.keep ⟨rfl, rfl, rfl, rfl, trivial⟩, ⟨H⟩, ⟨Nat.le_refl _⟩, ⟨hS567q⟩, ⟨hr546q⟩⟩ ?_
  clear H hS567q
  rintro k559q a556q W557q ⟨x560q, A561q, c562q, M563q, x565q, x566q, h555q, ⟨H⟩, ⟨hkk559q⟩, ⟨hS558q⟩, ⟨hr564q⟩⟩
  obtain _ | k568q := k559q
  · exact absurd H (by simp [louverref03qCodes.l0])
  simp only [louverref03qCodes.l0] at H
  refine wp_seq ?_
  refine wp_seq ?_
  refine WL.start ?_
  refine WL.block (c := 2) (m' := 2) h555q rfl [(9, .bool (decide (x566q ≤ 30))), (8, .int .i64 x566q)] (by kernel_rfl) (fun a569q h570q => ?_)
  clear h555q a556q
  refine WL.done (by kernel_rfl) ?_
  by_cases c571q : x566q ≤ 30
  · rw [if_pos c571q] at H
    have hb_ : (decide (x566q ≤ 30)) = true := decide_eq_true c571q
    try rw [hb_] at h570q
    clear hb_
    refine wp_then h570q rfl ?_
    refine wp_skip ?_
    refine wp_seq ?_
    refine wp_block ?_
    refine wp_seq ?_
    refine WL.start ?_
    refine WL.block (c := 3) (m' := 3) h570q rfl [(14, .int .i64 0), (13, .int .i64 (r523q.length : Int)), (12, .slice A533q r523q.length c534q)] (by kernel_rfl) (fun a572q h573q => ?_)
    clear h570q a569q
    refine WL.done (by kernel_rfl) ?_
    refine wp_block ?_
    refine wp_loop_ghost (fun kq_ a_ W_ => ∃ (x579q : (List (List UInt8))), ∃ (A580q : Option Addr), ∃ (c581q : Nat), ∃ (M582q : Frag), ∃ (x584q : (List UInt8)), ∃ (x585q : Int), Hd a_ 39 [(1, .slice A533q r523q.length c534q), (2, .slice A580q x579q.length c581q), (3, .string (mkS x584q)), (4, .int .i64 x566q), (13, .int .i64 (r523q.length : Int)), (14, .int .i64 x585q)] ∧ Asd (louverref03qCodes.l1 kq_ x579q x584q x585q r523q x566q = some r0q) ∧ Asd (kq_ ≤ k568q) ∧ Asd (St b w0 W_ R (M530q :: M582q :: Fs)) ∧ Asd (Row kStr 9 b w0 R (.slice A580q x579q.length c581q) x579q M582q)) k568q ⟨x560q, A561q, c562q, M563q, x565q, 0, h573q.keep ⟨rfl, rfl, rfl, rfl, rfl, rfl, trivial⟩, ⟨H⟩, ⟨Nat.le_refl _⟩, ⟨hS558q⟩, ⟨hr564q⟩⟩ ?_
    clear H hS558q
    rintro k578q a575q W576q ⟨x579q, A580q, c581q, M582q, x584q, x585q, h574q, ⟨H⟩, ⟨hkk578q⟩, ⟨hS577q⟩, ⟨hr583q⟩⟩
    obtain _ | k586q := k578q
    · exact absurd H (by simp [louverref03qCodes.l1])
    simp only [louverref03qCodes.l1] at H
    refine wp_seq ?_
    refine WL.start ?_
    refine WL.block (c := 1) (m' := 1) h574q rfl [(15, .bool (decide (x585q < (r523q.length : Int))))] (by kernel_rfl) (fun a587q h588q => ?_)
    clear h574q a575q
    refine WL.done (by kernel_rfl) ?_
    refine wp_seq ?_
    by_cases c589q : x585q < (r523q.length : Int)
    · rw [if_pos c589q] at H
      have hb_ : (decide (x585q < (r523q.length : Int))) = true := decide_eq_true c589q
      try rw [hb_] at h588q
      clear hb_
      refine wp_then h588q rfl ?_
      refine wp_skip ?_
      refine wp_seq ?_
      refine wp_block ?_
      refine wp_seq ?_
      refine WL.start ?_
      refine WL.block (c := 2) (m' := 2) h588q rfl [(5, .int .i64 x585q), (16, .int .i64 x585q)] (by kernel_rfl) (fun a590q h591q => ?_)
      clear h588q a587q
      refine WL.done (by kernel_rfl) ?_
      refine wp_seq ?_
      refine wp_seq ?_
      refine WL.start ?_
      refine WL.block (c := 2) (m' := 2) h591q rfl [(18, .int .i64 x585q), (17, .slice A533q r523q.length c534q)] (by kernel_rfl) (fun a592q h593q => ?_)
      clear h591q a590q
      by_cases c594q : 0 ≤ x585q
      · rw [if_pos c594q] at H
        have hi597q : 0 ≤ x585q := by first | assumption | omega
        have hi598q : x585q < (r523q.length : Int) := by first | assumption | omega
        obtain ⟨ad595q, _, ha596q, -, -⟩ := Rds.elemAny hr531q.rds hi597q (gt_get (z := (0 : Int)) hi597q hi598q)
        refine WL.op' (m := 2) h593q rfl rfl ?_
        refine owp_run (v := .pointer (some (ad595q.add (x585q.toNat * 1)))) h593q rfl (by kernel_rfl) (run_idx (ad := ad595q) (sz := 1) rfl (by rw [← ha596q]; rfl) rfl Tryd.underlying48 (by kernel_rfl) hi597q hi598q) (fun a599q h600q => ?_)
        clear h593q a592q
        obtain ⟨ad601q, cs602q, ha603q, hr605q, hc604q⟩ := Rds.elemAny hr531q.rds hi597q (gt_get (z := (0 : Int)) hi597q hi598q)
        rw [ha596q] at ha603q; obtain rfl := Option.some.inj ha603q
        obtain rfl : cs602q = [.int .i64 (gt (0 : Int) r523q x585q)] := hr605q
        refine WL.op' (m := 3) h600q rfl rfl ?_
        refine owp_run (v := .int .i64 (gt (0 : Int) r523q x585q)) h600q rfl (by kernel_rfl) (run_load1 rfl rfl Tryd.underlying3 rfl (cell0 (hc604q _ (fun _ _ hk_ => (hS577q).pool.kn hk_)))) (fun a606q h607q => ?_)
        clear h600q a599q
        refine WL.block (c := 2) (m' := 6) h607q rfl [(22, .bool (!decide ((gt (0 : Int) r523q x585q) = x566q))), (21, .int .i64 x566q)] (by kernel_rfl) (fun a608q h609q => ?_)
        clear h607q a606q
        refine WL.done (by kernel_rfl) ?_
        by_cases c610q : (gt (0 : Int) r523q x585q) = x566q
        · rw [if_pos c610q] at H
          have hb_ : (decide ((gt (0 : Int) r523q x585q) = x566q)) = true := decide_eq_true c610q
          try rw [hb_] at h609q
          clear hb_
          refine wp_else h609q rfl ?_
          refine wp_skip ?_
          refine wp_seq ?_
          refine wp_seq ?_
          refine WL.start ?_
          refine WL.block (c := 1) (m' := 1) h609q rfl [(23, .string (mkS x584q))] (by kernel_rfl) (fun a611q h612q => ?_)
          clear h609q a608q
          refine WL.op' (m := 1) h612q rfl rfl ?_
          refine owp_run (v := .bool (!decide (x584q = ([] : List UInt8)))) h612q rfl (by kernel_rfl) (run_strne rfl rfl rfl) (fun a613q h614q => ?_)
          clear h612q a611q
          refine WL.done (by kernel_rfl) ?_
          refine wp_meet (I := fun a_ W_ => ∃ kq_, ∃ (x633q : (List UInt8)), Hd a_ 39 [(1, .slice A533q r523q.length c534q), (2, .slice A580q x579q.length c581q), (3, .string (mkS x633q)), (4, .int .i64 x566q), (5, .int .i64 x585q), (13, .int .i64 (r523q.length : Int)), (14, .int .i64 x585q)] ∧ Asd (louverref03qCodes.j2 kq_ x633q r523q x566q x579q x585q = some r0q) ∧ Asd (kq_ ≤ k586q) ∧ Asd (St b w0 W_ R (M530q :: M582q :: Fs))) ?_ ?_
          · by_cases c634q : x584q = ([] : List UInt8)
            · rw [if_pos c634q] at H
              have hb_ : (decide (x584q = ([] : List UInt8))) = true := decide_eq_true c634q
              try rw [hb_] at h614q
              clear hb_
              refine wp_else h614q rfl ?_
              refine wp_skip ?_
              exact ⟨k586q, x584q, h614q.keep ⟨rfl, rfl, rfl, rfl, rfl, rfl, rfl, trivial⟩, ⟨H⟩, ⟨by omega⟩, ⟨hS577q⟩⟩
            · rw [if_neg c634q] at H
              have hb_ : (decide (x584q = ([] : List UInt8))) = false := decide_eq_false c634q
              try rw [hb_] at h614q
              clear hb_
              refine wp_then h614q rfl ?_
              refine WL.start ?_
              refine WL.block (c := 1) (m' := 1) h614q rfl [(25, .string (mkS x584q))] (by kernel_rfl) (fun a635q h636q => ?_)
              clear h614q a613q
              obtain ⟨r638q, A637q, H⟩ := bind1 H
              refine WL.op' (m := 1) h636q rfl rfl ?_
              refine owp_call [.string (mkS x584q)] h636q rfl (by kernel_rfl) rfl Tryd.func19 (by kernel_rfl) rfl (by kernel_rfl) (louverref03qone.calls k586q  A637q hS577q) (fun e640q W639q hp641q => ?_)
              obtain ⟨rfl, hS644q⟩ := hp641q
              refine ⟨_, rfl, fun a642q h643q => ?_⟩
              clear h636q a635q
              refine WL.block (c := 1) (m' := 3) h643q rfl [(3, .string (mkS r638q))] (by kernel_rfl) (fun a645q h646q => ?_)
              clear h643q a642q
              refine WL.done (by kernel_rfl) ?_
              exact ⟨k586q, r638q, h646q.keep ⟨rfl, rfl, rfl, rfl, rfl, rfl, rfl, trivial⟩, ⟨H⟩, ⟨by omega⟩, ⟨hS644q⟩⟩
          · clear H hS577q
            rintro a629q W630q ⟨k632q, x633q, h628q, ⟨H⟩, ⟨hkk632q⟩, ⟨hS631q⟩⟩
            obtain _ | k647q := k632q
            · exact absurd H (by simp [louverref03qCodes.j2])
            simp only [louverref03qCodes.j2] at H
            refine wp_seq ?_
            refine wp_block ?_
            refine wp_loop_ghost (fun kq_ a_ W_ => ∃ (x653q : (List UInt8)), Hd a_ 39 [(1, .slice A533q r523q.length c534q), (2, .slice A580q x579q.length c581q), (3, .string (mkS x653q)), (4, .int .i64 x566q), (5, .int .i64 x585q), (13, .int .i64 (r523q.length : Int)), (14, .int .i64 x585q)] ∧ Asd (louverref03qCodes.l3 kq_ x653q r523q x566q x579q x585q = some r0q) ∧ Asd (kq_ ≤ k647q) ∧ Asd (St b w0 W_ R (M530q :: M582q :: Fs))) k647q ⟨x633q, h628q.keep ⟨rfl, rfl, rfl, rfl, rfl, rfl, rfl, trivial⟩, ⟨H⟩, ⟨Nat.le_refl _⟩, ⟨hS631q⟩⟩ ?_
            clear H hS631q
            rintro k652q a649q W650q ⟨x653q, h648q, ⟨H⟩, ⟨hkk652q⟩, ⟨hS651q⟩⟩
            obtain _ | k654q := k652q
            · exact absurd H (by simp [louverref03qCodes.l3])
            simp only [louverref03qCodes.l3] at H
            refine wp_seq ?_
            refine wp_seq ?_
            refine WL.start ?_
            refine WL.block (c := 4) (m' := 4) h648q rfl [(30, .bool (decide ((x653q.length : Int) < x566q))), (29, .int .i64 x566q), (28, .int .i64 (x653q.length : Int)), (27, .string (mkS x653q))] (by kernel_rfl) (fun a655q h656q => ?_)
            clear h648q a649q
            refine WL.done (by kernel_rfl) ?_
            by_cases c657q : (x653q.length : Int) < x566q
            · rw [if_pos c657q] at H
              have hb_ : (decide ((x653q.length : Int) < x566q)) = true := decide_eq_true c657q
              try rw [hb_] at h656q
              clear hb_
              refine wp_then h656q rfl ?_
              refine wp_skip ?_
              refine wp_block ?_
              refine WL.start ?_
              refine WL.block (c := 1) (m' := 1) h656q rfl [(31, .string (mkS x653q))] (by kernel_rfl) (fun a658q h659q => ?_)
              clear h656q a655q
              by_cases c660q : x653q.length + ([48] : List UInt8).length ≤ 9223372036854775807
              · rw [if_pos c660q] at H
                refine WL.op' (m := 1) h659q rfl rfl ?_
                refine owp_run (v := .string (mkS (x653q ++ ([48] : List UInt8)))) h659q rfl (by kernel_rfl) (run_concat rfl rfl rfl (by assumption)) (fun a661q h662q => ?_)
                clear h659q a658q
                refine WL.block (c := 1) (m' := 3) h662q rfl [(3, .string (mkS (x653q ++ ([48] : List UInt8))))] (by kernel_rfl) (fun a663q h664q => ?_)
                clear h662q a661q
                refine WL.done (by kernel_rfl) ?_
                exact ⟨k654q, by omega, x653q ++ ([48] : List UInt8), h664q.keep ⟨rfl, rfl, rfl, rfl, rfl, rfl, rfl, trivial⟩, ⟨H⟩, ⟨by omega⟩, ⟨hS651q⟩⟩
              · rw [if_neg c660q] at H
                cases H
            · rw [if_neg c657q] at H
              have hb_ : (decide ((x653q.length : Int) < x566q)) = false := decide_eq_false c657q
              try rw [hb_] at h656q
              clear hb_
              refine wp_else h656q rfl ?_
              refine wp_exit ?_
              refine WL.start ?_
              refine WL.block (c := 3) (m' := 3) h656q rfl [(35, .string (mkS x653q)), (34, .int .i64 x585q), (33, .slice A580q x579q.length c581q)] (by kernel_rfl) (fun a665q h666q => ?_)
              clear h656q a655q
              by_cases c667q : 0 ≤ x585q
              · rw [if_pos c667q] at H
                by_cases c668q : x585q < (x579q.length : Int)
                · rw [if_pos c668q] at H
                  have hi671q : 0 ≤ x585q := by first | assumption | omega
                  have hi672q : x585q < (x579q.length : Int) := by first | assumption | omega
                  obtain ⟨ad669q, _, ha670q, -, -⟩ := Rds.elemAny hr583q.rds hi671q (gt_get (z := []) hi671q hi672q)
                  refine WL.op' (m := 3) h666q rfl rfl ?_
                  refine owp_run (v := .pointer (some (ad669q.add (x585q.toNat * 1)))) h666q rfl (by kernel_rfl) (run_idx (ad := ad669q) (sz := 1) rfl (by rw [← ha670q]; rfl) rfl Tryd.underlying26 (by kernel_rfl) hi671q hi672q) (fun a673q h674q => ?_)
                  clear h666q a665q
                  have hS675q : St b w0 W650q R (M582q :: M530q :: Fs) := hS651q.bring 1 rfl rfl
                  refine WL.op' (m := 4) h674q rfl rfl ?_
                  refine owp_setelem (j := 0) (vs := [.string (mkS x653q)]) (x' := x653q) h674q rfl (by kernel_rfl) rfl rfl rfl rfl (by simp [Value.oneCell']) (by kernel_rfl) ha670q hr583q hS675q hi671q (gt_get (z := []) hi671q hi672q) (Nat.le_refl _) (by rintro _ _ ⟨rfl, rfl⟩; exact ⟨rfl, rfl⟩) (fun a676q W678q M679q h677q hr680q hS681q => ?_)
                  clear h674q a673q
                  obtain ⟨y682q, hy683q, H⟩ := lete H
                  have hl684q : y682q.length = x579q.length := by simp [hy683q]
                  have hr685q : Row kStr 9 b w0 R (.slice A580q y682q.length c581q) y682q M679q := by rw [hl684q]; rw [hy683q]; exact hr680q
                  have h686q : Hd a676q 39 [(1, .slice A533q r523q.length c534q), (2, .slice A580q y682q.length c581q), (3, .string (mkS x653q)), (4, .int .i64 x566q), (5, .int .i64 x585q), (13, .int .i64 (r523q.length : Int)), (14, .int .i64 x585q), (27, .string (mkS x653q)), (28, .int .i64 (x653q.length : Int)), (29, .int .i64 x566q), (30, .bool false), (33, .slice A580q y682q.length c581q), (34, .int .i64 x585q), (35, .string (mkS x653q)), (36, .pointer (some (ad669q.add (x585q.toNat * 1))))] := h677q.keep ⟨rfl, (by rw [hl684q] <;> rfl), rfl, rfl, rfl, rfl, rfl, rfl, rfl, rfl, rfl, (by rw [hl684q] <;> rfl), rfl, rfl, rfl, trivial⟩
                  clear h677q
                  refine WL.done (by kernel_rfl) ?_
                  refine WL.start ?_
                  refine WL.block (c := 2) (m' := 2) h686q rfl [(14, .int .i64 (IntKind.i64.wrap (x585q + 1))), (37, .int .i64 (IntKind.i64.wrap (x585q + 1)))] (by kernel_rfl) (fun a687q h688q => ?_)
                  clear h686q a676q
                  refine WL.done (by kernel_rfl) ?_
                  have hS689q : St b w0 W678q R (M530q :: M679q :: Fs) := hS681q.bring 1 rfl rfl
                  exact ⟨k654q, by omega, y682q, A580q, c581q, M679q, x653q, IntKind.i64.wrap (x585q + 1), h688q.keep ⟨rfl, rfl, rfl, rfl, rfl, rfl, trivial⟩, ⟨H⟩, ⟨by omega⟩, ⟨hS689q⟩, ⟨hr685q⟩⟩
                · rw [if_neg c668q] at H
                  cases H
              · rw [if_neg c667q] at H
                cases H
        · rw [if_neg c610q] at H
          have hb_ : (decide ((gt (0 : Int) r523q x585q) = x566q)) = false := decide_eq_false c610q
          try rw [hb_] at h609q
          clear hb_
          refine wp_then h609q rfl ?_
          refine wp_exit ?_
          refine WL.start ?_
          refine WL.block (c := 2) (m' := 2) h609q rfl [(14, .int .i64 (IntKind.i64.wrap (x585q + 1))), (37, .int .i64 (IntKind.i64.wrap (x585q + 1)))] (by kernel_rfl) (fun a690q h691q => ?_)
          clear h609q a608q
          refine WL.done (by kernel_rfl) ?_
          exact ⟨k586q, by omega, x579q, A580q, c581q, M582q, x584q, IntKind.i64.wrap (x585q + 1), h691q.keep ⟨rfl, rfl, rfl, rfl, rfl, rfl, trivial⟩, ⟨H⟩, ⟨by omega⟩, ⟨hS577q⟩, ⟨hr583q⟩⟩
      · rw [if_neg c594q] at H
        cases H
    · rw [if_neg c589q] at H
      have hb_ : (decide (x585q < (r523q.length : Int))) = false := decide_eq_false c589q
      try rw [hb_] at h588q
      clear hb_
      refine wp_else h588q rfl ?_
      refine wp_exit ?_
      refine WL.start ?_
      refine WL.block (c := 3) (m' := 3) h588q rfl [(4, .int .i64 (IntKind.i64.wrap (x566q + 1))), (11, .int .i64 (IntKind.i64.wrap (x566q + 1))), (10, .int .i64 x566q)] (by kernel_rfl) (fun a692q h693q => ?_)
      clear h588q a587q
      refine WL.done (by kernel_rfl) ?_
      exact ⟨k586q, by omega, x579q, A580q, c581q, M582q, x584q, IntKind.i64.wrap (x566q + 1), h693q.keep ⟨rfl, rfl, rfl, rfl, trivial⟩, ⟨H⟩, ⟨by omega⟩, ⟨hS577q⟩, ⟨hr583q⟩⟩
  · rw [if_neg c571q] at H
    have hb_ : (decide (x566q ≤ 30)) = false := decide_eq_false c571q
    try rw [hb_] at h570q
    clear hb_
    refine wp_else h570q rfl ?_
    refine wp_exit ?_
    refine wp_seq ?_
    refine WL.start ?_
    refine WL.block (c := 2) (m' := 2) h570q rfl [(0, .slice A561q x560q.length c562q), (38, .slice A561q x560q.length c562q)] (by kernel_rfl) (fun a694q h695q => ?_)
    clear h570q a569q
    refine WL.done (by kernel_rfl) ?_
    refine wp_ret ?_
    have hS696q : St b w0 W557q R (M563q :: Fs) := hS558q.drop_
    obtain rfl := Option.some.inj H
    repeat (first | refine then_ret ?_ | refine inBlock_ret ?_ | refine inBlock_go ?_)
    refine body_ret (v := .slice A561q x560q.length c562q) h695q (by kernel_rfl) (by kernel_rfl) ?_
    exact ⟨.slice A561q x560q.length c562q, M563q, rfl, hr564q, hS696q⟩

/-! ### louver/louverlaw03.HuffmanCode -/
def louverlaw03qHuffmanCode.l0 : Nat → Int → Int → Int → Int → Int → Int → (List (List UInt8)) → Option (Bool)
  | 0, _, _, _, _, _, _, _ => none
  | k + 1, x933q, x934q, p0, p1, r780q, r781q, r891q => if x934q < ((gt [] r891q p0).length : Int) then (if 0 ≤ x934q then (louverlaw03qHuffmanCode.l0 k (IntKind.u32.wrap ((IntKind.u32.wrap (2 * x933q)) + (IntKind.u32.wrap (IntKind.u8.wrap ((btI (gt [] r891q p0) x934q) - 48))))) (IntKind.i64.wrap (x934q + 1)) p0 p1 r780q r781q r891q) else (none)) else (if r780q = x933q then (if r781q = ((gt [] r891q p0).length : Int) then (if p1 < 0 then (bnd1 (louverlaw03qfixed.f k) fun r982q => (some r982q)) else (if p1 > 256 then (bnd1 (louverlaw03qfixed.f k) fun r1008q => (some r1008q)) else (if p1 = p0 then (bnd1 (louverlaw03qfixed.f k) fun r1028q => (some r1028q)) else (if 0 ≤ p1 then (if p1 < (r891q.length : Int) then (bnd1 (louverlaw03qfixed.f k) fun r1058q => (if r1058q = true then (if ((gt [] r891q p0).length : Int) > ((gt [] r891q p1).length : Int) then (some true) else (if 0 ≤ ((gt [] r891q p0).length : Int) then (if ((gt [] r891q p0).length : Int) ≤ ((gt [] r891q p1).length : Int) then (some (!decide (((gt [] r891q p1).take ((gt [] r891q p0).length : Int).toNat) = (gt [] r891q p0)))) else (none)) else (none))) else (some false))) else (none)) else (none))))) else (some false)) else (some false))
def louverlaw03qHuffmanCode.f (k : Nat) (p0 : Int) (p1 : Int) : Option (Bool) := bnd2 (huffman_Code.f k p0) fun r780q r781q => (if p0 < 0 then (bnd1 (louverlaw03qfixed.f k) fun r800q => (if r800q = true then (if r780q = 0 then (some (decide (r781q = 0))) else (some false)) else (some false))) else (if p0 > 256 then (bnd1 (louverlaw03qfixed.f k) fun r849q => (if r849q = true then (if r780q = 0 then (some (decide (r781q = 0))) else (some false)) else (some false))) else (bnd1 (louverref03qCodes.f k) fun r891q => (if 0 ≤ p0 then (if p0 < (r891q.length : Int) then (louverlaw03qHuffmanCode.l0 k 0 0 p0 p1 r780q r781q r891q) else (none)) else (none)))))
set_option maxHeartbeats 2000000 in
set_option maxRecDepth 100000 in
theorem louverlaw03qHuffmanCode.calls (k : Nat) {b : Nat} {w0 W : World} {R : Frag} {Fs : List Frag} {p0 : Int} {p1 : Int}  {r0q : Bool} (hg0 : Rds (kInt .u8) b w0 [] (.slice (some ⟨0, 0, none⟩) 257 257) G0) (H : louverlaw03qHuffmanCode.f k p0 p1 = some r0q) (hS : St b w0 W R (Fs)) :
    Calls Tryd.prog 3 ([.int .i64 p0, .int .i64 p1] : List Value).toArray W (fun e W' => e = .returned (.bool r0q) ∧ St b w0 W' R (Fs)) := by
  unfold louverlaw03qHuffmanCode.f at H
  refine calls_enter Tryd.func3 rfl 92 rfl (by kernel_rfl) (fun a h => ?_)
  refine wp_seq ?_
  refine WL.start ?_
  refine WL.block (c := 1) (m' := 1) h rfl [(4, .bool false)] (by kernel_rfl) (fun a775q h776q => ?_)
  refine WL.done (by kernel_rfl) ?_
  refine wp_seq ?_
  refine WL.start ?_
  refine WL.block (c := 1) (m' := 1) h776q rfl [(13, .int .i64 p0)] (by kernel_rfl) (fun a777q h778q => ?_)
  clear h776q a775q
  obtain ⟨r780q, r781q, A779q, H⟩ := bind2 H
  refine WL.op' (m := 1) h778q rfl rfl ?_
  refine owp_call [.int .i64 p0] h778q rfl (by kernel_rfl) rfl Tryd.func9 (by kernel_rfl) rfl (by kernel_rfl) (huffman_Code.calls k hg0 A779q hS) (fun e783q W782q hp784q => ?_)
  obtain ⟨rfl, hS787q⟩ := hp784q
  refine ⟨_, rfl, fun a785q h786q => ?_⟩
  clear h778q a777q
  refine WL.block (c := 5) (m' := 7) h786q rfl [(6, .int .i64 r781q), (5, .int .u32 r780q), (16, .int .i64 r781q), (15, .int .u32 r780q), (12, .tuple #[.int .u32 r780q, .int .i64 r781q])] (by kernel_rfl) (fun a788q h789q => ?_)
  clear h786q a785q
  refine WL.done (by kernel_rfl) ?_
  refine wp_seq ?_
  refine wp_seq ?_
  refine WL.start ?_
  refine WL.block (c := 3) (m' := 3) h789q rfl [(19, .bool (decide (p0 < 0))), (18, .bool (decide (p0 < 0))), (17, .int .i64 p0)] (by kernel_rfl) (fun a790q h791q => ?_)
  clear h789q a788q
  by_cases c792q : p0 < 0
  · rw [if_pos c792q] at H
    have hb_ : (decide (p0 < 0)) = true := decide_eq_true c792q
    try rw [hb_] at h791q
    clear hb_
    refine WL.skipped (m := 3) h791q rfl rfl (by kernel_rfl) rfl (fun a793q h794q => ?_)
    clear h791q a790q
    refine WL.skipped (m := 4) h794q rfl rfl (by kernel_rfl) rfl (fun a795q h796q => ?_)
    clear h794q a793q
    refine WL.block (c := 1) (m' := 6) h796q rfl [(22, .bool true)] (by kernel_rfl) (fun a797q h798q => ?_)
    clear h796q a795q
    refine WL.done (by kernel_rfl) ?_
    refine wp_then h798q rfl ?_
    refine wp_seq ?_
    refine WL.start ?_
    obtain ⟨r800q, A799q, H⟩ := bind1 H
    refine WL.op' (m := 0) h798q rfl rfl ?_
    refine owp_call [] h798q rfl (by kernel_rfl) rfl Tryd.func10 (by kernel_rfl) rfl (by kernel_rfl) (louverlaw03qfixed.calls k hg0 A799q hS787q) (fun e802q W801q hp803q => ?_)
    obtain ⟨rfl, hS806q⟩ := hp803q
    refine ⟨_, rfl, fun a804q h805q => ?_⟩
    clear h798q a797q
    refine WL.block (c := 1) (m' := 2) h805q rfl [(24, .bool r800q)] (by kernel_rfl) (fun a807q h808q => ?_)
    clear h805q a804q
    by_cases c809q : r800q = true
    · rw [if_pos c809q] at H
      have hb_ : r800q = true := c809q
      try rw [hb_] at h808q
      clear hb_
      refine WL.op' (m := 2) h808q rfl rfl (owp_run h808q rfl (by kernel_rfl) (v := .int .u32 r780q) (by kernel_rfl) (fun a810q h811q => ?_))
      clear h808q a807q
      refine WL.op' (m := 3) h811q rfl rfl (owp_run h811q rfl (by kernel_rfl) (v := .bool (decide (r780q = 0))) (by kernel_rfl) (fun a812q h813q => ?_))
      clear h811q a810q
      refine WL.block (c := 2) (m' := 6) h813q rfl [(28, .bool (decide (r780q = 0))), (27, .bool (decide (r780q = 0)))] (by kernel_rfl) (fun a814q h815q => ?_)
      clear h813q a812q
      by_cases c816q : r780q = 0
      · rw [if_pos c816q] at H
        have hb_ : (decide (r780q = 0)) = true := decide_eq_true c816q
        try rw [hb_] at h815q
        clear hb_
        refine WL.op' (m := 6) h815q rfl rfl (owp_run h815q rfl (by kernel_rfl) (v := .int .i64 r781q) (by kernel_rfl) (fun a817q h818q => ?_))
        clear h815q a814q
        refine WL.op' (m := 7) h818q rfl rfl (owp_run h818q rfl (by kernel_rfl) (v := .bool (decide (r781q = 0))) (by kernel_rfl) (fun a819q h820q => ?_))
        clear h818q a817q
        refine WL.block (c := 2) (m' := 10) h820q rfl [(4, .bool (decide (r781q = 0))), (31, .bool (decide (r781q = 0)))] (by kernel_rfl) (fun a821q h822q => ?_)
        clear h820q a819q
        refine WL.done (by kernel_rfl) ?_
        refine wp_ret ?_
        obtain rfl := Option.some.inj H
        repeat (first | refine then_ret ?_ | refine inBlock_ret ?_ | refine inBlock_go ?_)
        refine body_ret (v := .bool (decide (r781q = 0))) h822q (by kernel_rfl) (by kernel_rfl) ?_
        exact ⟨rfl, hS806q⟩
      · rw [if_neg c816q] at H
        have hb_ : (decide (r780q = 0)) = false := decide_eq_false c816q
        try rw [hb_] at h815q
        clear hb_
        refine WL.skipped (m := 6) h815q rfl rfl (by kernel_rfl) rfl (fun a823q h824q => ?_)
        clear h815q a814q
        refine WL.skipped (m := 7) h824q rfl rfl (by kernel_rfl) rfl (fun a825q h826q => ?_)
        clear h824q a823q
        refine WL.block (c := 2) (m' := 10) h826q rfl [(4, .bool false), (31, .bool false)] (by kernel_rfl) (fun a827q h828q => ?_)
        clear h826q a825q
        refine WL.done (by kernel_rfl) ?_
        refine wp_ret ?_
        obtain rfl := Option.some.inj H
        repeat (first | refine then_ret ?_ | refine inBlock_ret ?_ | refine inBlock_go ?_)
        refine body_ret (v := .bool false) h828q (by kernel_rfl) (by kernel_rfl) ?_
        exact ⟨rfl, hS806q⟩
    · rw [if_neg c809q] at H
      have hb_ : r800q = false := (Bool.eq_false_iff.2 c809q)
      try rw [hb_] at h808q
      clear hb_
      refine WL.skipped (m := 2) h808q rfl rfl (by kernel_rfl) rfl (fun a829q h830q => ?_)
      clear h808q a807q
      refine WL.skipped (m := 3) h830q rfl rfl (by kernel_rfl) rfl (fun a831q h832q => ?_)
      clear h830q a829q
      refine WL.block (c := 2) (m' := 6) h832q rfl [(28, .bool false), (27, .bool false)] (by kernel_rfl) (fun a833q h834q => ?_)
      clear h832q a831q
      refine WL.skipped (m := 6) h834q rfl rfl (by kernel_rfl) rfl (fun a835q h836q => ?_)
      clear h834q a833q
      refine WL.skipped (m := 7) h836q rfl rfl (by kernel_rfl) rfl (fun a837q h838q => ?_)
      clear h836q a835q
      refine WL.block (c := 2) (m' := 10) h838q rfl [(4, .bool false), (31, .bool false)] (by kernel_rfl) (fun a839q h840q => ?_)
      clear h838q a837q
      refine WL.done (by kernel_rfl) ?_
      refine wp_ret ?_
      obtain rfl := Option.some.inj H
      repeat (first | refine then_ret ?_ | refine inBlock_ret ?_ | refine inBlock_go ?_)
      refine body_ret (v := .bool false) h840q (by kernel_rfl) (by kernel_rfl) ?_
      exact ⟨rfl, hS806q⟩
  · rw [if_neg c792q] at H
    have hb_ : (decide (p0 < 0)) = false := decide_eq_false c792q
    try rw [hb_] at h791q
    clear hb_
    refine WL.op' (m := 3) h791q rfl rfl (owp_run h791q rfl (by kernel_rfl) (v := .int .i64 p0) (by kernel_rfl) (fun a841q h842q => ?_))
    clear h791q a790q
    refine WL.op' (m := 4) h842q rfl rfl (owp_run h842q rfl (by kernel_rfl) (v := .bool (decide (p0 > 256))) (by kernel_rfl) (fun a843q h844q => ?_))
    clear h842q a841q
    refine WL.block (c := 1) (m' := 6) h844q rfl [(22, .bool (decide (p0 > 256)))] (by kernel_rfl) (fun a845q h846q => ?_)
    clear h844q a843q
    refine WL.done (by kernel_rfl) ?_
    by_cases c847q : p0 > 256
    · rw [if_pos c847q] at H
      have hb_ : (decide (p0 > 256)) = true := decide_eq_true c847q
      try rw [hb_] at h846q
      clear hb_
      refine wp_then h846q rfl ?_
      refine wp_seq ?_
      refine WL.start ?_
      obtain ⟨r849q, A848q, H⟩ := bind1 H
      refine WL.op' (m := 0) h846q rfl rfl ?_
      refine owp_call [] h846q rfl (by kernel_rfl) rfl Tryd.func10 (by kernel_rfl) rfl (by kernel_rfl) (louverlaw03qfixed.calls k hg0 A848q hS787q) (fun e851q W850q hp852q => ?_)
      obtain ⟨rfl, hS855q⟩ := hp852q
      refine ⟨_, rfl, fun a853q h854q => ?_⟩
      clear h846q a845q
      refine WL.block (c := 1) (m' := 2) h854q rfl [(24, .bool r849q)] (by kernel_rfl) (fun a856q h857q => ?_)
      clear h854q a853q
      by_cases c858q : r849q = true
      · rw [if_pos c858q] at H
        have hb_ : r849q = true := c858q
        try rw [hb_] at h857q
        clear hb_
        refine WL.op' (m := 2) h857q rfl rfl (owp_run h857q rfl (by kernel_rfl) (v := .int .u32 r780q) (by kernel_rfl) (fun a859q h860q => ?_))
        clear h857q a856q
        refine WL.op' (m := 3) h860q rfl rfl (owp_run h860q rfl (by kernel_rfl) (v := .bool (decide (r780q = 0))) (by kernel_rfl) (fun a861q h862q => ?_))
        clear h860q a859q
        refine WL.block (c := 2) (m' := 6) h862q rfl [(28, .bool (decide (r780q = 0))), (27, .bool (decide (r780q = 0)))] (by kernel_rfl) (fun a863q h864q => ?_)
        clear h862q a861q
        by_cases c865q : r780q = 0
        · rw [if_pos c865q] at H
          have hb_ : (decide (r780q = 0)) = true := decide_eq_true c865q
          try rw [hb_] at h864q
          clear hb_
          refine WL.op' (m := 6) h864q rfl rfl (owp_run h864q rfl (by kernel_rfl) (v := .int .i64 r781q) (by kernel_rfl) (fun a866q h867q => ?_))
          clear h864q a863q
          refine WL.op' (m := 7) h867q rfl rfl (owp_run h867q rfl (by kernel_rfl) (v := .bool (decide (r781q = 0))) (by kernel_rfl) (fun a868q h869q => ?_))
          clear h867q a866q
          refine WL.block (c := 2) (m' := 10) h869q rfl [(4, .bool (decide (r781q = 0))), (31, .bool (decide (r781q = 0)))] (by kernel_rfl) (fun a870q h871q => ?_)
          clear h869q a868q
          refine WL.done (by kernel_rfl) ?_
          refine wp_ret ?_
          obtain rfl := Option.some.inj H
          repeat (first | refine then_ret ?_ | refine inBlock_ret ?_ | refine inBlock_go ?_)
          refine body_ret (v := .bool (decide (r781q = 0))) h871q (by kernel_rfl) (by kernel_rfl) ?_
          exact ⟨rfl, hS855q⟩
        · rw [if_neg c865q] at H
          have hb_ : (decide (r780q = 0)) = false := decide_eq_false c865q
          try rw [hb_] at h864q
          clear hb_
          refine WL.skipped (m := 6) h864q rfl rfl (by kernel_rfl) rfl (fun a872q h873q => ?_)
          clear h864q a863q
          refine WL.skipped (m := 7) h873q rfl rfl (by kernel_rfl) rfl (fun a874q h875q => ?_)
          clear h873q a872q
          refine WL.block (c := 2) (m' := 10) h875q rfl [(4, .bool false), (31, .bool false)] (by kernel_rfl) (fun a876q h877q => ?_)
          clear h875q a874q
          refine WL.done (by kernel_rfl) ?_
          refine wp_ret ?_
          obtain rfl := Option.some.inj H
          repeat (first | refine then_ret ?_ | refine inBlock_ret ?_ | refine inBlock_go ?_)
          refine body_ret (v := .bool false) h877q (by kernel_rfl) (by kernel_rfl) ?_
          exact ⟨rfl, hS855q⟩
      · rw [if_neg c858q] at H
        have hb_ : r849q = false := (Bool.eq_false_iff.2 c858q)
        try rw [hb_] at h857q
        clear hb_
        refine WL.skipped (m := 2) h857q rfl rfl (by kernel_rfl) rfl (fun a878q h879q => ?_)
        clear h857q a856q
        refine WL.skipped (m := 3) h879q rfl rfl (by kernel_rfl) rfl (fun a880q h881q => ?_)
        clear h879q a878q
        refine WL.block (c := 2) (m' := 6) h881q rfl [(28, .bool false), (27, .bool false)] (by kernel_rfl) (fun a882q h883q => ?_)
        clear h881q a880q
        refine WL.skipped (m := 6) h883q rfl rfl (by kernel_rfl) rfl (fun a884q h885q => ?_)
        clear h883q a882q
        refine WL.skipped (m := 7) h885q rfl rfl (by kernel_rfl) rfl (fun a886q h887q => ?_)
        clear h885q a884q
        refine WL.block (c := 2) (m' := 10) h887q rfl [(4, .bool false), (31, .bool false)] (by kernel_rfl) (fun a888q h889q => ?_)
        clear h887q a886q
        refine WL.done (by kernel_rfl) ?_
        refine wp_ret ?_
        obtain rfl := Option.some.inj H
        repeat (first | refine then_ret ?_ | refine inBlock_ret ?_ | refine inBlock_go ?_)
        refine body_ret (v := .bool false) h889q (by kernel_rfl) (by kernel_rfl) ?_
        exact ⟨rfl, hS855q⟩
    · rw [if_neg c847q] at H
      have hb_ : (decide (p0 > 256)) = false := decide_eq_false c847q
      try rw [hb_] at h846q
      clear hb_
      refine wp_else h846q rfl ?_
      refine wp_skip ?_
      refine wp_seq ?_
      refine WL.start ?_
      obtain ⟨r891q, A890q, H⟩ := bind1 H
      refine WL.op' (m := 0) h846q rfl rfl ?_
      refine owp_call [] h846q rfl (by kernel_rfl) rfl Tryd.func11 (by kernel_rfl) rfl (by kernel_rfl) (louverref03qCodes.calls k  A890q hS787q) (fun e893q W892q hp894q => ?_)
      obtain ⟨v897q, M898q, rfl, hr899q, hS900q⟩ := hp894q
      refine ⟨_, rfl, fun a895q h896q => ?_⟩
      clear h846q a845q
      obtain ⟨A901q, c902q, rfl⟩ := hr899q.form
      refine WL.block (c := 1) (m' := 2) h896q rfl [(7, .slice A901q r891q.length c902q)] (by kernel_rfl) (fun a903q h904q => ?_)
      clear h896q a895q
      refine WL.done (by kernel_rfl) ?_
      refine wp_seq ?_
      refine WL.start ?_
      refine WL.block (c := 2) (m' := 2) h904q rfl [(34, .int .i64 p0), (33, .slice A901q r891q.length c902q)] (by kernel_rfl) (fun a905q h906q => ?_)
      clear h904q a903q
      by_cases c907q : 0 ≤ p0
      · rw [if_pos c907q] at H
        by_cases c908q : p0 < (r891q.length : Int)
        · rw [if_pos c908q] at H
          have hi911q : 0 ≤ p0 := by first | assumption | omega
          have hi912q : p0 < (r891q.length : Int) := by first | assumption | omega
          obtain ⟨ad909q, _, ha910q, -, -⟩ := Rds.elemAny hr899q.rds hi911q (gt_get (z := []) hi911q hi912q)
          refine WL.op' (m := 2) h906q rfl rfl ?_
          refine owp_run (v := .pointer (some (ad909q.add (p0.toNat * 1)))) h906q rfl (by kernel_rfl) (run_idx (ad := ad909q) (sz := 1) rfl (by rw [← ha910q]; rfl) rfl Tryd.underlying26 (by kernel_rfl) hi911q hi912q) (fun a913q h914q => ?_)
          clear h906q a905q
          obtain ⟨ad915q, cs916q, ha917q, hr919q, hc918q⟩ := Rds.elemAny hr899q.rds hi911q (gt_get (z := []) hi911q hi912q)
          rw [ha910q] at ha917q; obtain rfl := Option.some.inj ha917q
          obtain rfl : cs916q = [.string (mkS (gt [] r891q p0))] := hr919q
          refine WL.op' (m := 3) h914q rfl rfl ?_
          refine owp_run (v := .string (mkS (gt [] r891q p0))) h914q rfl (by kernel_rfl) (run_load1 rfl rfl Tryd.underlying9 rfl (cell0 (hc918q _ (fun _ _ hk_ => (hS900q).pool.kn hk_)))) (fun a920q h921q => ?_)
          clear h914q a913q
          refine WL.block (c := 1) (m' := 5) h921q rfl [(8, .string (mkS (gt [] r891q p0)))] (by kernel_rfl) (fun a922q h923q => ?_)
          clear h921q a920q
          refine WL.done (by kernel_rfl) ?_
          refine wp_seq ?_
          refine WL.start ?_
          refine WL.block (c := 1) (m' := 1) h923q rfl [(9, .int .u32 0)] (by kernel_rfl) (fun a924q h925q => ?_)
          clear h923q a922q
          refine WL.done (by kernel_rfl) ?_
          refine wp_seq ?_
          refine wp_seq ?_
          refine WL.start ?_
          refine WL.block (c := 3) (m' := 3) h925q rfl [(39, .int .i64 0), (38, .int .i64 ((gt [] r891q p0).length : Int)), (37, .string (mkS (gt [] r891q p0)))] (by kernel_rfl) (fun a926q h927q => ?_)
          clear h925q a924q
          refine WL.done (by kernel_rfl) ?_
          refine wp_block ?_
          refine wp_loop_ghost (fun kq_ a_ W_ => ∃ (x933q : Int), ∃ (x934q : Int), Hd a_ 92 [(0, .int .i64 p0), (1, .int .i64 p1), (5, .int .u32 r780q), (6, .int .i64 r781q), (7, .slice A901q r891q.length c902q), (8, .string (mkS (gt [] r891q p0))), (9, .int .u32 x933q), (38, .int .i64 ((gt [] r891q p0).length : Int)), (39, .int .i64 x934q)] ∧ Asd (louverlaw03qHuffmanCode.l0 kq_ x933q x934q p0 p1 r780q r781q r891q = some r0q) ∧ Asd (kq_ ≤ k) ∧ Asd (St b w0 W_ R (M898q :: Fs))) k ⟨0, 0, h927q.keep ⟨rfl, rfl, rfl, rfl, rfl, rfl, rfl, rfl, rfl, trivial⟩, ⟨H⟩, ⟨Nat.le_refl _⟩, ⟨hS900q⟩⟩ ?_
          clear H hS900q
          rintro k932q a929q W930q ⟨x933q, x934q, h928q, ⟨H⟩, ⟨hkk932q⟩, ⟨hS931q⟩⟩
          obtain _ | k935q := k932q
          · exact absurd H (by simp [louverlaw03qHuffmanCode.l0])
          simp only [louverlaw03qHuffmanCode.l0] at H
          refine wp_seq ?_
          refine WL.start ?_
          refine WL.block (c := 1) (m' := 1) h928q rfl [(40, .bool (decide (x934q < ((gt [] r891q p0).length : Int))))] (by kernel_rfl) (fun a936q h937q => ?_)
          clear h928q a929q
          refine WL.done (by kernel_rfl) ?_
          refine wp_seq ?_
          by_cases c938q : x934q < ((gt [] r891q p0).length : Int)
          · rw [if_pos c938q] at H
            have hb_ : (decide (x934q < ((gt [] r891q p0).length : Int))) = true := decide_eq_true c938q
            try rw [hb_] at h937q
            clear hb_
            refine wp_then h937q rfl ?_
            refine wp_skip ?_
            refine wp_seq ?_
            refine wp_block ?_
            refine wp_seq ?_
            refine WL.start ?_
            refine WL.block (c := 2) (m' := 2) h937q rfl [(10, .int .i64 x934q), (41, .int .i64 x934q)] (by kernel_rfl) (fun a939q h940q => ?_)
            clear h937q a936q
            refine WL.done (by kernel_rfl) ?_
            refine WL.start ?_
            refine WL.block (c := 4) (m' := 4) h940q rfl [(45, .int .i64 x934q), (44, .string (mkS (gt [] r891q p0))), (43, .int .u32 (IntKind.u32.wrap (2 * x933q))), (42, .int .u32 x933q)] (by kernel_rfl) (fun a941q h942q => ?_)
            clear h940q a939q
            by_cases c943q : 0 ≤ x934q
            · rw [if_pos c943q] at H
              refine WL.op' (m := 4) h942q rfl rfl ?_
              refine owp_run (v := .int .u8 (btI (gt [] r891q p0) x934q)) h942q rfl (by kernel_rfl) (run_stridx rfl rfl rfl Tryd.underlying9 (by first | assumption | omega) (by first | assumption | omega)) (fun a944q h945q => ?_)
              clear h942q a941q
              refine WL.block (c := 4) (m' := 9) h945q rfl [(9, .int .u32 (IntKind.u32.wrap ((IntKind.u32.wrap (2 * x933q)) + (IntKind.u32.wrap (IntKind.u8.wrap ((btI (gt [] r891q p0) x934q) - 48)))))), (49, .int .u32 (IntKind.u32.wrap ((IntKind.u32.wrap (2 * x933q)) + (IntKind.u32.wrap (IntKind.u8.wrap ((btI (gt [] r891q p0) x934q) - 48)))))), (48, .int .u32 (IntKind.u32.wrap (IntKind.u8.wrap ((btI (gt [] r891q p0) x934q) - 48)))), (47, .int .u8 (IntKind.u8.wrap ((btI (gt [] r891q p0) x934q) - 48)))] (by kernel_rfl) (fun a946q h947q => ?_)
              clear h945q a944q
              refine WL.done (by kernel_rfl) ?_
              refine WL.start ?_
              refine WL.block (c := 2) (m' := 2) h947q rfl [(39, .int .i64 (IntKind.i64.wrap (x934q + 1))), (50, .int .i64 (IntKind.i64.wrap (x934q + 1)))] (by kernel_rfl) (fun a948q h949q => ?_)
              clear h947q a946q
              refine WL.done (by kernel_rfl) ?_
              exact ⟨k935q, by omega, IntKind.u32.wrap ((IntKind.u32.wrap (2 * x933q)) + (IntKind.u32.wrap (IntKind.u8.wrap ((btI (gt [] r891q p0) x934q) - 48)))), IntKind.i64.wrap (x934q + 1), h949q.keep ⟨rfl, rfl, rfl, rfl, rfl, rfl, rfl, rfl, rfl, trivial⟩, ⟨H⟩, ⟨by omega⟩, ⟨hS931q⟩⟩
            · rw [if_neg c943q] at H
              cases H
          · rw [if_neg c938q] at H
            have hb_ : (decide (x934q < ((gt [] r891q p0).length : Int))) = false := decide_eq_false c938q
            try rw [hb_] at h937q
            clear hb_
            refine wp_else h937q rfl ?_
            refine wp_exit ?_
            refine wp_seq ?_
            refine wp_seq ?_
            refine WL.start ?_
            refine WL.block (c := 4) (m' := 4) h937q rfl [(54, .bool (!decide (r780q = x933q))), (53, .bool (!decide (r780q = x933q))), (52, .int .u32 x933q), (51, .int .u32 r780q)] (by kernel_rfl) (fun a950q h951q => ?_)
            clear h937q a936q
            by_cases c952q : r780q = x933q
            · rw [if_pos c952q] at H
              have hb_ : (decide (r780q = x933q)) = true := decide_eq_true c952q
              try rw [hb_] at h951q
              clear hb_
              refine WL.op' (m := 4) h951q rfl rfl (owp_run h951q rfl (by kernel_rfl) (v := .int .i64 r781q) (by kernel_rfl) (fun a953q h954q => ?_))
              clear h951q a950q
              refine WL.op' (m := 5) h954q rfl rfl (owp_run h954q rfl (by kernel_rfl) (v := .string (mkS (gt [] r891q p0))) (by kernel_rfl) (fun a955q h956q => ?_))
              clear h954q a953q
              refine WL.op' (m := 6) h956q rfl rfl (owp_run h956q rfl (by kernel_rfl) (v := .int .i64 ((gt [] r891q p0).length : Int)) (by kernel_rfl) (fun a957q h958q => ?_))
              clear h956q a955q
              refine WL.op' (m := 7) h958q rfl rfl (owp_run h958q rfl (by kernel_rfl) (v := .bool (!decide (r781q = ((gt [] r891q p0).length : Int)))) (by kernel_rfl) (fun a959q h960q => ?_))
              clear h958q a957q
              refine WL.block (c := 1) (m' := 9) h960q rfl [(59, .bool (!decide (r781q = ((gt [] r891q p0).length : Int))))] (by kernel_rfl) (fun a961q h962q => ?_)
              clear h960q a959q
              refine WL.done (by kernel_rfl) ?_
              by_cases c963q : r781q = ((gt [] r891q p0).length : Int)
              · rw [if_pos c963q] at H
                have hb_ : (decide (r781q = ((gt [] r891q p0).length : Int))) = true := decide_eq_true c963q
                try rw [hb_] at h962q
                clear hb_
                refine wp_else h962q rfl ?_
                refine wp_skip ?_
                refine wp_seq ?_
                refine wp_seq ?_
                refine WL.start ?_
                refine WL.block (c := 3) (m' := 3) h962q rfl [(62, .bool (decide (p1 < 0))), (61, .bool (decide (p1 < 0))), (60, .int .i64 p1)] (by kernel_rfl) (fun a964q h965q => ?_)
                clear h962q a961q
                by_cases c966q : p1 < 0
                · rw [if_pos c966q] at H
                  have hb_ : (decide (p1 < 0)) = true := decide_eq_true c966q
                  try rw [hb_] at h965q
                  clear hb_
                  refine WL.skipped (m := 3) h965q rfl rfl (by kernel_rfl) rfl (fun a967q h968q => ?_)
                  clear h965q a964q
                  refine WL.skipped (m := 4) h968q rfl rfl (by kernel_rfl) rfl (fun a969q h970q => ?_)
                  clear h968q a967q
                  refine WL.block (c := 2) (m' := 7) h970q rfl [(66, .bool true), (65, .bool true)] (by kernel_rfl) (fun a971q h972q => ?_)
                  clear h970q a969q
                  refine WL.skipped (m := 7) h972q rfl rfl (by kernel_rfl) rfl (fun a973q h974q => ?_)
                  clear h972q a971q
                  refine WL.skipped (m := 8) h974q rfl rfl (by kernel_rfl) rfl (fun a975q h976q => ?_)
                  clear h974q a973q
                  refine WL.skipped (m := 9) h976q rfl rfl (by kernel_rfl) rfl (fun a977q h978q => ?_)
                  clear h976q a975q
                  refine WL.block (c := 1) (m' := 11) h978q rfl [(70, .bool true)] (by kernel_rfl) (fun a979q h980q => ?_)
                  clear h978q a977q
                  refine WL.done (by kernel_rfl) ?_
                  refine wp_then h980q rfl ?_
                  refine wp_seq ?_
                  refine WL.start ?_
                  obtain ⟨r982q, A981q, H⟩ := bind1 H
                  refine WL.op' (m := 0) h980q rfl rfl ?_
                  refine owp_call [] h980q rfl (by kernel_rfl) rfl Tryd.func10 (by kernel_rfl) rfl (by kernel_rfl) (louverlaw03qfixed.calls k935q hg0 A981q hS931q) (fun e984q W983q hp985q => ?_)
                  obtain ⟨rfl, hS988q⟩ := hp985q
                  refine ⟨_, rfl, fun a986q h987q => ?_⟩
                  clear h980q a979q
                  refine WL.block (c := 1) (m' := 2) h987q rfl [(4, .bool r982q)] (by kernel_rfl) (fun a989q h990q => ?_)
                  clear h987q a986q
                  refine WL.done (by kernel_rfl) ?_
                  refine wp_ret ?_
                  have hS991q : St b w0 W983q R (Fs) := hS988q.drop_
                  obtain rfl := Option.some.inj H
                  repeat (first | refine then_ret ?_ | refine inBlock_ret ?_ | refine inBlock_go ?_)
                  refine body_ret (v := .bool r982q) h990q (by kernel_rfl) (by kernel_rfl) ?_
                  exact ⟨rfl, hS991q⟩
                · rw [if_neg c966q] at H
                  have hb_ : (decide (p1 < 0)) = false := decide_eq_false c966q
                  try rw [hb_] at h965q
                  clear hb_
                  refine WL.op' (m := 3) h965q rfl rfl (owp_run h965q rfl (by kernel_rfl) (v := .int .i64 p1) (by kernel_rfl) (fun a992q h993q => ?_))
                  clear h965q a964q
                  refine WL.op' (m := 4) h993q rfl rfl (owp_run h993q rfl (by kernel_rfl) (v := .bool (decide (p1 > 256))) (by kernel_rfl) (fun a994q h995q => ?_))
                  clear h993q a992q
                  refine WL.block (c := 2) (m' := 7) h995q rfl [(66, .bool (decide (p1 > 256))), (65, .bool (decide (p1 > 256)))] (by kernel_rfl) (fun a996q h997q => ?_)
                  clear h995q a994q
                  by_cases c998q : p1 > 256
                  · rw [if_pos c998q] at H
                    have hb_ : (decide (p1 > 256)) = true := decide_eq_true c998q
                    try rw [hb_] at h997q
                    clear hb_
                    refine WL.skipped (m := 7) h997q rfl rfl (by kernel_rfl) rfl (fun a999q h1000q => ?_)
                    clear h997q a996q
                    refine WL.skipped (m := 8) h1000q rfl rfl (by kernel_rfl) rfl (fun a1001q h1002q => ?_)
                    clear h1000q a999q
                    refine WL.skipped (m := 9) h1002q rfl rfl (by kernel_rfl) rfl (fun a1003q h1004q => ?_)
                    clear h1002q a1001q
                    refine WL.block (c := 1) (m' := 11) h1004q rfl [(70, .bool true)] (by kernel_rfl) (fun a1005q h1006q => ?_)
                    clear h1004q a1003q
                    refine WL.done (by kernel_rfl) ?_
                    refine wp_then h1006q rfl ?_
                    refine wp_seq ?_
                    refine WL.start ?_
                    obtain ⟨r1008q, A1007q, H⟩ := bind1 H
                    refine WL.op' (m := 0) h1006q rfl rfl ?_
                    refine owp_call [] h1006q rfl (by kernel_rfl) rfl Tryd.func10 (by kernel_rfl) rfl (by kernel_rfl) (louverlaw03qfixed.calls k935q hg0 A1007q hS931q) (fun e1010q W1009q hp1011q => ?_)
                    obtain ⟨rfl, hS1014q⟩ := hp1011q
                    refine ⟨_, rfl, fun a1012q h1013q => ?_⟩
                    clear h1006q a1005q
                    refine WL.block (c := 1) (m' := 2) h1013q rfl [(4, .bool r1008q)] (by kernel_rfl) (fun a1015q h1016q => ?_)
                    clear h1013q a1012q
                    refine WL.done (by kernel_rfl) ?_
                    refine wp_ret ?_
                    have hS1017q : St b w0 W1009q R (Fs) := hS1014q.drop_
                    obtain rfl := Option.some.inj H
                    repeat (first | refine then_ret ?_ | refine inBlock_ret ?_ | refine inBlock_go ?_)
                    refine body_ret (v := .bool r1008q) h1016q (by kernel_rfl) (by kernel_rfl) ?_
                    exact ⟨rfl, hS1017q⟩
                  · rw [if_neg c998q] at H
                    have hb_ : (decide (p1 > 256)) = false := decide_eq_false c998q
                    try rw [hb_] at h997q
                    clear hb_
                    refine WL.op' (m := 7) h997q rfl rfl (owp_run h997q rfl (by kernel_rfl) (v := .int .i64 p1) (by kernel_rfl) (fun a1018q h1019q => ?_))
                    clear h997q a996q
                    refine WL.op' (m := 8) h1019q rfl rfl (owp_run h1019q rfl (by kernel_rfl) (v := .int .i64 p0) (by kernel_rfl) (fun a1020q h1021q => ?_))
                    clear h1019q a1018q
                    refine WL.op' (m := 9) h1021q rfl rfl (owp_run h1021q rfl (by kernel_rfl) (v := .bool (decide (p1 = p0))) (by kernel_rfl) (fun a1022q h1023q => ?_))
                    clear h1021q a1020q
                    refine WL.block (c := 1) (m' := 11) h1023q rfl [(70, .bool (decide (p1 = p0)))] (by kernel_rfl) (fun a1024q h1025q => ?_)
                    clear h1023q a1022q
                    refine WL.done (by kernel_rfl) ?_
                    by_cases c1026q : p1 = p0
                    · rw [if_pos c1026q] at H
                      have hb_ : (decide (p1 = p0)) = true := decide_eq_true c1026q
                      try rw [hb_] at h1025q
                      clear hb_
                      refine wp_then h1025q rfl ?_
                      refine wp_seq ?_
                      refine WL.start ?_
                      obtain ⟨r1028q, A1027q, H⟩ := bind1 H
                      refine WL.op' (m := 0) h1025q rfl rfl ?_
                      refine owp_call [] h1025q rfl (by kernel_rfl) rfl Tryd.func10 (by kernel_rfl) rfl (by kernel_rfl) (louverlaw03qfixed.calls k935q hg0 A1027q hS931q) (fun e1030q W1029q hp1031q => ?_)
                      obtain ⟨rfl, hS1034q⟩ := hp1031q
                      refine ⟨_, rfl, fun a1032q h1033q => ?_⟩
                      clear h1025q a1024q
                      refine WL.block (c := 1) (m' := 2) h1033q rfl [(4, .bool r1028q)] (by kernel_rfl) (fun a1035q h1036q => ?_)
                      clear h1033q a1032q
                      refine WL.done (by kernel_rfl) ?_
                      refine wp_ret ?_
                      have hS1037q : St b w0 W1029q R (Fs) := hS1034q.drop_
                      obtain rfl := Option.some.inj H
                      repeat (first | refine then_ret ?_ | refine inBlock_ret ?_ | refine inBlock_go ?_)
                      refine body_ret (v := .bool r1028q) h1036q (by kernel_rfl) (by kernel_rfl) ?_
                      exact ⟨rfl, hS1037q⟩
                    · rw [if_neg c1026q] at H
                      have hb_ : (decide (p1 = p0)) = false := decide_eq_false c1026q
                      try rw [hb_] at h1025q
                      clear hb_
                      refine wp_else h1025q rfl ?_
                      refine wp_skip ?_
                      refine wp_seq ?_
                      refine WL.start ?_
                      refine WL.block (c := 2) (m' := 2) h1025q rfl [(73, .int .i64 p1), (72, .slice A901q r891q.length c902q)] (by kernel_rfl) (fun a1038q h1039q => ?_)
                      clear h1025q a1024q
                      by_cases c1040q : 0 ≤ p1
                      · rw [if_pos c1040q] at H
                        by_cases c1041q : p1 < (r891q.length : Int)
                        · rw [if_pos c1041q] at H
                          have hi1044q : 0 ≤ p1 := by first | assumption | omega
                          have hi1045q : p1 < (r891q.length : Int) := by first | assumption | omega
                          obtain ⟨ad1042q, _, ha1043q, -, -⟩ := Rds.elemAny hr899q.rds hi1044q (gt_get (z := []) hi1044q hi1045q)
                          refine WL.op' (m := 2) h1039q rfl rfl ?_
                          refine owp_run (v := .pointer (some (ad1042q.add (p1.toNat * 1)))) h1039q rfl (by kernel_rfl) (run_idx (ad := ad1042q) (sz := 1) rfl (by rw [← ha1043q]; rfl) rfl Tryd.underlying26 (by kernel_rfl) hi1044q hi1045q) (fun a1046q h1047q => ?_)
                          clear h1039q a1038q
                          obtain ⟨ad1048q, cs1049q, ha1050q, hr1052q, hc1051q⟩ := Rds.elemAny hr899q.rds hi1044q (gt_get (z := []) hi1044q hi1045q)
                          rw [ha1043q] at ha1050q; obtain rfl := Option.some.inj ha1050q
                          obtain rfl : cs1049q = [.string (mkS (gt [] r891q p1))] := hr1052q
                          refine WL.op' (m := 3) h1047q rfl rfl ?_
                          refine owp_run (v := .string (mkS (gt [] r891q p1))) h1047q rfl (by kernel_rfl) (run_load1 rfl rfl Tryd.underlying9 rfl (cell0 (hc1051q _ (fun _ _ hk_ => (hS931q).pool.kn hk_)))) (fun a1053q h1054q => ?_)
                          clear h1047q a1046q
                          refine WL.block (c := 1) (m' := 5) h1054q rfl [(11, .string (mkS (gt [] r891q p1)))] (by kernel_rfl) (fun a1055q h1056q => ?_)
                          clear h1054q a1053q
                          refine WL.done (by kernel_rfl) ?_
                          refine wp_seq ?_
                          refine WL.start ?_
                          obtain ⟨r1058q, A1057q, H⟩ := bind1 H
                          refine WL.op' (m := 0) h1056q rfl rfl ?_
                          refine owp_call [] h1056q rfl (by kernel_rfl) rfl Tryd.func10 (by kernel_rfl) rfl (by kernel_rfl) (louverlaw03qfixed.calls k935q hg0 A1057q hS931q) (fun e1060q W1059q hp1061q => ?_)
                          obtain ⟨rfl, hS1064q⟩ := hp1061q
                          refine ⟨_, rfl, fun a1062q h1063q => ?_⟩
                          clear h1056q a1055q
                          refine WL.block (c := 1) (m' := 2) h1063q rfl [(77, .bool r1058q)] (by kernel_rfl) (fun a1065q h1066q => ?_)
                          clear h1063q a1062q
                          by_cases c1067q : r1058q = true
                          · rw [if_pos c1067q] at H
                            have hb_ : r1058q = true := c1067q
                            try rw [hb_] at h1066q
                            clear hb_
                            refine WL.op' (m := 2) h1066q rfl rfl (owp_run h1066q rfl (by kernel_rfl) (v := .string (mkS (gt [] r891q p0))) (by kernel_rfl) (fun a1068q h1069q => ?_))
                            clear h1066q a1065q
                            refine WL.op' (m := 3) h1069q rfl rfl (owp_run h1069q rfl (by kernel_rfl) (v := .int .i64 ((gt [] r891q p0).length : Int)) (by kernel_rfl) (fun a1070q h1071q => ?_))
                            clear h1069q a1068q
                            refine WL.op' (m := 4) h1071q rfl rfl (owp_run h1071q rfl (by kernel_rfl) (v := .string (mkS (gt [] r891q p1))) (by kernel_rfl) (fun a1072q h1073q => ?_))
                            clear h1071q a1070q
                            refine WL.op' (m := 5) h1073q rfl rfl (owp_run h1073q rfl (by kernel_rfl) (v := .int .i64 ((gt [] r891q p1).length : Int)) (by kernel_rfl) (fun a1074q h1075q => ?_))
                            clear h1073q a1072q
                            refine WL.op' (m := 6) h1075q rfl rfl (owp_run h1075q rfl (by kernel_rfl) (v := .bool (decide (((gt [] r891q p0).length : Int) > ((gt [] r891q p1).length : Int)))) (by kernel_rfl) (fun a1076q h1077q => ?_))
                            clear h1075q a1074q
                            refine WL.op' (m := 7) h1077q rfl rfl (owp_run h1077q rfl (by kernel_rfl) (v := .bool (decide (((gt [] r891q p0).length : Int) > ((gt [] r891q p1).length : Int)))) (by kernel_rfl) (fun a1078q h1079q => ?_))
                            clear h1077q a1076q
                            by_cases c1080q : ((gt [] r891q p0).length : Int) > ((gt [] r891q p1).length : Int)
                            · rw [if_pos c1080q] at H
                              have hb_ : (decide (((gt [] r891q p0).length : Int) > ((gt [] r891q p1).length : Int))) = true := decide_eq_true c1080q
                              try rw [hb_] at h1079q
                              clear hb_
                              refine WL.skipped (m := 8) h1079q rfl rfl (by kernel_rfl) rfl (fun a1081q h1082q => ?_)
                              clear h1079q a1078q
                              refine WL.skipped (m := 9) h1082q rfl rfl (by kernel_rfl) rfl (fun a1083q h1084q => ?_)
                              clear h1082q a1081q
                              refine WL.skipped (m := 10) h1084q rfl rfl (by kernel_rfl) rfl (fun a1085q h1086q => ?_)
                              clear h1084q a1083q
                              refine WL.skipped (m := 11) h1086q rfl rfl (by kernel_rfl) rfl (fun a1087q h1088q => ?_)
                              clear h1086q a1085q
                              refine WL.skipped (m := 12) h1088q rfl rfl (by kernel_rfl) rfl (fun a1089q h1090q => ?_)
                              clear h1088q a1087q
                              refine WL.skipped (m := 13) h1090q rfl rfl (by kernel_rfl) rfl (fun a1091q h1092q => ?_)
                              clear h1090q a1089q
                              refine WL.op' (m := 14) h1092q rfl rfl (owp_run h1092q rfl (by kernel_rfl) (v := .bool true) (by kernel_rfl) (fun a1093q h1094q => ?_))
                              clear h1092q a1091q
                              refine WL.block (c := 2) (m' := 17) h1094q rfl [(4, .bool true), (91, .bool true)] (by kernel_rfl) (fun a1095q h1096q => ?_)
                              clear h1094q a1093q
                              refine WL.done (by kernel_rfl) ?_
                              refine wp_ret ?_
                              have hS1097q : St b w0 W1059q R (Fs) := hS1064q.drop_
                              obtain rfl := Option.some.inj H
                              repeat (first | refine then_ret ?_ | refine inBlock_ret ?_ | refine inBlock_go ?_)
                              refine body_ret (v := .bool true) h1096q (by kernel_rfl) (by kernel_rfl) ?_
                              exact ⟨rfl, hS1097q⟩
                            · rw [if_neg c1080q] at H
                              have hb_ : (decide (((gt [] r891q p0).length : Int) > ((gt [] r891q p1).length : Int))) = false := decide_eq_false c1080q
                              try rw [hb_] at h1079q
                              clear hb_
                              refine WL.op' (m := 8) h1079q rfl rfl (owp_run h1079q rfl (by kernel_rfl) (v := .string (mkS (gt [] r891q p1))) (by kernel_rfl) (fun a1098q h1099q => ?_))
                              clear h1079q a1078q
                              refine WL.op' (m := 9) h1099q rfl rfl (owp_run h1099q rfl (by kernel_rfl) (v := .string (mkS (gt [] r891q p0))) (by kernel_rfl) (fun a1100q h1101q => ?_))
                              clear h1099q a1098q
                              refine WL.op' (m := 10) h1101q rfl rfl (owp_run h1101q rfl (by kernel_rfl) (v := .int .i64 ((gt [] r891q p0).length : Int)) (by kernel_rfl) (fun a1102q h1103q => ?_))
                              clear h1101q a1100q
                              by_cases c1104q : 0 ≤ ((gt [] r891q p0).length : Int)
                              · rw [if_pos c1104q] at H
                                by_cases c1105q : ((gt [] r891q p0).length : Int) ≤ ((gt [] r891q p1).length : Int)
                                · rw [if_pos c1105q] at H
                                  refine WL.op' (m := 11) h1103q rfl rfl ?_
                                  refine owp_run (v := .string (mkS ((gt [] r891q p1).take ((gt [] r891q p0).length : Int).toNat))) h1103q rfl (by kernel_rfl) (run_strcut' (l := 0) (h := ((gt [] r891q p0).length : Int)) rfl rfl Tryd.underlying9 rfl ⟨_, rfl⟩ (by first | assumption | omega) (by first | assumption | omega) (by first | assumption | omega) (by simp)) (fun a1106q h1107q => ?_)
                                  clear h1103q a1102q
                                  refine WL.op' (m := 12) h1107q rfl rfl (owp_run h1107q rfl (by kernel_rfl) (v := .string (mkS (gt [] r891q p0))) (by kernel_rfl) (fun a1108q h1109q => ?_))
                                  clear h1107q a1106q
                                  refine WL.op' (m := 13) h1109q rfl rfl ?_
                                  refine owp_run (v := .bool (!decide (((gt [] r891q p1).take ((gt [] r891q p0).length : Int).toNat) = (gt [] r891q p0)))) h1109q rfl (by kernel_rfl) (run_strne rfl rfl rfl) (fun a1110q h1111q => ?_)
                                  clear h1109q a1108q
                                  refine WL.op' (m := 14) h1111q rfl rfl (owp_run h1111q rfl (by kernel_rfl) (v := .bool (!decide (((gt [] r891q p1).take ((gt [] r891q p0).length : Int).toNat) = (gt [] r891q p0)))) (by kernel_rfl) (fun a1112q h1113q => ?_))
                                  clear h1111q a1110q
                                  refine WL.block (c := 2) (m' := 17) h1113q rfl [(4, .bool (!decide (((gt [] r891q p1).take ((gt [] r891q p0).length : Int).toNat) = (gt [] r891q p0)))), (91, .bool (!decide (((gt [] r891q p1).take ((gt [] r891q p0).length : Int).toNat) = (gt [] r891q p0))))] (by kernel_rfl) (fun a1114q h1115q => ?_)
                                  clear h1113q a1112q
                                  refine WL.done (by kernel_rfl) ?_
                                  refine wp_ret ?_
                                  have hS1116q : St b w0 W1059q R (Fs) := hS1064q.drop_
                                  obtain rfl := Option.some.inj H
                                  repeat (first | refine then_ret ?_ | refine inBlock_ret ?_ | refine inBlock_go ?_)
                                  refine body_ret (v := .bool (!decide (((gt [] r891q p1).take ((gt [] r891q p0).length : Int).toNat) = (gt [] r891q p0)))) h1115q (by kernel_rfl) (by kernel_rfl) ?_
                                  exact ⟨rfl, hS1116q⟩
                                · rw [if_neg c1105q] at H
                                  cases H
                              · rw [if_neg c1104q] at H
                                cases H
                          · rw [if_neg c1067q] at H
                            have hb_ : r1058q = false := (Bool.eq_false_iff.2 c1067q)
                            try rw [hb_] at h1066q
                            clear hb_
                            refine WL.skipped (m := 2) h1066q rfl rfl (by kernel_rfl) rfl (fun a1117q h1118q => ?_)
                            clear h1066q a1065q
                            refine WL.skipped (m := 3) h1118q rfl rfl (by kernel_rfl) rfl (fun a1119q h1120q => ?_)
                            clear h1118q a1117q
                            refine WL.skipped (m := 4) h1120q rfl rfl (by kernel_rfl) rfl (fun a1121q h1122q => ?_)
                            clear h1120q a1119q
                            refine WL.skipped (m := 5) h1122q rfl rfl (by kernel_rfl) rfl (fun a1123q h1124q => ?_)
                            clear h1122q a1121q
                            refine WL.skipped (m := 6) h1124q rfl rfl (by kernel_rfl) rfl (fun a1125q h1126q => ?_)
                            clear h1124q a1123q
                            refine WL.skipped (m := 7) h1126q rfl rfl (by kernel_rfl) rfl (fun a1127q h1128q => ?_)
                            clear h1126q a1125q
                            refine WL.skipped (m := 8) h1128q rfl rfl (by kernel_rfl) rfl (fun a1129q h1130q => ?_)
                            clear h1128q a1127q
                            refine WL.skipped (m := 9) h1130q rfl rfl (by kernel_rfl) rfl (fun a1131q h1132q => ?_)
                            clear h1130q a1129q
                            refine WL.skipped (m := 10) h1132q rfl rfl (by kernel_rfl) rfl (fun a1133q h1134q => ?_)
                            clear h1132q a1131q
                            refine WL.skipped (m := 11) h1134q rfl rfl (by kernel_rfl) rfl (fun a1135q h1136q => ?_)
                            clear h1134q a1133q
                            refine WL.skipped (m := 12) h1136q rfl rfl (by kernel_rfl) rfl (fun a1137q h1138q => ?_)
                            clear h1136q a1135q
                            refine WL.skipped (m := 13) h1138q rfl rfl (by kernel_rfl) rfl (fun a1139q h1140q => ?_)
                            clear h1138q a1137q
                            refine WL.skipped (m := 14) h1140q rfl rfl (by kernel_rfl) rfl (fun a1141q h1142q => ?_)
                            clear h1140q a1139q
                            refine WL.block (c := 2) (m' := 17) h1142q rfl [(4, .bool false), (91, .bool false)] (by kernel_rfl) (fun a1143q h1144q => ?_)
                            clear h1142q a1141q
                            refine WL.done (by kernel_rfl) ?_
                            refine wp_ret ?_
                            have hS1145q : St b w0 W1059q R (Fs) := hS1064q.drop_
                            obtain rfl := Option.some.inj H
                            repeat (first | refine then_ret ?_ | refine inBlock_ret ?_ | refine inBlock_go ?_)
                            refine body_ret (v := .bool false) h1144q (by kernel_rfl) (by kernel_rfl) ?_
                            exact ⟨rfl, hS1145q⟩
                        · rw [if_neg c1041q] at H
                          cases H
                      · rw [if_neg c1040q] at H
                        cases H
              · rw [if_neg c963q] at H
                have hb_ : (decide (r781q = ((gt [] r891q p0).length : Int))) = false := decide_eq_false c963q
                try rw [hb_] at h962q
                clear hb_
                refine wp_then h962q rfl ?_
                refine wp_seq ?_
                refine WL.start ?_
                refine WL.block (c := 1) (m' := 1) h962q rfl [(4, .bool false)] (by kernel_rfl) (fun a1146q h1147q => ?_)
                clear h962q a961q
                refine WL.done (by kernel_rfl) ?_
                refine wp_ret ?_
                have hS1148q : St b w0 W930q R (Fs) := hS931q.drop_
                obtain rfl := Option.some.inj H
                repeat (first | refine then_ret ?_ | refine inBlock_ret ?_ | refine inBlock_go ?_)
                refine body_ret (v := .bool false) h1147q (by kernel_rfl) (by kernel_rfl) ?_
                exact ⟨rfl, hS1148q⟩
            · rw [if_neg c952q] at H
              have hb_ : (decide (r780q = x933q)) = false := decide_eq_false c952q
              try rw [hb_] at h951q
              clear hb_
              refine WL.skipped (m := 4) h951q rfl rfl (by kernel_rfl) rfl (fun a1149q h1150q => ?_)
              clear h951q a950q
              refine WL.skipped (m := 5) h1150q rfl rfl (by kernel_rfl) rfl (fun a1151q h1152q => ?_)
              clear h1150q a1149q
              refine WL.skipped (m := 6) h1152q rfl rfl (by kernel_rfl) rfl (fun a1153q h1154q => ?_)
              clear h1152q a1151q
              refine WL.skipped (m := 7) h1154q rfl rfl (by kernel_rfl) rfl (fun a1155q h1156q => ?_)
              clear h1154q a1153q
              refine WL.block (c := 1) (m' := 9) h1156q rfl [(59, .bool true)] (by kernel_rfl) (fun a1157q h1158q => ?_)
              clear h1156q a1155q
              refine WL.done (by kernel_rfl) ?_
              refine wp_then h1158q rfl ?_
              refine wp_seq ?_
              refine WL.start ?_
              refine WL.block (c := 1) (m' := 1) h1158q rfl [(4, .bool false)] (by kernel_rfl) (fun a1159q h1160q => ?_)
              clear h1158q a1157q
              refine WL.done (by kernel_rfl) ?_
              refine wp_ret ?_
              have hS1161q : St b w0 W930q R (Fs) := hS931q.drop_
              obtain rfl := Option.some.inj H
              repeat (first | refine then_ret ?_ | refine inBlock_ret ?_ | refine inBlock_go ?_)
              refine body_ret (v := .bool false) h1160q (by kernel_rfl) (by kernel_rfl) ?_
              exact ⟨rfl, hS1161q⟩
        · rw [if_neg c908q] at H
          cases H
      · rw [if_neg c907q] at H
        cases H
end Go.Proofs.YtedfgicbignbmaaDoor.Sl
