/- What the functions of this program compute, told as plain functions, and that the calls come to just that. Printed by this session's program; part 1. -/
import Derived.Test.YtgbkllnfjehfcaaDoorProg
import Derived.Test.YtgbkllnfjehfcaaDoorSlT
set_option linter.unusedVariables false
set_option linter.unusedSimpArgs false
set_option linter.unnecessarySimpa false
namespace Go.Proofs.YtgbkllnfjehfcaaDoor.Sl
open Go Go.RowKit Go.Proofs.Sl
structure S29 where
  f0 : (List UInt8)
  f1 : (List UInt8)
  f2 : Bool
  deriving DecidableEq
def z29 : S29 := ⟨[], [], false⟩
def k29 : Kd S29 := kIso (kPair kStr (kPair kStr kBool)) (fun x : S29 => (x.f0, (x.f1, x.f2)))
theorem k29qflat : k29.Flat := kIso_flat (kPair_flat kStr_flat (kPair_flat kStr_flat kBool_flat))
theorem k29qind : k29.Ind := kIso_ind (kPair_ind kStr_ind (kPair_ind kStr_ind kBool_ind))
theorem k29qrd {b : Nat} {w0 : World} {R : Frag} {x : S29} {cs : List Value} (h : k29.rd b w0 R x cs) : cs = [.string (mkS x.f0), .string (mkS x.f1), .bool x.f2] := by
  obtain ⟨c1q, c2q, rfl, h3q, h4q⟩ := h
  obtain ⟨c5q, c6q, rfl, h7q, h8q⟩ := h4q
  obtain rfl := h3q
  obtain rfl := h7q
  obtain rfl := h8q
  exact rfl
theorem k29qrep {b : Nat} {w0 : World} {R : Frag} {x : S29} {cs : List Value} {M : Frag} (h : k29.rep b w0 R x cs M) : cs = [.string (mkS x.f0), .string (mkS x.f1), .bool x.f2] ∧ M = [] := by
  obtain ⟨c9q, c10q, M13q, M14q, rfl, rfl, h11q, h12q⟩ := h
  obtain ⟨c15q, c16q, M19q, M20q, rfl, rfl, h17q, h18q⟩ := h12q
  obtain ⟨rfl, rfl⟩ := h11q
  obtain ⟨rfl, rfl⟩ := h17q
  obtain ⟨rfl, rfl⟩ := h18q
  exact ⟨rfl, by simp⟩
theorem k29qno {b : Nat} {w0 : World} {R : Frag} {x : S29} {cs : List Value} {M : Frag} (h : k29.rep b w0 R x cs M) : M = [] := by
  obtain ⟨_, hM_⟩ := k29qrep h
  exact hM_
theorem k29qmk {b : Nat} {w0 : World} {R : Frag} {x : S29}  : ∃ M, k29.rep b w0 R x [.string (mkS x.f0), .string (mkS x.f1), .bool x.f2] M ∧ M = [] := ⟨_, ⟨_, _, _, _, rfl, rfl, ⟨rfl, rfl⟩, ⟨_, _, _, _, rfl, rfl, ⟨rfl, rfl⟩, ⟨rfl, rfl⟩⟩⟩, by simp⟩
/-! ### louver/louverref05.Great -/
def louverref05qGreat.l0 : Nat → Int → Int → (List S29) → Option (Bool)
  | 0, _, _, _ => none
  | k + 1, x434q, x435q, p0 => if x435q < (p0.length : Int) then (if 0 ≤ x435q then (if (IntKind.i64.wrap (x434q + (IntKind.i64.wrap ((IntKind.i64.wrap (1 + (mnI (((gt z29 p0 x435q).f0).length : Int) 9000))) + (mnI (((gt z29 p0 x435q).f1).length : Int) 9000))))) > 9000 then (some true) else (louverref05qGreat.l0 k (IntKind.i64.wrap (x434q + (IntKind.i64.wrap ((IntKind.i64.wrap (1 + (mnI (((gt z29 p0 x435q).f0).length : Int) 9000))) + (mnI (((gt z29 p0 x435q).f1).length : Int) 9000))))) (IntKind.i64.wrap (x435q + 1)) p0)) else (none)) else (some false)
def louverref05qGreat.f (k : Nat) (p0 : (List S29)) : Option (Bool) := louverref05qGreat.l0 k 0 0 p0
set_option maxHeartbeats 2000000 in
set_option maxRecDepth 100000 in
theorem louverref05qGreat.calls (k : Nat) {b : Nat} {w0 W : World} {R : Frag} {Fs : List Frag} {p0 : (List S29)} {v0 : Value} {r0q : Bool} (hp0 : Rds k29 b w0 R v0 p0) (H : louverref05qGreat.f k p0 = some r0q) (hS : St b w0 W R (Fs)) :
    Calls Tryd.prog 7 ([v0] : List Value).toArray W (fun e W' => e = .returned (.bool r0q) ∧ St b w0 W' R (Fs)) := by
  obtain ⟨A0, c0, rfl⟩ := hp0.form
  unfold louverref05qGreat.f at H
  refine calls_enter Tryd.func7 rfl 31 rfl (by kernel_rfl) (fun a h => ?_)
  refine wp_seq ?_
  refine WL.start ?_
  refine WL.block (c := 1) (m' := 1) h rfl [(2, .bool false)] (by kernel_rfl) (fun a423q h424q => ?_)
  refine WL.done (by kernel_rfl) ?_
  refine wp_seq ?_
  refine WL.start ?_
  refine WL.block (c := 1) (m' := 1) h424q rfl [(3, .int .i64 0)] (by kernel_rfl) (fun a425q h426q => ?_)
  clear h424q a423q
  refine WL.done (by kernel_rfl) ?_
  refine wp_seq ?_
  refine wp_seq ?_
  refine WL.start ?_
  refine WL.block (c := 3) (m' := 3) h426q rfl [(7, .int .i64 0), (6, .int .i64 (p0.length : Int)), (5, .slice A0 p0.length c0)] (by kernel_rfl) (fun a427q h428q => ?_)
  clear h426q a425q
  refine WL.done (by kernel_rfl) ?_
  refine wp_block ?_
  refine wp_loop_ghost (fun kq_ a_ W_ => ∃ (x434q : Int), ∃ (x435q : Int), Hd a_ 31 [(0, .slice A0 p0.length c0), (3, .int .i64 x434q), (6, .int .i64 (p0.length : Int)), (7, .int .i64 x435q)] ∧ Asd (louverref05qGreat.l0 kq_ x434q x435q p0 = some r0q) ∧ Asd (kq_ ≤ k) ∧ Asd (St b w0 W_ R (Fs))) k ⟨0, 0, h428q.keep ⟨rfl, rfl, rfl, rfl, trivial⟩, ⟨H⟩, ⟨Nat.le_refl _⟩, ⟨hS⟩⟩ ?_
  clear H hS
  rintro k433q a430q W431q ⟨x434q, x435q, h429q, ⟨H⟩, ⟨hkk433q⟩, ⟨hS432q⟩⟩
  obtain _ | k436q := k433q
  · exact absurd H (by simp [louverref05qGreat.l0])
  simp only [louverref05qGreat.l0] at H
  refine wp_seq ?_
  refine WL.start ?_
  refine WL.block (c := 1) (m' := 1) h429q rfl [(8, .bool (decide (x435q < (p0.length : Int))))] (by kernel_rfl) (fun a437q h438q => ?_)
  clear h429q a430q
  refine WL.done (by kernel_rfl) ?_
  refine wp_seq ?_
  by_cases c439q : x435q < (p0.length : Int)
  · rw [if_pos c439q] at H
    have hb_ : (decide (x435q < (p0.length : Int))) = true := decide_eq_true c439q
    try rw [hb_] at h438q
    clear hb_
    refine wp_then h438q rfl ?_
    refine wp_skip ?_
    refine wp_seq ?_
    refine wp_block ?_
    refine wp_seq ?_
    refine WL.start ?_
    refine WL.block (c := 2) (m' := 2) h438q rfl [(4, .int .i64 x435q), (9, .int .i64 x435q)] (by kernel_rfl) (fun a440q h441q => ?_)
    clear h438q a437q
    refine WL.done (by kernel_rfl) ?_
    refine wp_seq ?_
    refine WT.start 19 (fun w_ => (∀ a_ u_, Kn b w0 R a_ u_ → w_.cell? a_ = some u_) ∧ True) (by kernel_rfl) #[false, false, false, false, false, false, false, false, false, false, false, false, false, false, false, false, false, false, false] 19 rfl rfl ?_
    have hS556q := hS432q.drew
    refine WT.take 0 (listed' := #[true, false, false, false, false, false, false, false, false, false, false, false, false, false, false, false, false, false, false]) h441q rfl rfl (by kernel_rfl) rfl rfl (.int .i64 x434q) (fun _ _ => by kernel_rfl) ⟨(fun _ _ hk_ => hS556q.kn hk_), trivial⟩ (fun _ _ _ h_ => h_) (fun a557q h558q => ?_)
    clear h441q a440q
    refine WT.take 1 (listed' := #[true, true, false, false, false, false, false, false, false, false, false, false, false, false, false, false, false, false, false]) h558q rfl rfl (by kernel_rfl) rfl rfl (.slice A0 p0.length c0) (fun _ _ => by kernel_rfl) ⟨(fun _ _ hk_ => hS556q.kn hk_), trivial⟩ (fun _ _ _ h_ => h_) (fun a559q h560q => ?_)
    clear h558q a557q
    refine WT.take 2 (listed' := #[true, true, true, false, false, false, false, false, false, false, false, false, false, false, false, false, false, false, false]) h560q rfl rfl (by kernel_rfl) rfl rfl (.int .i64 x435q) (fun _ _ => by kernel_rfl) ⟨(fun _ _ hk_ => hS556q.kn hk_), trivial⟩ (fun _ _ _ h_ => h_) (fun a561q h562q => ?_)
    clear h560q a559q
    refine WT.take 9 (listed' := #[true, true, true, false, false, false, false, false, false, true, false, false, false, false, false, false, false, false, false]) h562q rfl rfl (by kernel_rfl) rfl rfl (.slice A0 p0.length c0) (fun _ _ => by kernel_rfl) ⟨(fun _ _ hk_ => hS556q.kn hk_), trivial⟩ (fun _ _ _ h_ => h_) (fun a563q h564q => ?_)
    clear h562q a561q
    refine WT.take 10 (listed' := #[true, true, true, false, false, false, false, false, false, true, true, false, false, false, false, false, false, false, false]) h564q rfl rfl (by kernel_rfl) rfl rfl (.int .i64 x435q) (fun _ _ => by kernel_rfl) ⟨(fun _ _ hk_ => hS556q.kn hk_), trivial⟩ (fun _ _ _ h_ => h_) (fun a565q h566q => ?_)
    clear h564q a563q
    by_cases c567q : 0 ≤ x435q
    · rw [if_pos c567q] at H
      have hi570q : 0 ≤ x435q := by first | assumption | omega
      have hi571q : x435q < (p0.length : Int) := by first | assumption | omega
      obtain ⟨ad568q, _, ha569q, -, -⟩ := Rds.elemAny hp0 hi570q (gt_get (z := z29) hi570q hi571q)
      refine WT.take 3 (listed' := #[true, true, true, true, false, false, false, false, false, true, true, false, false, false, false, false, false, false, false]) h566q rfl rfl (by kernel_rfl) rfl rfl (.pointer (some (ad568q.add (x435q.toNat * 3)))) (fun w_ hs_ => (run_idx (ad := ad568q) (sz := 3) rfl (by rw [← ha569q]; rfl) rfl Tryd.underlying23 (by kernel_rfl) hi570q hi571q)) ⟨(fun _ _ hk_ => hS556q.kn hk_), trivial⟩ (fun _ _ _ h_ => h_) (fun a572q h573q => ?_)
      clear h566q a565q
      refine WT.take 4 (listed' := #[true, true, true, true, true, false, false, false, false, true, true, false, false, false, false, false, false, false, false]) h573q rfl rfl (by kernel_rfl) rfl rfl (.pointer (some ((ad568q.add (x435q.toNat * 3)).add 0))) (fun _ _ => by kernel_rfl) ⟨(fun _ _ hk_ => hS556q.kn hk_), trivial⟩ (fun _ _ _ h_ => h_) (fun a574q h575q => ?_)
      clear h573q a572q
      obtain ⟨ad576q, cs577q, ha578q, hr580q, hc579q⟩ := Rds.elemAny hp0 hi570q (gt_get (z := z29) hi570q hi571q)
      rw [ha569q] at ha578q; obtain rfl := Option.some.inj ha578q
      obtain rfl := k29qrd hr580q
      refine WT.take 5 (listed' := #[true, true, true, true, true, true, false, false, false, true, true, false, false, false, false, false, false, false, false]) h575q rfl rfl (by kernel_rfl) rfl rfl (.string (mkS ((gt z29 p0 x435q).f0))) (fun w_ hs_ => (run_load1 rfl rfl Tryd.underlying9 rfl (hc579q _ hs_.1 0 _ rfl))) ⟨(fun _ _ hk_ => hS556q.kn hk_), trivial⟩ (fun _ _ _ h_ => h_) (fun a581q h582q => ?_)
      clear h575q a574q
      refine WT.take 6 (listed' := #[true, true, true, true, true, true, true, false, false, true, true, false, false, false, false, false, false, false, false]) h582q rfl rfl (by kernel_rfl) rfl rfl (.int .i64 (((gt z29 p0 x435q).f0).length : Int)) (fun _ _ => by kernel_rfl) ⟨(fun _ _ hk_ => hS556q.kn hk_), trivial⟩ (fun _ _ _ h_ => h_) (fun a583q h584q => ?_)
      clear h582q a581q
      refine WT.take 7 (listed' := #[true, true, true, true, true, true, true, true, false, true, true, false, false, false, false, false, false, false, false]) h584q rfl rfl (by kernel_rfl) rfl rfl (.int .i64 (mnI (((gt z29 p0 x435q).f0).length : Int) 9000)) (fun _ _ => by kernel_rfl) ⟨(fun _ _ hk_ => hS556q.kn hk_), trivial⟩ (fun _ _ _ h_ => h_) (fun a585q h586q => ?_)
      clear h584q a583q
      refine WT.take 8 (listed' := #[true, true, true, true, true, true, true, true, true, true, true, false, false, false, false, false, false, false, false]) h586q rfl rfl (by kernel_rfl) rfl rfl (.int .i64 (IntKind.i64.wrap (1 + (mnI (((gt z29 p0 x435q).f0).length : Int) 9000)))) (fun _ _ => by kernel_rfl) ⟨(fun _ _ hk_ => hS556q.kn hk_), trivial⟩ (fun _ _ _ h_ => h_) (fun a587q h588q => ?_)
      clear h586q a585q
      have hi591q : 0 ≤ x435q := by first | assumption | omega
      have hi592q : x435q < (p0.length : Int) := by first | assumption | omega
      obtain ⟨ad589q, _, ha590q, -, -⟩ := Rds.elemAny hp0 hi591q (gt_get (z := z29) hi591q hi592q)
      refine WT.take 11 (listed' := #[true, true, true, true, true, true, true, true, true, true, true, true, false, false, false, false, false, false, false]) h588q rfl rfl (by kernel_rfl) rfl rfl (.pointer (some (ad589q.add (x435q.toNat * 3)))) (fun w_ hs_ => (run_idx (ad := ad589q) (sz := 3) rfl (by rw [← ha590q]; rfl) rfl Tryd.underlying23 (by kernel_rfl) hi591q hi592q)) ⟨(fun _ _ hk_ => hS556q.kn hk_), trivial⟩ (fun _ _ _ h_ => h_) (fun a593q h594q => ?_)
      clear h588q a587q
      refine WT.take 12 (listed' := #[true, true, true, true, true, true, true, true, true, true, true, true, true, false, false, false, false, false, false]) h594q rfl rfl (by kernel_rfl) rfl rfl (.pointer (some ((ad589q.add (x435q.toNat * 3)).add 1))) (fun _ _ => by kernel_rfl) ⟨(fun _ _ hk_ => hS556q.kn hk_), trivial⟩ (fun _ _ _ h_ => h_) (fun a595q h596q => ?_)
      clear h594q a593q
      obtain ⟨ad597q, cs598q, ha599q, hr601q, hc600q⟩ := Rds.elemAny hp0 hi591q (gt_get (z := z29) hi591q hi592q)
      rw [ha590q] at ha599q; obtain rfl := Option.some.inj ha599q
      obtain rfl := k29qrd hr601q
      refine WT.take 13 (listed' := #[true, true, true, true, true, true, true, true, true, true, true, true, true, true, false, false, false, false, false]) h596q rfl rfl (by kernel_rfl) rfl rfl (.string (mkS ((gt z29 p0 x435q).f1))) (fun w_ hs_ => (run_load1 rfl rfl Tryd.underlying9 rfl (hc600q _ hs_.1 1 _ rfl))) ⟨(fun _ _ hk_ => hS556q.kn hk_), trivial⟩ (fun _ _ _ h_ => h_) (fun a602q h603q => ?_)
      clear h596q a595q
      refine WT.take 14 (listed' := #[true, true, true, true, true, true, true, true, true, true, true, true, true, true, true, false, false, false, false]) h603q rfl rfl (by kernel_rfl) rfl rfl (.int .i64 (((gt z29 p0 x435q).f1).length : Int)) (fun _ _ => by kernel_rfl) ⟨(fun _ _ hk_ => hS556q.kn hk_), trivial⟩ (fun _ _ _ h_ => h_) (fun a604q h605q => ?_)
      clear h603q a602q
      refine WT.take 15 (listed' := #[true, true, true, true, true, true, true, true, true, true, true, true, true, true, true, true, false, false, false]) h605q rfl rfl (by kernel_rfl) rfl rfl (.int .i64 (mnI (((gt z29 p0 x435q).f1).length : Int) 9000)) (fun _ _ => by kernel_rfl) ⟨(fun _ _ hk_ => hS556q.kn hk_), trivial⟩ (fun _ _ _ h_ => h_) (fun a606q h607q => ?_)
      clear h605q a604q
      refine WT.take 16 (listed' := #[true, true, true, true, true, true, true, true, true, true, true, true, true, true, true, true, true, false, false]) h607q rfl rfl (by kernel_rfl) rfl rfl (.int .i64 (IntKind.i64.wrap ((IntKind.i64.wrap (1 + (mnI (((gt z29 p0 x435q).f0).length : Int) 9000))) + (mnI (((gt z29 p0 x435q).f1).length : Int) 9000)))) (fun _ _ => by kernel_rfl) ⟨(fun _ _ hk_ => hS556q.kn hk_), trivial⟩ (fun _ _ _ h_ => h_) (fun a608q h609q => ?_)
      clear h607q a606q
      refine WT.take 17 (listed' := #[true, true, true, true, true, true, true, true, true, true, true, true, true, true, true, true, true, true, false]) h609q rfl rfl (by kernel_rfl) rfl rfl (.int .i64 (IntKind.i64.wrap (x434q + (IntKind.i64.wrap ((IntKind.i64.wrap (1 + (mnI (((gt z29 p0 x435q).f0).length : Int) 9000))) + (mnI (((gt z29 p0 x435q).f1).length : Int) 9000)))))) (fun _ _ => by kernel_rfl) ⟨(fun _ _ hk_ => hS556q.kn hk_), trivial⟩ (fun _ _ _ h_ => h_) (fun a610q h611q => ?_)
      clear h609q a608q
      refine WT.take 18 (listed' := #[true, true, true, true, true, true, true, true, true, true, true, true, true, true, true, true, true, true, true]) h611q rfl rfl (by kernel_rfl) rfl rfl (.int .i64 (IntKind.i64.wrap (x434q + (IntKind.i64.wrap ((IntKind.i64.wrap (1 + (mnI (((gt z29 p0 x435q).f0).length : Int) 9000))) + (mnI (((gt z29 p0 x435q).f1).length : Int) 9000)))))) (fun _ _ => by kernel_rfl) ⟨(fun _ _ hk_ => hS556q.kn hk_), trivial⟩ (fun _ _ _ h_ => h_) (fun a612q h613q => ?_)
      clear h611q a610q
      refine WT.done (by kernel_rfl) ?_
      refine wp_seq ?_
      refine WL.start ?_
      refine WL.block (c := 2) (m' := 2) h613q rfl [(29, .bool (decide ((IntKind.i64.wrap (x434q + (IntKind.i64.wrap ((IntKind.i64.wrap (1 + (mnI (((gt z29 p0 x435q).f0).length : Int) 9000))) + (mnI (((gt z29 p0 x435q).f1).length : Int) 9000))))) > 9000))), (28, .int .i64 (IntKind.i64.wrap (x434q + (IntKind.i64.wrap ((IntKind.i64.wrap (1 + (mnI (((gt z29 p0 x435q).f0).length : Int) 9000))) + (mnI (((gt z29 p0 x435q).f1).length : Int) 9000))))))] (by kernel_rfl) (fun a614q h615q => ?_)
      clear h613q a612q
      refine WL.done (by kernel_rfl) ?_
      by_cases c616q : (IntKind.i64.wrap (x434q + (IntKind.i64.wrap ((IntKind.i64.wrap (1 + (mnI (((gt z29 p0 x435q).f0).length : Int) 9000))) + (mnI (((gt z29 p0 x435q).f1).length : Int) 9000))))) > 9000
      · rw [if_pos c616q] at H
        have hb_ : (decide ((IntKind.i64.wrap (x434q + (IntKind.i64.wrap ((IntKind.i64.wrap (1 + (mnI (((gt z29 p0 x435q).f0).length : Int) 9000))) + (mnI (((gt z29 p0 x435q).f1).length : Int) 9000))))) > 9000)) = true := decide_eq_true c616q
        try rw [hb_] at h615q
        clear hb_
        refine wp_then h615q rfl ?_
        refine wp_seq ?_
        refine WL.start ?_
        refine WL.block (c := 1) (m' := 1) h615q rfl [(2, .bool true)] (by kernel_rfl) (fun a617q h618q => ?_)
        clear h615q a614q
        refine WL.done (by kernel_rfl) ?_
        refine wp_ret ?_
        obtain rfl := Option.some.inj H
        repeat (first | refine then_ret ?_ | refine inBlock_ret ?_ | refine inBlock_go ?_)
        refine body_ret (v := .bool true) h618q (by kernel_rfl) (by kernel_rfl) ?_
        exact ⟨rfl, hS556q⟩
      · rw [if_neg c616q] at H
        have hb_ : (decide ((IntKind.i64.wrap (x434q + (IntKind.i64.wrap ((IntKind.i64.wrap (1 + (mnI (((gt z29 p0 x435q).f0).length : Int) 9000))) + (mnI (((gt z29 p0 x435q).f1).length : Int) 9000))))) > 9000)) = false := decide_eq_false c616q
        try rw [hb_] at h615q
        clear hb_
        refine wp_else h615q rfl ?_
        refine wp_skip ?_
        refine WL.start ?_
        refine WL.block (c := 2) (m' := 2) h615q rfl [(7, .int .i64 (IntKind.i64.wrap (x435q + 1))), (30, .int .i64 (IntKind.i64.wrap (x435q + 1)))] (by kernel_rfl) (fun a619q h620q => ?_)
        clear h615q a614q
        refine WL.done (by kernel_rfl) ?_
        exact ⟨k436q, by omega, IntKind.i64.wrap (x434q + (IntKind.i64.wrap ((IntKind.i64.wrap (1 + (mnI (((gt z29 p0 x435q).f0).length : Int) 9000))) + (mnI (((gt z29 p0 x435q).f1).length : Int) 9000)))), IntKind.i64.wrap (x435q + 1), h620q.keep ⟨rfl, rfl, rfl, rfl, trivial⟩, ⟨H⟩, ⟨by omega⟩, ⟨hS556q⟩⟩
    · rw [if_neg c567q] at H
      cases H
  · rw [if_neg c439q] at H
    have hb_ : (decide (x435q < (p0.length : Int))) = false := decide_eq_false c439q
    try rw [hb_] at h438q
    clear hb_
    refine wp_else h438q rfl ?_
    refine wp_exit ?_
    refine wp_seq ?_
    refine WL.start ?_
    refine WL.block (c := 1) (m' := 1) h438q rfl [(2, .bool false)] (by kernel_rfl) (fun a621q h622q => ?_)
    clear h438q a437q
    refine WL.done (by kernel_rfl) ?_
    refine wp_ret ?_
    obtain rfl := Option.some.inj H
    repeat (first | refine then_ret ?_ | refine inBlock_ret ?_ | refine inBlock_go ?_)
    refine body_ret (v := .bool false) h622q (by kernel_rfl) (by kernel_rfl) ?_
    exact ⟨rfl, hS432q⟩

structure S51 where
  f0 : (List S29)
  f1 : Int
  f2 : Int
  deriving DecidableEq
def z51 : S51 := ⟨[], (0 : Int), (0 : Int)⟩
def k51 : Kd S51 := kIso (kPair (kRow k29 29) (kPair (kInt .i64) (kInt .i64))) (fun x : S51 => (x.f0, (x.f1, x.f2)))
theorem k51qrd {b : Nat} {w0 : World} {R : Frag} {x : S51} {cs : List Value} (h : k51.rd b w0 R x cs) : ∃ (vf0 : Value), cs = [vf0, .int .i64 x.f1, .int .i64 x.f2] ∧ Rds k29 b w0 R vf0 x.f0 := by
  obtain ⟨c1q, c2q, rfl, h3q, h4q⟩ := h
  obtain ⟨c5q, c6q, rfl, h7q, h8q⟩ := h4q
  obtain ⟨v9q, rfl, g10q⟩ := h3q
  obtain rfl := h7q
  obtain rfl := h8q
  exact ⟨v9q, rfl, g10q⟩
theorem k51qrep {b : Nat} {w0 : World} {R : Frag} {x : S51} {cs : List Value} {M : Frag} (h : k51.rep b w0 R x cs M) : ∃ (vf0 : Value), ∃ (Mvf0 : Frag), cs = [vf0, .int .i64 x.f1, .int .i64 x.f2] ∧ M = Mvf0 ∧ Row k29 29 b w0 R vf0 x.f0 Mvf0 := by
  obtain ⟨c11q, c12q, M15q, M16q, rfl, rfl, h13q, h14q⟩ := h
  obtain ⟨c17q, c18q, M21q, M22q, rfl, rfl, h19q, h20q⟩ := h14q
  obtain ⟨v23q, rfl, g24q⟩ := h13q
  obtain ⟨rfl, rfl⟩ := h19q
  obtain ⟨rfl, rfl⟩ := h20q
  exact ⟨v23q, _, rfl, by simp, g24q⟩
theorem k51qmk {b : Nat} {w0 : World} {R : Frag} {x : S51} {vf0 : Value} {Mvf0 : Frag} (gvf0 : Row k29 29 b w0 R vf0 x.f0 Mvf0) : ∃ M, k51.rep b w0 R x [vf0, .int .i64 x.f1, .int .i64 x.f2] M ∧ M = Mvf0 := ⟨_, ⟨_, _, _, _, rfl, rfl, ⟨vf0, rfl, gvf0⟩, ⟨_, _, _, _, rfl, rfl, ⟨rfl, rfl⟩, ⟨rfl, rfl⟩⟩⟩, by simp⟩
/-! ### louver/dyntable.New -/
def dyntable_New.f (p0 : Int) : Option (S51) := some (⟨([] : List S29), 0, IntKind.i64.wrap p0⟩ : S51)
set_option maxHeartbeats 2000000 in
set_option maxRecDepth 100000 in
theorem dyntable_New.calls {b : Nat} {w0 W : World} {R : Frag} {Fs : List Frag} {p0 : Int}  {r0q : S51}  (H : dyntable_New.f p0 = some r0q) (hS : St b w0 W R (Fs)) :
    Calls Tryd.prog 9 ([.int .u32 p0] : List Value).toArray W (fun e W' => ∃ (u0q : Value) (N0q : Frag), e = .returned (u0q) ∧ Ptr k51 51 b w0 R u0q r0q N0q ∧ St b w0 W' R (N0q :: Fs)) := by
  unfold dyntable_New.f at H
  refine calls_enter Tryd.func9 rfl 7 rfl (by kernel_rfl) (fun a h => ?_)
  refine wp_seq ?_
  refine WL.start ?_
  refine WL.block (c := 1) (m' := 1) h rfl [(2, .pointer none)] (by kernel_rfl) (fun a42q h43q => ?_)
  refine WL.done (by kernel_rfl) ?_
  refine wp_seq ?_
  refine WL.start ?_
  refine WL.block (c := 3) (m' := 3) h43q rfl [(5, .agg #[.slice none 0 0, .int .i64 0, .int .i64 (IntKind.i64.wrap p0)]), (4, .int .i64 (IntKind.i64.wrap p0)), (3, .int .u32 p0)] (by kernel_rfl) (fun a44q h45q => ?_)
  clear h43q a42q
  refine WL.op' (m := 3) h45q rfl rfl ?_
  refine owp_new (fun g_ => .pointer (some ⟨g_, 0, none⟩)) (.cells ([.slice none 0 0, .int .i64 0, .int .i64 (IntKind.i64.wrap p0)] : List Value).toArray 51 (0, 0)) h45q rfl (by kernel_rfl) (by kernel_rfl) hS (fun a46q W48q g49q h47q hS50q => ?_)
  clear h45q a44q
  refine WL.block (c := 1) (m' := 5) h47q rfl [(2, .pointer (some ⟨g49q, 0, none⟩))] (by kernel_rfl) (fun a51q h52q => ?_)
  clear h47q a46q
  refine WL.done (by kernel_rfl) ?_
  refine wp_ret ?_
  obtain ⟨M54q, hr53q, hM_⟩ := k51qmk (b := b) (w0 := w0) (R := R) (x := (⟨([] : List S29), 0, IntKind.i64.wrap p0⟩ : S51)) (gvf0 := Row.nil)
  have hp55q : Ptr k51 51 b w0 R (.pointer (some ⟨g49q, 0, none⟩)) (⟨([] : List S29), 0, IntKind.i64.wrap p0⟩ : S51) ((g49q, .cells ([.slice none 0 0, .int .i64 0, .int .i64 (IntKind.i64.wrap p0)] : List Value).toArray 51 (0, 0)) :: M54q) := ⟨_, _, _, rfl, rfl, hr53q⟩
  rw [hM_] at hp55q
  have hS57q : St b w0 W48q R (((g49q, .cells ([.slice none 0 0, .int .i64 0, .int .i64 (IntKind.i64.wrap p0)] : List Value).toArray 51 (0, 0)) :: ([])) :: Fs) := hS50q.assoc (by simp only [List.flatten_cons, List.append_assoc, List.cons_append, List.nil_append, List.append_nil])
  obtain ⟨M58q, hM_⟩ : ∃ y : Frag, y = ((g49q, .cells ([.slice none 0 0, .int .i64 0, .int .i64 (IntKind.i64.wrap p0)] : List Value).toArray 51 (0, 0)) :: ([])) := ⟨_, rfl⟩
  rw [← hM_] at hp55q hS57q
  clear hM_
  obtain rfl := Option.some.inj H
  repeat (first | refine then_ret ?_ | refine inBlock_ret ?_ | refine inBlock_go ?_)
  refine body_ret (v := .pointer (some ⟨g49q, 0, none⟩)) h52q (by kernel_rfl) (by kernel_rfl) ?_
  exact ⟨.pointer (some ⟨g49q, 0, none⟩), M58q, rfl, hp55q, hS57q⟩

/-! ### louver/dyntable.Size -/
def dyntable_Size.f (p0 : S29) : Option (Int) := some (IntKind.i64.wrap ((IntKind.i64.wrap ((p0.f0.length : Int) + (p0.f1.length : Int))) + 32))
set_option maxHeartbeats 2000000 in
set_option maxRecDepth 100000 in
theorem dyntable_Size.calls {b : Nat} {w0 W : World} {R : Frag} {Fs : List Frag} {p0 : S29}  {r0q : Int}  (H : dyntable_Size.f p0 = some r0q) (hS : St b w0 W R (Fs)) :
    Calls Tryd.prog 23 ([.agg #[.string (mkS p0.f0), .string (mkS p0.f1), .bool p0.f2]] : List Value).toArray W (fun e W' => e = .returned (.int .i64 r0q) ∧ St b w0 W' R (Fs)) := by
  unfold dyntable_Size.f at H
  refine calls_enter Tryd.func23 rfl 11 rfl (by kernel_rfl) (fun a h => ?_)
  refine wp_seq ?_
  refine WL.start ?_
  refine WL.op' (m := 0) h rfl rfl ?_
  refine owp_new (fun g_ => .pointer (some ⟨g_, 0, none⟩)) (.cells ([.string (mkS p0.f0), .string (mkS p0.f1), .bool p0.f2] : List Value).toArray 29 (0, 0)) h rfl (by kernel_rfl) (by kernel_rfl) hS (fun a19q W21q g22q h20q hS23q => ?_)
  refine WL.block (c := 1) (m' := 2) h20q rfl [(2, .int .i64 0)] (by kernel_rfl) (fun a24q h25q => ?_)
  clear h20q a19q
  refine WL.done (by kernel_rfl) ?_
  refine wp_seq ?_
  refine WL.start ?_
  refine WL.block (c := 1) (m' := 1) h25q rfl [(3, .pointer (some ⟨g22q, 0, none⟩))] (by kernel_rfl) (fun a26q h27q => ?_)
  clear h25q a24q
  refine WL.op' (m := 1) h27q rfl rfl ?_
  refine owp_run (v := .string (mkS p0.f0)) h27q rfl (by kernel_rfl) (run_load1 rfl rfl Tryd.underlying9 rfl (hS23q.cell (i := 0) rfl)) (fun a28q h29q => ?_)
  clear h27q a26q
  refine WL.block (c := 2) (m' := 4) h29q rfl [(6, .pointer (some ⟨g22q, 1, none⟩)), (5, .int .i64 (p0.f0.length : Int))] (by kernel_rfl) (fun a30q h31q => ?_)
  clear h29q a28q
  refine WL.op' (m := 4) h31q rfl rfl ?_
  refine owp_run (v := .string (mkS p0.f1)) h31q rfl (by kernel_rfl) (run_load1 rfl rfl Tryd.underlying9 rfl (hS23q.cell (i := 1) rfl)) (fun a32q h33q => ?_)
  clear h31q a30q
  refine WL.block (c := 4) (m' := 9) h33q rfl [(2, .int .i64 (IntKind.i64.wrap ((IntKind.i64.wrap ((p0.f0.length : Int) + (p0.f1.length : Int))) + 32))), (10, .int .i64 (IntKind.i64.wrap ((IntKind.i64.wrap ((p0.f0.length : Int) + (p0.f1.length : Int))) + 32))), (9, .int .i64 (IntKind.i64.wrap ((p0.f0.length : Int) + (p0.f1.length : Int)))), (8, .int .i64 (p0.f1.length : Int))] (by kernel_rfl) (fun a34q h35q => ?_)
  clear h33q a32q
  refine WL.done (by kernel_rfl) ?_
  refine wp_ret ?_
  have hS36q : St b w0 W21q R (Fs) := hS23q.drop_
  obtain rfl := Option.some.inj H
  repeat (first | refine then_ret ?_ | refine inBlock_ret ?_ | refine inBlock_go ?_)
  refine body_ret (v := .int .i64 (IntKind.i64.wrap ((IntKind.i64.wrap ((p0.f0.length : Int) + (p0.f1.length : Int))) + 32))) h35q (by kernel_rfl) (by kernel_rfl) ?_
  exact ⟨rfl, hS36q⟩

/-! ### slices.Delete[[]louver/api.Field,louver/api.Field] -/
def api_Field.f (p0 : (List S29)) (p1 : Int) (p2 : Int) : Option ((List S29)) := if 0 ≤ p1 then (if p1 ≤ p2 then (if p2 ≤ (p0.length : Int) then (if p1 = p2 then (some p0) else (some (p0.take p1.toNat ++ p0.drop p2.toNat))) else (none)) else (none)) else (none)
set_option maxHeartbeats 2000000 in
set_option maxRecDepth 100000 in
theorem api_Field.calls {b : Nat} {w0 W : World} {R : Frag} {Fs : List Frag} {p0 : (List S29)} {p1 : Int} {p2 : Int} {v0 : Value} {M0 : Frag} {r0q : (List S29)} (hp0 : Row k29 29 b w0 R v0 p0 M0) (H : api_Field.f p0 p1 p2 = some r0q) (hS : St b w0 W R (M0 :: Fs)) :
    Calls Tryd.prog 32 ([v0, .int .i64 p1, .int .i64 p2] : List Value).toArray W (fun e W' => ∃ (u0q : Value) (N0q : Frag), e = .returned (u0q) ∧ Row k29 29 b w0 R u0q r0q N0q ∧ St b w0 W' R (N0q :: Fs)) := by
  obtain ⟨A0, c0, rfl⟩ := hp0.form
  unfold api_Field.f at H
  refine calls_enter Tryd.func32 rfl 33 rfl (by kernel_rfl) (fun a h => ?_)
  refine wp_seq ?_
  refine WL.start ?_
  refine WL.block (c := 1) (m' := 1) h rfl [(6, .slice none 0 0)] (by kernel_rfl) (fun a70q h71q => ?_)
  refine WL.done (by kernel_rfl) ?_
  refine wp_seq ?_
  refine WL.start ?_
  refine WL.block (c := 5) (m' := 5) h71q rfl [(12, .int .i64 (p0.length : Int)), (11, .slice A0 p0.length c0), (10, .int .i64 p2), (9, .int .i64 p1), (8, .slice A0 p0.length c0)] (by kernel_rfl) (fun a72q h73q => ?_)
  clear h71q a70q
  by_cases c74q : 0 ≤ p1
  · rw [if_pos c74q] at H
    by_cases c75q : p1 ≤ p2
    · rw [if_pos c75q] at H
      by_cases c76q : p2 ≤ (p0.length : Int)
      · rw [if_pos c76q] at H
        have s_cap := Rds.cap hp0.rds
        refine WL.op' (m := 5) h73q rfl rfl ?_
        refine owp_run (v := sliced A0 p1.toNat p2.toNat (p0.length : Int).toNat 3) h73q rfl (by kernel_rfl) (run_cut3 (l := p1) (h := p2) (m := (p0.length : Int)) rfl rfl Tryd.underlying23 (by kernel_rfl) rfl rfl rfl (by first | assumption | omega) (by first | assumption | omega) (by first | assumption | omega) (by have q_ := s_cap; omega) (by have q_ := s_cap; omega)) (fun a77q h78q => ?_)
        clear h73q a72q
        refine WL.done (by kernel_rfl) ?_
        refine wp_seq ?_
        refine wp_seq ?_
        refine WL.start ?_
        refine WL.block (c := 3) (m' := 3) h78q rfl [(16, .bool (decide (p1 = p2))), (15, .int .i64 p2), (14, .int .i64 p1)] (by kernel_rfl) (fun a79q h80q => ?_)
        clear h78q a77q
        refine WL.done (by kernel_rfl) ?_
        by_cases c81q : p1 = p2
        · rw [if_pos c81q] at H
          have hb_ : (decide (p1 = p2)) = true := decide_eq_true c81q
          try rw [hb_] at h80q
          clear hb_
          refine wp_then h80q rfl ?_
          refine wp_seq ?_
          refine WL.start ?_
          refine WL.block (c := 2) (m' := 2) h80q rfl [(6, .slice A0 p0.length c0), (17, .slice A0 p0.length c0)] (by kernel_rfl) (fun a82q h83q => ?_)
          clear h80q a79q
          refine WL.done (by kernel_rfl) ?_
          refine wp_ret ?_
          obtain rfl := Option.some.inj H
          repeat (first | refine then_ret ?_ | refine inBlock_ret ?_ | refine inBlock_go ?_)
          refine body_ret (v := .slice A0 p0.length c0) h83q (by kernel_rfl) (by kernel_rfl) ?_
          exact ⟨.slice A0 p0.length c0, M0, rfl, hp0, hS⟩
        · rw [if_neg c81q] at H
          have hb_ : (decide (p1 = p2)) = false := decide_eq_false c81q
          try rw [hb_] at h80q
          clear hb_
          refine wp_else h80q rfl ?_
          refine wp_skip ?_
          refine wp_seq ?_
          refine WL.start ?_
          refine WL.block (c := 3) (m' := 3) h80q rfl [(7, .int .i64 (p0.length : Int)), (19, .int .i64 (p0.length : Int)), (18, .slice A0 p0.length c0)] (by kernel_rfl) (fun a84q h85q => ?_)
          clear h80q a79q
          refine WL.done (by kernel_rfl) ?_
          refine wp_seq ?_
          refine WT.start 8 (fun w_ => True) (by kernel_rfl) #[false, false, false, false, false, false, false, false] 8 rfl rfl ?_
          have hS106q := hS.drew
          refine WT.take 0 (listed' := #[true, false, false, false, false, false, false, false]) h85q rfl rfl (by kernel_rfl) rfl rfl (.slice A0 p0.length c0) (fun _ _ => by kernel_rfl) trivial (fun _ _ _ h_ => h_) (fun a107q h108q => ?_)
          clear h85q a84q
          refine WT.take 1 (listed' := #[true, true, false, false, false, false, false, false]) h108q rfl rfl (by kernel_rfl) rfl rfl (.int .i64 p1) (fun _ _ => by kernel_rfl) trivial (fun _ _ _ h_ => h_) (fun a109q h110q => ?_)
          clear h108q a107q
          refine WT.take 3 (listed' := #[true, true, false, true, false, false, false, false]) h110q rfl rfl (by kernel_rfl) rfl rfl (.slice A0 p0.length c0) (fun _ _ => by kernel_rfl) trivial (fun _ _ _ h_ => h_) (fun a111q h112q => ?_)
          clear h110q a109q
          refine WT.take 4 (listed' := #[true, true, false, true, true, false, false, false]) h112q rfl rfl (by kernel_rfl) rfl rfl (.int .i64 p2) (fun _ _ => by kernel_rfl) trivial (fun _ _ _ h_ => h_) (fun a113q h114q => ?_)
          clear h112q a111q
          refine WT.take 2 (listed' := #[true, true, true, true, true, false, false, false]) h114q rfl rfl (by kernel_rfl) rfl rfl (sliced A0 0 p1.toNat c0 3) (fun w_ hs_ => (run_cut (l := 0) (h := p1) rfl rfl Tryd.underlying23 (by kernel_rfl) rfl ⟨_, rfl⟩ (by omega) (by omega) (by have q_ := s_cap; omega) (by have q_ := s_cap; omega))) trivial (fun _ _ _ h_ => h_) (fun a115q h116q => ?_)
          clear h114q a113q
          refine WT.take 5 (listed' := #[true, true, true, true, true, true, false, false]) h116q rfl rfl (by kernel_rfl) rfl rfl (sliced A0 p2.toNat p0.length c0 3) (fun w_ hs_ => (run_cut (l := p2) (h := ((p0.length : Nat) : Int)) rfl rfl Tryd.underlying23 (by kernel_rfl) ⟨_, rfl⟩ rfl (by omega) (by omega) (by have q_ := s_cap; omega) (by have q_ := s_cap; omega))) trivial (fun _ _ _ h_ => h_) (fun a117q h118q => ?_)
          clear h116q a115q
          refine WT.op 6 (listed' := #[true, true, true, true, true, true, true, false]) h118q rfl (by kernel_rfl) rfl rfl ?_
          refine owp_del (i := p1.toNat) (j := p2.toNat) (len := p0.length) h118q rfl (by kernel_rfl) rfl rfl rfl hp0 hS106q Tryd.underlying23 (by kernel_rfl) rfl (by omega) (by omega) (fun a119q W121q M122q h120q hr123q hS124q => ?_)
          clear h118q a117q
          have s_len : (p0.take p1.toNat ++ p0.drop p2.toNat).length = p1.toNat + (p0.length - p2.toNat) := by simp; omega
          refine ⟨.inr trivial, ?_⟩
          refine WT.take 7 (listed' := #[true, true, true, true, true, true, true, true]) h120q rfl rfl (by kernel_rfl) rfl rfl (.slice A0 (p1.toNat + (p0.length - p2.toNat)) c0) (fun _ _ => by kernel_rfl) trivial (fun _ _ _ h_ => h_) (fun a125q h126q => ?_)
          clear h120q a119q
          refine WT.done (by kernel_rfl) ?_
          refine wp_seq ?_
          refine WL.start ?_
          refine WL.block (c := 4) (m' := 4) h126q rfl [(30, .int .i64 (p0.length : Int)), (29, .int .i64 (((p1.toNat + (p0.length - p2.toNat)) : Nat) : Int)), (28, .slice A0 (p1.toNat + (p0.length - p2.toNat)) c0), (27, .slice A0 (p1.toNat + (p0.length - p2.toNat)) c0)] (by kernel_rfl) (fun a127q h128q => ?_)
          clear h126q a125q
          refine WL.op' (m := 4) h128q rfl rfl ?_
          refine owp_run (v := sliced A0 (p1.toNat + (p0.length - p2.toNat)) p0.length c0 3) h128q rfl (by kernel_rfl) (run_cut (l := (((p1.toNat + (p0.length - p2.toNat)) : Nat) : Int)) (h := (p0.length : Int)) rfl rfl Tryd.underlying23 (by kernel_rfl) ⟨_, rfl⟩ ⟨_, rfl⟩ (by omega) (by omega) (by have q_ := s_cap; omega) (by have q_ := s_cap; omega)) (fun a129q h130q => ?_)
          clear h128q a127q
          refine WL.op' (m := 5) h130q rfl rfl ?_
          refine owp_deltail (z := .agg #[.string (mkS []), .string (mkS []), .bool false]) h130q rfl (by kernel_rfl) rfl rfl hr123q hS124q s_len Tryd.underlying23 (by kernel_rfl) rfl (by simp [Value.cells, Value.oneCell']) (fun a131q W133q M134q h132q hr135q hS136q => ?_)
          clear h130q a129q
          refine WL.done (by kernel_rfl) ?_
          refine wp_seq ?_
          refine WL.start ?_
          refine WL.block (c := 2) (m' := 2) h132q rfl [(6, .slice A0 (p1.toNat + (p0.length - p2.toNat)) c0), (32, .slice A0 (p1.toNat + (p0.length - p2.toNat)) c0)] (by kernel_rfl) (fun a137q h138q => ?_)
          clear h132q a131q
          refine WL.done (by kernel_rfl) ?_
          refine wp_ret ?_
          obtain rfl := Option.some.inj H
          repeat (first | refine then_ret ?_ | refine inBlock_ret ?_ | refine inBlock_go ?_)
          refine body_ret (v := .slice A0 (p1.toNat + (p0.length - p2.toNat)) c0) h138q (by kernel_rfl) (by kernel_rfl) ?_
          exact ⟨.slice A0 (p1.toNat + (p0.length - p2.toNat)) c0, M134q, rfl, hr135q, hS136q⟩
      · rw [if_neg c76q] at H
        cases H
    · rw [if_neg c75q] at H
      cases H
  · rw [if_neg c74q] at H
    cases H

/-! ### (*louver/dyntable.Table).within -/
def dyntable_Table_within.l0 : Nat → S51 → Int → Int → Option (S51)
  | 0, _, _, _ => none
  | k + 1, x1053q, x1056q, p1 => if x1056q < (x1053q.f0.length : Int) then (if x1053q.f1 > (IntKind.i64.wrap (x1053q.f2 - p1)) then (if 0 ≤ x1056q then (bnd1 (dyntable_Size.f (⟨(gt z29 x1053q.f0 x1056q).f0, (gt z29 x1053q.f0 x1056q).f1, (gt z29 x1053q.f0 x1056q).f2⟩ : S29)) fun r1375q => (dyntable_Table_within.l0 k (⟨x1053q.f0, IntKind.i64.wrap (x1053q.f1 - r1375q), x1053q.f2⟩ : S51) (IntKind.i64.wrap (x1056q + 1)) p1)) else (none)) else (bnd1 (api_Field.f x1053q.f0 0 x1056q) fun r1410q => (some (⟨r1410q, x1053q.f1, x1053q.f2⟩ : S51)))) else (bnd1 (api_Field.f x1053q.f0 0 x1056q) fun r1469q => (some (⟨r1469q, x1053q.f1, x1053q.f2⟩ : S51)))
def dyntable_Table_within.f (k : Nat) (p0 : S51) (p1 : Int) : Option (S51) := dyntable_Table_within.l0 k p0 0 p1
set_option maxHeartbeats 2000000 in
set_option maxRecDepth 100000 in
theorem dyntable_Table_within.calls (k : Nat) {b : Nat} {w0 W : World} {R : Frag} {Fs : List Frag} {p0 : S51} {p1 : Int}  {v0 : Value} {M0 : Frag} {r0q : S51} (hp0 : Ptr k51 51 b w0 R v0 p0 M0) (H : dyntable_Table_within.f k p0 p1 = some r0q) (hS : St b w0 W R (M0 :: Fs)) :
    Calls Tryd.prog 25 ([v0, .int .i64 p1] : List Value).toArray W (fun e W' => ∃ (O0q : Frag), e = .returned (.tuple #[]) ∧ Ptr k51 51 b w0 R v0 r0q O0q ∧ St b w0 W' R (O0q :: Fs)) := by
  unfold dyntable_Table_within.f at H
  refine calls_enter Tryd.func25 rfl 51 rfl (by kernel_rfl) (fun a h => ?_)
  refine wp_seq ?_
  refine WL.start ?_
  refine WL.block (c := 1) (m' := 1) h rfl [(4, .int .i64 0)] (by kernel_rfl) (fun a1046q h1047q => ?_)
  refine WL.done (by kernel_rfl) ?_
  refine wp_seq ?_
  refine wp_block ?_
  refine wp_loop_ghost (fun kq_ a_ W_ => ∃ (x1053q : S51), ∃ (M1054q : Frag), ∃ (x1056q : Int), Hd a_ 51 [(0, v0), (1, .int .i64 p1), (4, .int .i64 x1056q)] ∧ Asd (dyntable_Table_within.l0 kq_ x1053q x1056q p1 = some r0q) ∧ Asd (kq_ ≤ k) ∧ Asd (St b w0 W_ R (M1054q :: Fs)) ∧ Asd (Ptr k51 51 b w0 R v0 x1053q M1054q)) k ⟨p0, M0, 0, h1047q.keep ⟨rfl, rfl, rfl, trivial⟩, ⟨H⟩, ⟨Nat.le_refl _⟩, ⟨hS⟩, ⟨hp0⟩⟩ ?_
  clear H hS
  rintro k1052q a1049q W1050q ⟨x1053q, M1054q, x1056q, h1048q, ⟨H⟩, ⟨hkk1052q⟩, ⟨hS1051q⟩, ⟨hr1055q⟩⟩
  obtain _ | k1057q := k1052q
  · exact absurd H (by simp [dyntable_Table_within.l0])
  simp only [dyntable_Table_within.l0] at H
  refine wp_seq ?_
  refine wp_seq ?_
  obtain ⟨g1058q, cs1059q, M1060q, hv_, hM_, hr1061q⟩ := hr1055q
  obtain ⟨v1062q, M1063q, rfl, hM2q, hr1064q⟩ := k51qrep hr1061q
  subst hM2q
  subst hM_
  subst hv_
  replace hr1064q : Row k29 29 b w0 R v1062q x1053q.f0 M1060q := hr1064q
  obtain ⟨A1065q, c1066q, rfl⟩ := hr1064q.form
  have hS1067q : St b w0 W1050q R ([(g1058q, .cells ([.slice A1065q x1053q.f0.length c1066q, .int .i64 x1053q.f1, .int .i64 x1053q.f2] : List Value).toArray 51 (0, 0))] :: M1060q :: Fs) := hS1051q.assoc (by simp only [List.flatten_cons, List.append_assoc, List.cons_append, List.nil_append, List.append_nil])
  refine WT.start 20 (fun w_ => (w_.cell? ⟨g1058q, 0, none⟩ = some (.slice A1065q x1053q.f0.length c1066q)) ∧ (w_.cell? ⟨g1058q, 1, none⟩ = some (.int .i64 x1053q.f1)) ∧ (w_.cell? ⟨g1058q, 2, none⟩ = some (.int .i64 x1053q.f2)) ∧ True) (by kernel_rfl) #[false, false, false, false, false, false, false, false, false, false, false, false, false, false, false, false, false, false, false, false] 20 rfl rfl ?_
  have hS1198q := hS1067q.drew
  refine WT.take 0 (listed' := #[true, false, false, false, false, false, false, false, false, false, false, false, false, false, false, false, false, false, false, false]) h1048q rfl rfl (by kernel_rfl) rfl rfl (.int .i64 x1056q) (fun _ _ => by kernel_rfl) ⟨(hS1198q.cell (i := 0) rfl), (hS1198q.cell (i := 1) rfl), (hS1198q.cell (i := 2) rfl), trivial⟩ (fun _ _ _ h_ => h_) (fun a1199q h1200q => ?_)
  clear h1048q a1049q
  refine WT.take 1 (listed' := #[true, true, false, false, false, false, false, false, false, false, false, false, false, false, false, false, false, false, false, false]) h1200q rfl rfl (by kernel_rfl) rfl rfl (.pointer (some ⟨g1058q, 0, none⟩)) (fun _ _ => by kernel_rfl) ⟨(hS1198q.cell (i := 0) rfl), (hS1198q.cell (i := 1) rfl), (hS1198q.cell (i := 2) rfl), trivial⟩ (fun _ _ _ h_ => h_) (fun a1201q h1202q => ?_)
  clear h1200q a1199q
  refine WT.take 2 (listed' := #[true, true, true, false, false, false, false, false, false, false, false, false, false, false, false, false, false, false, false, false]) h1202q rfl rfl (by kernel_rfl) rfl rfl (.pointer (some ⟨g1058q, 0, none⟩)) (fun _ _ => by kernel_rfl) ⟨(hS1198q.cell (i := 0) rfl), (hS1198q.cell (i := 1) rfl), (hS1198q.cell (i := 2) rfl), trivial⟩ (fun _ _ _ h_ => h_) (fun a1203q h1204q => ?_)
  clear h1202q a1201q
  refine WT.take 3 (listed' := #[true, true, true, true, false, false, false, false, false, false, false, false, false, false, false, false, false, false, false, false]) h1204q rfl rfl (by kernel_rfl) rfl rfl (.pointer (some ⟨g1058q, 0, none⟩)) (fun _ _ => by kernel_rfl) ⟨(hS1198q.cell (i := 0) rfl), (hS1198q.cell (i := 1) rfl), (hS1198q.cell (i := 2) rfl), trivial⟩ (fun _ _ _ h_ => h_) (fun a1205q h1206q => ?_)
  clear h1204q a1203q
  refine WT.take 4 (listed' := #[true, true, true, true, true, false, false, false, false, false, false, false, false, false, false, false, false, false, false, false]) h1206q rfl rfl (by kernel_rfl) rfl rfl (.slice A1065q x1053q.f0.length c1066q) (fun w_ hs_ => (run_load1 rfl rfl Tryd.underlying23 rfl hs_.1)) ⟨(hS1198q.cell (i := 0) rfl), (hS1198q.cell (i := 1) rfl), (hS1198q.cell (i := 2) rfl), trivial⟩ (fun _ _ _ h_ => h_) (fun a1207q h1208q => ?_)
  clear h1206q a1205q
  refine WT.take 5 (listed' := #[true, true, true, true, true, true, false, false, false, false, false, false, false, false, false, false, false, false, false, false]) h1208q rfl rfl (by kernel_rfl) rfl rfl (.int .i64 (x1053q.f0.length : Int)) (fun _ _ => by kernel_rfl) ⟨(hS1198q.cell (i := 0) rfl), (hS1198q.cell (i := 1) rfl), (hS1198q.cell (i := 2) rfl), trivial⟩ (fun _ _ _ h_ => h_) (fun a1209q h1210q => ?_)
  clear h1208q a1207q
  refine WT.take 6 (listed' := #[true, true, true, true, true, true, true, false, false, false, false, false, false, false, false, false, false, false, false, false]) h1210q rfl rfl (by kernel_rfl) rfl rfl (.bool (decide (x1056q < (x1053q.f0.length : Int)))) (fun _ _ => by kernel_rfl) ⟨(hS1198q.cell (i := 0) rfl), (hS1198q.cell (i := 1) rfl), (hS1198q.cell (i := 2) rfl), trivial⟩ (fun _ _ _ h_ => h_) (fun a1211q h1212q => ?_)
  clear h1210q a1209q
  refine WT.take 7 (listed' := #[true, true, true, true, true, true, true, true, false, false, false, false, false, false, false, false, false, false, false, false]) h1212q rfl rfl (by kernel_rfl) rfl rfl (.bool (decide (x1056q < (x1053q.f0.length : Int)))) (fun _ _ => by kernel_rfl) ⟨(hS1198q.cell (i := 0) rfl), (hS1198q.cell (i := 1) rfl), (hS1198q.cell (i := 2) rfl), trivial⟩ (fun _ _ _ h_ => h_) (fun a1213q h1214q => ?_)
  clear h1212q a1211q
  by_cases c1215q : x1056q < (x1053q.f0.length : Int)
  · rw [if_pos c1215q] at H
    have hb_ : (decide (x1056q < (x1053q.f0.length : Int))) = true := decide_eq_true c1215q
    try rw [hb_] at h1214q
    clear hb_
    refine WT.take 8 (listed' := #[true, true, true, true, true, true, true, true, true, false, false, false, false, false, false, false, false, false, false, false]) h1214q rfl rfl (by kernel_rfl) rfl rfl (.pointer (some ⟨g1058q, 0, none⟩)) (fun _ _ => by kernel_rfl) ⟨(hS1198q.cell (i := 0) rfl), (hS1198q.cell (i := 1) rfl), (hS1198q.cell (i := 2) rfl), trivial⟩ (fun _ _ _ h_ => h_) (fun a1216q h1217q => ?_)
    clear h1214q a1213q
    refine WT.take 9 (listed' := #[true, true, true, true, true, true, true, true, true, true, false, false, false, false, false, false, false, false, false, false]) h1217q rfl rfl (by kernel_rfl) rfl rfl (.pointer (some ⟨g1058q, 0, none⟩)) (fun _ _ => by kernel_rfl) ⟨(hS1198q.cell (i := 0) rfl), (hS1198q.cell (i := 1) rfl), (hS1198q.cell (i := 2) rfl), trivial⟩ (fun _ _ _ h_ => h_) (fun a1218q h1219q => ?_)
    clear h1217q a1216q
    refine WT.take 10 (listed' := #[true, true, true, true, true, true, true, true, true, true, true, false, false, false, false, false, false, false, false, false]) h1219q rfl rfl (by kernel_rfl) rfl rfl (.pointer (some ⟨g1058q, 1, none⟩)) (fun _ _ => by kernel_rfl) ⟨(hS1198q.cell (i := 0) rfl), (hS1198q.cell (i := 1) rfl), (hS1198q.cell (i := 2) rfl), trivial⟩ (fun _ _ _ h_ => h_) (fun a1220q h1221q => ?_)
    clear h1219q a1218q
    refine WT.take 12 (listed' := #[true, true, true, true, true, true, true, true, true, true, true, false, true, false, false, false, false, false, false, false]) h1221q rfl rfl (by kernel_rfl) rfl rfl (.pointer (some ⟨g1058q, 0, none⟩)) (fun _ _ => by kernel_rfl) ⟨(hS1198q.cell (i := 0) rfl), (hS1198q.cell (i := 1) rfl), (hS1198q.cell (i := 2) rfl), trivial⟩ (fun _ _ _ h_ => h_) (fun a1222q h1223q => ?_)
    clear h1221q a1220q
    refine WT.take 13 (listed' := #[true, true, true, true, true, true, true, true, true, true, true, false, true, true, false, false, false, false, false, false]) h1223q rfl rfl (by kernel_rfl) rfl rfl (.pointer (some ⟨g1058q, 0, none⟩)) (fun _ _ => by kernel_rfl) ⟨(hS1198q.cell (i := 0) rfl), (hS1198q.cell (i := 1) rfl), (hS1198q.cell (i := 2) rfl), trivial⟩ (fun _ _ _ h_ => h_) (fun a1224q h1225q => ?_)
    clear h1223q a1222q
    refine WT.take 14 (listed' := #[true, true, true, true, true, true, true, true, true, true, true, false, true, true, true, false, false, false, false, false]) h1225q rfl rfl (by kernel_rfl) rfl rfl (.pointer (some ⟨g1058q, 2, none⟩)) (fun _ _ => by kernel_rfl) ⟨(hS1198q.cell (i := 0) rfl), (hS1198q.cell (i := 1) rfl), (hS1198q.cell (i := 2) rfl), trivial⟩ (fun _ _ _ h_ => h_) (fun a1226q h1227q => ?_)
    clear h1225q a1224q
    refine WT.take 16 (listed' := #[true, true, true, true, true, true, true, true, true, true, true, false, true, true, true, false, true, false, false, false]) h1227q rfl rfl (by kernel_rfl) rfl rfl (.int .i64 p1) (fun _ _ => by kernel_rfl) ⟨(hS1198q.cell (i := 0) rfl), (hS1198q.cell (i := 1) rfl), (hS1198q.cell (i := 2) rfl), trivial⟩ (fun _ _ _ h_ => h_) (fun a1228q h1229q => ?_)
    clear h1227q a1226q
    refine WT.take 11 (listed' := #[true, true, true, true, true, true, true, true, true, true, true, true, true, true, true, false, true, false, false, false]) h1229q rfl rfl (by kernel_rfl) rfl rfl (.int .i64 x1053q.f1) (fun w_ hs_ => (run_load1 rfl rfl Tryd.underlying3 rfl hs_.2.1)) ⟨(hS1198q.cell (i := 0) rfl), (hS1198q.cell (i := 1) rfl), (hS1198q.cell (i := 2) rfl), trivial⟩ (fun _ _ _ h_ => h_) (fun a1230q h1231q => ?_)
    clear h1229q a1228q
    refine WT.take 15 (listed' := #[true, true, true, true, true, true, true, true, true, true, true, true, true, true, true, true, true, false, false, false]) h1231q rfl rfl (by kernel_rfl) rfl rfl (.int .i64 x1053q.f2) (fun w_ hs_ => (run_load1 rfl rfl Tryd.underlying3 rfl hs_.2.2.1)) ⟨(hS1198q.cell (i := 0) rfl), (hS1198q.cell (i := 1) rfl), (hS1198q.cell (i := 2) rfl), trivial⟩ (fun _ _ _ h_ => h_) (fun a1232q h1233q => ?_)
    clear h1231q a1230q
    refine WT.take 17 (listed' := #[true, true, true, true, true, true, true, true, true, true, true, true, true, true, true, true, true, true, false, false]) h1233q rfl rfl (by kernel_rfl) rfl rfl (.int .i64 (IntKind.i64.wrap (x1053q.f2 - p1))) (fun _ _ => by kernel_rfl) ⟨(hS1198q.cell (i := 0) rfl), (hS1198q.cell (i := 1) rfl), (hS1198q.cell (i := 2) rfl), trivial⟩ (fun _ _ _ h_ => h_) (fun a1234q h1235q => ?_)
    clear h1233q a1232q
    refine WT.take 18 (listed' := #[true, true, true, true, true, true, true, true, true, true, true, true, true, true, true, true, true, true, true, false]) h1235q rfl rfl (by kernel_rfl) rfl rfl (.bool (decide (x1053q.f1 > (IntKind.i64.wrap (x1053q.f2 - p1))))) (fun _ _ => by kernel_rfl) ⟨(hS1198q.cell (i := 0) rfl), (hS1198q.cell (i := 1) rfl), (hS1198q.cell (i := 2) rfl), trivial⟩ (fun _ _ _ h_ => h_) (fun a1236q h1237q => ?_)
    clear h1235q a1234q
    refine WT.take 19 (listed' := #[true, true, true, true, true, true, true, true, true, true, true, true, true, true, true, true, true, true, true, true]) h1237q rfl rfl (by kernel_rfl) rfl rfl (.bool (decide (x1053q.f1 > (IntKind.i64.wrap (x1053q.f2 - p1))))) (fun _ _ => by kernel_rfl) ⟨(hS1198q.cell (i := 0) rfl), (hS1198q.cell (i := 1) rfl), (hS1198q.cell (i := 2) rfl), trivial⟩ (fun _ _ _ h_ => h_) (fun a1238q h1239q => ?_)
    clear h1237q a1236q
    refine WT.done (by kernel_rfl) ?_
    by_cases c1240q : x1053q.f1 > (IntKind.i64.wrap (x1053q.f2 - p1))
    · rw [if_pos c1240q] at H
      have hb_ : (decide (x1053q.f1 > (IntKind.i64.wrap (x1053q.f2 - p1)))) = true := decide_eq_true c1240q
      try rw [hb_] at h1239q
      clear hb_
      refine wp_then h1239q rfl ?_
      refine wp_skip ?_
      refine wp_block ?_
      refine wp_seq ?_
      refine WT.start 15 (fun w_ => (w_.cell? ⟨g1058q, 1, none⟩ = some (.int .i64 x1053q.f1)) ∧ (w_.cell? ⟨g1058q, 0, none⟩ = some (.slice A1065q x1053q.f0.length c1066q)) ∧ (∀ a_ u_, Kn b w0 (M1060q ++ R) a_ u_ → w_.cell? a_ = some u_) ∧ True) (by kernel_rfl) #[false, false, false, false, false, false, false, false, false, false, false, false, false, false, false, false] 16 rfl rfl ?_
      have hS1341q := hS1198q.drew
      refine WT.take 0 (listed' := #[true, false, false, false, false, false, false, false, false, false, false, false, false, false, false, false]) h1239q rfl rfl (by kernel_rfl) rfl rfl (.pointer (some ⟨g1058q, 0, none⟩)) (fun _ _ => by kernel_rfl) ⟨(hS1341q.cell (i := 1) rfl), (hS1341q.cell (i := 0) rfl), (fun _ _ hk_ => (hS1341q.bring 1 rfl rfl).pool.kn hk_), trivial⟩ (fun _ _ _ h_ => h_) (fun a1342q h1343q => ?_)
      clear h1239q a1238q
      refine WT.take 1 (listed' := #[true, true, false, false, false, false, false, false, false, false, false, false, false, false, false, false]) h1343q rfl rfl (by kernel_rfl) rfl rfl (.pointer (some ⟨g1058q, 0, none⟩)) (fun _ _ => by kernel_rfl) ⟨(hS1341q.cell (i := 1) rfl), (hS1341q.cell (i := 0) rfl), (fun _ _ hk_ => (hS1341q.bring 1 rfl rfl).pool.kn hk_), trivial⟩ (fun _ _ _ h_ => h_) (fun a1344q h1345q => ?_)
      clear h1343q a1342q
      refine WT.take 2 (listed' := #[true, true, true, false, false, false, false, false, false, false, false, false, false, false, false, false]) h1345q rfl rfl (by kernel_rfl) rfl rfl (.pointer (some ⟨g1058q, 1, none⟩)) (fun _ _ => by kernel_rfl) ⟨(hS1341q.cell (i := 1) rfl), (hS1341q.cell (i := 0) rfl), (fun _ _ hk_ => (hS1341q.bring 1 rfl rfl).pool.kn hk_), trivial⟩ (fun _ _ _ h_ => h_) (fun a1346q h1347q => ?_)
      clear h1345q a1344q
      refine WT.take 4 (listed' := #[true, true, true, false, true, false, false, false, false, false, false, false, false, false, false, false]) h1347q rfl rfl (by kernel_rfl) rfl rfl (.pointer (some ⟨g1058q, 0, none⟩)) (fun _ _ => by kernel_rfl) ⟨(hS1341q.cell (i := 1) rfl), (hS1341q.cell (i := 0) rfl), (fun _ _ hk_ => (hS1341q.bring 1 rfl rfl).pool.kn hk_), trivial⟩ (fun _ _ _ h_ => h_) (fun a1348q h1349q => ?_)
      clear h1347q a1346q
      refine WT.take 5 (listed' := #[true, true, true, false, true, true, false, false, false, false, false, false, false, false, false, false]) h1349q rfl rfl (by kernel_rfl) rfl rfl (.pointer (some ⟨g1058q, 0, none⟩)) (fun _ _ => by kernel_rfl) ⟨(hS1341q.cell (i := 1) rfl), (hS1341q.cell (i := 0) rfl), (fun _ _ hk_ => (hS1341q.bring 1 rfl rfl).pool.kn hk_), trivial⟩ (fun _ _ _ h_ => h_) (fun a1350q h1351q => ?_)
      clear h1349q a1348q
      refine WT.take 6 (listed' := #[true, true, true, false, true, true, true, false, false, false, false, false, false, false, false, false]) h1351q rfl rfl (by kernel_rfl) rfl rfl (.pointer (some ⟨g1058q, 0, none⟩)) (fun _ _ => by kernel_rfl) ⟨(hS1341q.cell (i := 1) rfl), (hS1341q.cell (i := 0) rfl), (fun _ _ hk_ => (hS1341q.bring 1 rfl rfl).pool.kn hk_), trivial⟩ (fun _ _ _ h_ => h_) (fun a1352q h1353q => ?_)
      clear h1351q a1350q
      refine WT.take 8 (listed' := #[true, true, true, false, true, true, true, false, true, false, false, false, false, false, false, false]) h1353q rfl rfl (by kernel_rfl) rfl rfl (.int .i64 x1056q) (fun _ _ => by kernel_rfl) ⟨(hS1341q.cell (i := 1) rfl), (hS1341q.cell (i := 0) rfl), (fun _ _ hk_ => (hS1341q.bring 1 rfl rfl).pool.kn hk_), trivial⟩ (fun _ _ _ h_ => h_) (fun a1354q h1355q => ?_)
      clear h1353q a1352q
      refine WT.take 3 (listed' := #[true, true, true, true, true, true, true, false, true, false, false, false, false, false, false, false]) h1355q rfl rfl (by kernel_rfl) rfl rfl (.int .i64 x1053q.f1) (fun w_ hs_ => (run_load1 rfl rfl Tryd.underlying3 rfl hs_.1)) ⟨(hS1341q.cell (i := 1) rfl), (hS1341q.cell (i := 0) rfl), (fun _ _ hk_ => (hS1341q.bring 1 rfl rfl).pool.kn hk_), trivial⟩ (fun _ _ _ h_ => h_) (fun a1356q h1357q => ?_)
      clear h1355q a1354q
      refine WT.take 7 (listed' := #[true, true, true, true, true, true, true, true, true, false, false, false, false, false, false, false]) h1357q rfl rfl (by kernel_rfl) rfl rfl (.slice A1065q x1053q.f0.length c1066q) (fun w_ hs_ => (run_load1 rfl rfl Tryd.underlying23 rfl hs_.2.1)) ⟨(hS1341q.cell (i := 1) rfl), (hS1341q.cell (i := 0) rfl), (fun _ _ hk_ => (hS1341q.bring 1 rfl rfl).pool.kn hk_), trivial⟩ (fun _ _ _ h_ => h_) (fun a1358q h1359q => ?_)
      clear h1357q a1356q
      by_cases c1360q : 0 ≤ x1056q
      · rw [if_pos c1360q] at H
        have hi1363q : 0 ≤ x1056q := by first | assumption | omega
        have hi1364q : x1056q < (x1053q.f0.length : Int) := by first | assumption | omega
        obtain ⟨ad1361q, _, ha1362q, -, -⟩ := Rds.elemAny hr1064q.rds hi1363q (gt_get (z := z29) hi1363q hi1364q)
        refine WT.take 9 (listed' := #[true, true, true, true, true, true, true, true, true, true, false, false, false, false, false, false]) h1359q rfl rfl (by kernel_rfl) rfl rfl (.pointer (some (ad1361q.add (x1056q.toNat * 3)))) (fun w_ hs_ => (run_idx (ad := ad1361q) (sz := 3) rfl (by rw [← ha1362q]; rfl) rfl Tryd.underlying23 (by kernel_rfl) hi1363q hi1364q)) ⟨(hS1341q.cell (i := 1) rfl), (hS1341q.cell (i := 0) rfl), (fun _ _ hk_ => (hS1341q.bring 1 rfl rfl).pool.kn hk_), trivial⟩ (fun _ _ _ h_ => h_) (fun a1365q h1366q => ?_)
        clear h1359q a1358q
        obtain ⟨ad1367q, cs1368q, ha1369q, hr1371q, hc1370q⟩ := Rds.elemAny hr1064q.rds hi1363q (gt_get (z := z29) hi1363q hi1364q)
        rw [ha1362q] at ha1369q; obtain rfl := Option.some.inj ha1369q
        obtain rfl := k29qrd hr1371q
        refine WT.take 10 (listed' := #[true, true, true, true, true, true, true, true, true, true, true, false, false, false, false, false]) h1366q rfl rfl (by kernel_rfl) rfl rfl (.agg #[.string (mkS ((gt z29 x1053q.f0 x1056q).f0)), .string (mkS ((gt z29 x1053q.f0 x1056q).f1)), .bool ((gt z29 x1053q.f0 x1056q).f2)]) (fun w_ hs_ => (run_loadN rfl rfl Tryd.underlying29 rfl (cs := ([.string (mkS ((gt z29 x1053q.f0 x1056q).f0)), .string (mkS ((gt z29 x1053q.f0 x1056q).f1)), .bool ((gt z29 x1053q.f0 x1056q).f2)] : List Value)) (by kernel_rfl) (hc1370q _ hs_.2.2.1))) ⟨(hS1341q.cell (i := 1) rfl), (hS1341q.cell (i := 0) rfl), (fun _ _ hk_ => (hS1341q.bring 1 rfl rfl).pool.kn hk_), trivial⟩ (fun _ _ _ h_ => h_) (fun a1372q h1373q => ?_)
        clear h1366q a1365q
        obtain ⟨r1375q, A1374q, H⟩ := bind1 H
        refine WT.op 11 (listed' := #[true, true, true, true, true, true, true, true, true, true, true, true, false, false, false, false]) h1373q rfl (by kernel_rfl) rfl rfl ?_
        refine owp_call [.agg #[.string (mkS ((gt z29 x1053q.f0 x1056q).f0)), .string (mkS ((gt z29 x1053q.f0 x1056q).f1)), .bool ((gt z29 x1053q.f0 x1056q).f2)]] h1373q rfl (by kernel_rfl) rfl Tryd.func23 (by kernel_rfl) rfl (by kernel_rfl) (dyntable_Size.calls (p0 := (⟨(gt z29 x1053q.f0 x1056q).f0, (gt z29 x1053q.f0 x1056q).f1, (gt z29 x1053q.f0 x1056q).f2⟩ : S29))  A1374q hS1341q) (fun e1377q W1376q hp1378q => ?_)
        obtain ⟨rfl, hS1381q⟩ := hp1378q
        refine ⟨_, rfl, fun a1379q h1380q => ?_⟩
        clear h1373q a1372q
        refine ⟨.inr ⟨(hS1381q.cell (i := 1) rfl), (hS1381q.cell (i := 0) rfl), (fun _ _ hk_ => (hS1381q.bring 1 rfl rfl).pool.kn hk_), trivial⟩, ?_⟩
        refine WT.take 12 (listed' := #[true, true, true, true, true, true, true, true, true, true, true, true, true, false, false, false]) h1380q rfl rfl (by kernel_rfl) rfl rfl (.int .i64 (IntKind.i64.wrap (x1053q.f1 - r1375q))) (fun _ _ => by kernel_rfl) ⟨(hS1381q.cell (i := 1) rfl), (hS1381q.cell (i := 0) rfl), (fun _ _ hk_ => (hS1381q.bring 1 rfl rfl).pool.kn hk_), trivial⟩ (fun _ _ _ h_ => h_) (fun a1382q h1383q => ?_)
        clear h1380q a1379q
        refine WT.op 13 (listed' := #[true, true, true, true, true, true, true, true, true, true, true, true, true, true, false, false]) h1383q rfl (by kernel_rfl) rfl rfl ?_
        refine owp_run (v := .pointer (some ⟨g1058q, 0, none⟩)) h1383q rfl (by kernel_rfl) (by kernel_rfl) (fun a1384q h1385q => ?_)
        clear h1383q a1382q
        refine ⟨.inr ⟨(hS1381q.cell (i := 1) rfl), (hS1381q.cell (i := 0) rfl), (fun _ _ hk_ => (hS1381q.bring 1 rfl rfl).pool.kn hk_), trivial⟩, ?_⟩
        refine WT.take 14 (listed' := #[true, true, true, true, true, true, true, true, true, true, true, true, true, true, true, false]) h1385q rfl rfl (by kernel_rfl) rfl rfl (.pointer (some ⟨g1058q, 1, none⟩)) (fun _ _ => by kernel_rfl) ⟨(hS1381q.cell (i := 1) rfl), (hS1381q.cell (i := 0) rfl), (fun _ _ hk_ => (hS1381q.bring 1 rfl rfl).pool.kn hk_), trivial⟩ (fun _ _ _ h_ => h_) (fun a1386q h1387q => ?_)
        clear h1385q a1384q
        refine WT.op 15 (listed' := #[true, true, true, true, true, true, true, true, true, true, true, true, true, true, true, true]) h1387q rfl (by kernel_rfl) rfl rfl ?_
        refine owp_store (i := 1) (vs := ([.int .i64 (IntKind.i64.wrap (x1053q.f1 - r1375q))] : List Value)) h1387q rfl (by kernel_rfl) rfl rfl rfl rfl (by simp [Value.oneCell']) (by kernel_rfl) hS1381q (by simp) (cs' := ([.slice A1065q x1053q.f0.length c1066q, .int .i64 (IntKind.i64.wrap (x1053q.f1 - r1375q)), .int .i64 x1053q.f2] : List Value)) rfl (fun a1388q W1390q h1389q hS1391q => ?_)
        clear h1387q a1386q
        refine ⟨.inl (by decide), ?_⟩
        refine WT.done (by kernel_rfl) ?_
        refine WL.start ?_
        refine WL.block (c := 3) (m' := 3) h1389q rfl [(4, .int .i64 (IntKind.i64.wrap (x1056q + 1))), (41, .int .i64 (IntKind.i64.wrap (x1056q + 1))), (40, .int .i64 x1056q)] (by kernel_rfl) (fun a1392q h1393q => ?_)
        clear h1389q a1388q
        refine WL.done (by kernel_rfl) ?_
        have hS1394q : St b w0 W1390q R (M1060q :: [(g1058q, .cells ([.slice A1065q x1053q.f0.length c1066q, .int .i64 (IntKind.i64.wrap (x1053q.f1 - r1375q)), .int .i64 x1053q.f2] : List Value).toArray 51 (0, 0))] :: Fs) := hS1391q.bring 1 rfl rfl
        have hS1395q : St b w0 W1390q R ([(g1058q, .cells ([.slice A1065q x1053q.f0.length c1066q, .int .i64 (IntKind.i64.wrap (x1053q.f1 - r1375q)), .int .i64 x1053q.f2] : List Value).toArray 51 (0, 0))] :: M1060q :: Fs) := hS1394q.bring 1 rfl rfl
        obtain ⟨M1397q, hr1396q, hM_⟩ := k51qmk (b := b) (w0 := w0) (R := R) (x := (⟨x1053q.f0, IntKind.i64.wrap (x1053q.f1 - r1375q), x1053q.f2⟩ : S51)) (gvf0 := hr1064q)
        have hp1398q : Ptr k51 51 b w0 R (.pointer (some ⟨g1058q, 0, none⟩)) (⟨x1053q.f0, IntKind.i64.wrap (x1053q.f1 - r1375q), x1053q.f2⟩ : S51) ((g1058q, .cells ([.slice A1065q x1053q.f0.length c1066q, .int .i64 (IntKind.i64.wrap (x1053q.f1 - r1375q)), .int .i64 x1053q.f2] : List Value).toArray 51 (0, 0)) :: M1397q) := ⟨_, _, _, rfl, rfl, hr1396q⟩
        rw [hM_] at hp1398q
        have hS1400q : St b w0 W1390q R (((g1058q, .cells ([.slice A1065q x1053q.f0.length c1066q, .int .i64 (IntKind.i64.wrap (x1053q.f1 - r1375q)), .int .i64 x1053q.f2] : List Value).toArray 51 (0, 0)) :: (M1060q)) :: Fs) := hS1395q.assoc (by simp only [List.flatten_cons, List.append_assoc, List.cons_append, List.nil_append, List.append_nil])
        obtain ⟨M1401q, hM_⟩ : ∃ y : Frag, y = ((g1058q, .cells ([.slice A1065q x1053q.f0.length c1066q, .int .i64 (IntKind.i64.wrap (x1053q.f1 - r1375q)), .int .i64 x1053q.f2] : List Value).toArray 51 (0, 0)) :: (M1060q)) := ⟨_, rfl⟩
        rw [← hM_] at hp1398q hS1400q
        clear hM_
        exact ⟨k1057q, by omega, (⟨x1053q.f0, IntKind.i64.wrap (x1053q.f1 - r1375q), x1053q.f2⟩ : S51), M1401q, IntKind.i64.wrap (x1056q + 1), h1393q.keep ⟨rfl, rfl, rfl, trivial⟩, ⟨H⟩, ⟨by omega⟩, ⟨hS1400q⟩, ⟨hp1398q⟩⟩
      · rw [if_neg c1360q] at H
        cases H
    · rw [if_neg c1240q] at H
      have hb_ : (decide (x1053q.f1 > (IntKind.i64.wrap (x1053q.f2 - p1)))) = false := decide_eq_false c1240q
      try rw [hb_] at h1239q
      clear hb_
      refine wp_else h1239q rfl ?_
      refine wp_exit ?_
      refine WL.start ?_
      refine WL.block (c := 4) (m' := 4) h1239q rfl [(45, .pointer (some ⟨g1058q, 0, none⟩)), (44, .pointer (some ⟨g1058q, 0, none⟩)), (43, .pointer (some ⟨g1058q, 0, none⟩)), (42, .pointer (some ⟨g1058q, 0, none⟩))] (by kernel_rfl) (fun a1402q h1403q => ?_)
      clear h1239q a1238q
      refine WL.op' (m := 4) h1403q rfl rfl ?_
      refine owp_run (v := .slice A1065q x1053q.f0.length c1066q) h1403q rfl (by kernel_rfl) (run_load1 rfl rfl Tryd.underlying23 rfl (hS1198q.cell (i := 0) rfl)) (fun a1404q h1405q => ?_)
      clear h1403q a1402q
      refine WL.block (c := 1) (m' := 6) h1405q rfl [(47, .int .i64 x1056q)] (by kernel_rfl) (fun a1406q h1407q => ?_)
      clear h1405q a1404q
      have hS1408q : St b w0 W1050q.drew R (M1060q :: [(g1058q, .cells ([.slice A1065q x1053q.f0.length c1066q, .int .i64 x1053q.f1, .int .i64 x1053q.f2] : List Value).toArray 51 (0, 0))] :: Fs) := hS1198q.bring 1 rfl rfl
      obtain ⟨r1410q, A1409q, H⟩ := bind1 H
      refine WL.op' (m := 6) h1407q rfl rfl ?_
      refine owp_call [.slice A1065q x1053q.f0.length c1066q, .int .i64 0, .int .i64 x1056q] h1407q rfl (by kernel_rfl) rfl Tryd.func32 (by kernel_rfl) rfl (by kernel_rfl) (api_Field.calls hr1064q A1409q hS1408q) (fun e1412q W1411q hp1413q => ?_)
      obtain ⟨v1416q, M1417q, rfl, hr1418q, hS1419q⟩ := hp1413q
      refine ⟨_, rfl, fun a1414q h1415q => ?_⟩
      clear h1407q a1406q
      obtain ⟨A1420q, c1421q, rfl⟩ := hr1418q.form
      refine WL.block (c := 2) (m' := 9) h1415q rfl [(50, .pointer (some ⟨g1058q, 0, none⟩)), (49, .pointer (some ⟨g1058q, 0, none⟩))] (by kernel_rfl) (fun a1422q h1423q => ?_)
      clear h1415q a1414q
      have hS1424q : St b w0 W1411q R ([(g1058q, .cells ([.slice A1065q x1053q.f0.length c1066q, .int .i64 x1053q.f1, .int .i64 x1053q.f2] : List Value).toArray 51 (0, 0))] :: M1417q :: Fs) := hS1419q.bring 1 rfl rfl
      refine WL.op' (m := 9) h1423q rfl rfl ?_
      refine owp_store (i := 0) (vs := ([.slice A1420q r1410q.length c1421q] : List Value)) h1423q rfl (by kernel_rfl) rfl rfl rfl rfl (by simp [Value.oneCell']) (by kernel_rfl) hS1424q (by simp) (cs' := ([.slice A1420q r1410q.length c1421q, .int .i64 x1053q.f1, .int .i64 x1053q.f2] : List Value)) rfl (fun a1425q W1427q h1426q hS1428q => ?_)
      clear h1423q a1422q
      refine WL.done (by kernel_rfl) ?_
      have hS1429q : St b w0 W1427q R (M1417q :: [(g1058q, .cells ([.slice A1420q r1410q.length c1421q, .int .i64 x1053q.f1, .int .i64 x1053q.f2] : List Value).toArray 51 (0, 0))] :: Fs) := hS1428q.bring 1 rfl rfl
      have hS1430q : St b w0 W1427q R ([(g1058q, .cells ([.slice A1420q r1410q.length c1421q, .int .i64 x1053q.f1, .int .i64 x1053q.f2] : List Value).toArray 51 (0, 0))] :: M1417q :: Fs) := hS1429q.bring 1 rfl rfl
      obtain ⟨M1432q, hr1431q, hM_⟩ := k51qmk (b := b) (w0 := w0) (R := R) (x := (⟨r1410q, x1053q.f1, x1053q.f2⟩ : S51)) (gvf0 := hr1418q)
      have hp1433q : Ptr k51 51 b w0 R (.pointer (some ⟨g1058q, 0, none⟩)) (⟨r1410q, x1053q.f1, x1053q.f2⟩ : S51) ((g1058q, .cells ([.slice A1420q r1410q.length c1421q, .int .i64 x1053q.f1, .int .i64 x1053q.f2] : List Value).toArray 51 (0, 0)) :: M1432q) := ⟨_, _, _, rfl, rfl, hr1431q⟩
      rw [hM_] at hp1433q
      have hS1435q : St b w0 W1427q R (((g1058q, .cells ([.slice A1420q r1410q.length c1421q, .int .i64 x1053q.f1, .int .i64 x1053q.f2] : List Value).toArray 51 (0, 0)) :: (M1417q)) :: Fs) := hS1430q.assoc (by simp only [List.flatten_cons, List.append_assoc, List.cons_append, List.nil_append, List.append_nil])
      obtain ⟨M1436q, hM_⟩ : ∃ y : Frag, y = ((g1058q, .cells ([.slice A1420q r1410q.length c1421q, .int .i64 x1053q.f1, .int .i64 x1053q.f2] : List Value).toArray 51 (0, 0)) :: (M1417q)) := ⟨_, rfl⟩
      rw [← hM_] at hp1433q hS1435q
      clear hM_
      obtain rfl := Option.some.inj H
      repeat (first | refine then_go ?_ | refine inBlock_go ?_)
      refine body_end (v := .tuple #[]) h1426q (by kernel_rfl) (by kernel_rfl) ?_
      exact ⟨M1436q, rfl, hp1433q, hS1435q⟩
  · rw [if_neg c1215q] at H
    have hb_ : (decide (x1056q < (x1053q.f0.length : Int))) = false := decide_eq_false c1215q
    try rw [hb_] at h1214q
    clear hb_
    refine WT.skip 8 (listed' := #[true, true, true, true, true, true, true, true, true, false, false, false, false, false, false, false, false, false, false, false]) h1214q rfl rfl (by kernel_rfl) rfl rfl ⟨(hS1198q.cell (i := 0) rfl), (hS1198q.cell (i := 1) rfl), (hS1198q.cell (i := 2) rfl), trivial⟩ (fun _ _ _ h_ => h_) (fun a1437q h1438q => ?_)
    clear h1214q a1213q
    refine WT.skip 9 (listed' := #[true, true, true, true, true, true, true, true, true, true, false, false, false, false, false, false, false, false, false, false]) h1438q rfl rfl (by kernel_rfl) rfl rfl ⟨(hS1198q.cell (i := 0) rfl), (hS1198q.cell (i := 1) rfl), (hS1198q.cell (i := 2) rfl), trivial⟩ (fun _ _ _ h_ => h_) (fun a1439q h1440q => ?_)
    clear h1438q a1437q
    refine WT.skip 10 (listed' := #[true, true, true, true, true, true, true, true, true, true, true, false, false, false, false, false, false, false, false, false]) h1440q rfl rfl (by kernel_rfl) rfl rfl ⟨(hS1198q.cell (i := 0) rfl), (hS1198q.cell (i := 1) rfl), (hS1198q.cell (i := 2) rfl), trivial⟩ (fun _ _ _ h_ => h_) (fun a1441q h1442q => ?_)
    clear h1440q a1439q
    refine WT.skip 11 (listed' := #[true, true, true, true, true, true, true, true, true, true, true, true, false, false, false, false, false, false, false, false]) h1442q rfl rfl (by kernel_rfl) rfl rfl ⟨(hS1198q.cell (i := 0) rfl), (hS1198q.cell (i := 1) rfl), (hS1198q.cell (i := 2) rfl), trivial⟩ (fun _ _ _ h_ => h_) (fun a1443q h1444q => ?_)
    clear h1442q a1441q
    refine WT.skip 12 (listed' := #[true, true, true, true, true, true, true, true, true, true, true, true, true, false, false, false, false, false, false, false]) h1444q rfl rfl (by kernel_rfl) rfl rfl ⟨(hS1198q.cell (i := 0) rfl), (hS1198q.cell (i := 1) rfl), (hS1198q.cell (i := 2) rfl), trivial⟩ (fun _ _ _ h_ => h_) (fun a1445q h1446q => ?_)
    clear h1444q a1443q
    refine WT.skip 13 (listed' := #[true, true, true, true, true, true, true, true, true, true, true, true, true, true, false, false, false, false, false, false]) h1446q rfl rfl (by kernel_rfl) rfl rfl ⟨(hS1198q.cell (i := 0) rfl), (hS1198q.cell (i := 1) rfl), (hS1198q.cell (i := 2) rfl), trivial⟩ (fun _ _ _ h_ => h_) (fun a1447q h1448q => ?_)
    clear h1446q a1445q
    refine WT.skip 14 (listed' := #[true, true, true, true, true, true, true, true, true, true, true, true, true, true, true, false, false, false, false, false]) h1448q rfl rfl (by kernel_rfl) rfl rfl ⟨(hS1198q.cell (i := 0) rfl), (hS1198q.cell (i := 1) rfl), (hS1198q.cell (i := 2) rfl), trivial⟩ (fun _ _ _ h_ => h_) (fun a1449q h1450q => ?_)
    clear h1448q a1447q
    refine WT.skip 15 (listed' := #[true, true, true, true, true, true, true, true, true, true, true, true, true, true, true, true, false, false, false, false]) h1450q rfl rfl (by kernel_rfl) rfl rfl ⟨(hS1198q.cell (i := 0) rfl), (hS1198q.cell (i := 1) rfl), (hS1198q.cell (i := 2) rfl), trivial⟩ (fun _ _ _ h_ => h_) (fun a1451q h1452q => ?_)
    clear h1450q a1449q
    refine WT.skip 16 (listed' := #[true, true, true, true, true, true, true, true, true, true, true, true, true, true, true, true, true, false, false, false]) h1452q rfl rfl (by kernel_rfl) rfl rfl ⟨(hS1198q.cell (i := 0) rfl), (hS1198q.cell (i := 1) rfl), (hS1198q.cell (i := 2) rfl), trivial⟩ (fun _ _ _ h_ => h_) (fun a1453q h1454q => ?_)
    clear h1452q a1451q
    refine WT.skip 17 (listed' := #[true, true, true, true, true, true, true, true, true, true, true, true, true, true, true, true, true, true, false, false]) h1454q rfl rfl (by kernel_rfl) rfl rfl ⟨(hS1198q.cell (i := 0) rfl), (hS1198q.cell (i := 1) rfl), (hS1198q.cell (i := 2) rfl), trivial⟩ (fun _ _ _ h_ => h_) (fun a1455q h1456q => ?_)
    clear h1454q a1453q
    refine WT.skip 18 (listed' := #[true, true, true, true, true, true, true, true, true, true, true, true, true, true, true, true, true, true, true, false]) h1456q rfl rfl (by kernel_rfl) rfl rfl ⟨(hS1198q.cell (i := 0) rfl), (hS1198q.cell (i := 1) rfl), (hS1198q.cell (i := 2) rfl), trivial⟩ (fun _ _ _ h_ => h_) (fun a1457q h1458q => ?_)
    clear h1456q a1455q
    refine WT.take 19 (listed' := #[true, true, true, true, true, true, true, true, true, true, true, true, true, true, true, true, true, true, true, true]) h1458q rfl rfl (by kernel_rfl) rfl rfl (.bool false) (fun _ _ => by kernel_rfl) ⟨(hS1198q.cell (i := 0) rfl), (hS1198q.cell (i := 1) rfl), (hS1198q.cell (i := 2) rfl), trivial⟩ (fun _ _ _ h_ => h_) (fun a1459q h1460q => ?_)
    clear h1458q a1457q
    refine WT.done (by kernel_rfl) ?_
    refine wp_else h1460q rfl ?_
    refine wp_exit ?_
    refine WL.start ?_
    refine WL.block (c := 4) (m' := 4) h1460q rfl [(45, .pointer (some ⟨g1058q, 0, none⟩)), (44, .pointer (some ⟨g1058q, 0, none⟩)), (43, .pointer (some ⟨g1058q, 0, none⟩)), (42, .pointer (some ⟨g1058q, 0, none⟩))] (by kernel_rfl) (fun a1461q h1462q => ?_)
    clear h1460q a1459q
    refine WL.op' (m := 4) h1462q rfl rfl ?_
    refine owp_run (v := .slice A1065q x1053q.f0.length c1066q) h1462q rfl (by kernel_rfl) (run_load1 rfl rfl Tryd.underlying23 rfl (hS1198q.cell (i := 0) rfl)) (fun a1463q h1464q => ?_)
    clear h1462q a1461q
    refine WL.block (c := 1) (m' := 6) h1464q rfl [(47, .int .i64 x1056q)] (by kernel_rfl) (fun a1465q h1466q => ?_)
    clear h1464q a1463q
    have hS1467q : St b w0 W1050q.drew R (M1060q :: [(g1058q, .cells ([.slice A1065q x1053q.f0.length c1066q, .int .i64 x1053q.f1, .int .i64 x1053q.f2] : List Value).toArray 51 (0, 0))] :: Fs) := hS1198q.bring 1 rfl rfl
    obtain ⟨r1469q, A1468q, H⟩ := bind1 H
    refine WL.op' (m := 6) h1466q rfl rfl ?_
    refine owp_call [.slice A1065q x1053q.f0.length c1066q, .int .i64 0, .int .i64 x1056q] h1466q rfl (by kernel_rfl) rfl Tryd.func32 (by kernel_rfl) rfl (by kernel_rfl) (api_Field.calls hr1064q A1468q hS1467q) (fun e1471q W1470q hp1472q => ?_)
    obtain ⟨v1475q, M1476q, rfl, hr1477q, hS1478q⟩ := hp1472q
    refine ⟨_, rfl, fun a1473q h1474q => ?_⟩
    clear h1466q a1465q
    obtain ⟨A1479q, c1480q, rfl⟩ := hr1477q.form
    refine WL.block (c := 2) (m' := 9) h1474q rfl [(50, .pointer (some ⟨g1058q, 0, none⟩)), (49, .pointer (some ⟨g1058q, 0, none⟩))] (by kernel_rfl) (fun a1481q h1482q => ?_)
    clear h1474q a1473q
    have hS1483q : St b w0 W1470q R ([(g1058q, .cells ([.slice A1065q x1053q.f0.length c1066q, .int .i64 x1053q.f1, .int .i64 x1053q.f2] : List Value).toArray 51 (0, 0))] :: M1476q :: Fs) := hS1478q.bring 1 rfl rfl
    refine WL.op' (m := 9) h1482q rfl rfl ?_
    refine owp_store (i := 0) (vs := ([.slice A1479q r1469q.length c1480q] : List Value)) h1482q rfl (by kernel_rfl) rfl rfl rfl rfl (by simp [Value.oneCell']) (by kernel_rfl) hS1483q (by simp) (cs' := ([.slice A1479q r1469q.length c1480q, .int .i64 x1053q.f1, .int .i64 x1053q.f2] : List Value)) rfl (fun a1484q W1486q h1485q hS1487q => ?_)
    clear h1482q a1481q
    refine WL.done (by kernel_rfl) ?_
    have hS1488q : St b w0 W1486q R (M1476q :: [(g1058q, .cells ([.slice A1479q r1469q.length c1480q, .int .i64 x1053q.f1, .int .i64 x1053q.f2] : List Value).toArray 51 (0, 0))] :: Fs) := hS1487q.bring 1 rfl rfl
    have hS1489q : St b w0 W1486q R ([(g1058q, .cells ([.slice A1479q r1469q.length c1480q, .int .i64 x1053q.f1, .int .i64 x1053q.f2] : List Value).toArray 51 (0, 0))] :: M1476q :: Fs) := hS1488q.bring 1 rfl rfl
    obtain ⟨M1491q, hr1490q, hM_⟩ := k51qmk (b := b) (w0 := w0) (R := R) (x := (⟨r1469q, x1053q.f1, x1053q.f2⟩ : S51)) (gvf0 := hr1477q)
    have hp1492q : Ptr k51 51 b w0 R (.pointer (some ⟨g1058q, 0, none⟩)) (⟨r1469q, x1053q.f1, x1053q.f2⟩ : S51) ((g1058q, .cells ([.slice A1479q r1469q.length c1480q, .int .i64 x1053q.f1, .int .i64 x1053q.f2] : List Value).toArray 51 (0, 0)) :: M1491q) := ⟨_, _, _, rfl, rfl, hr1490q⟩
    rw [hM_] at hp1492q
    have hS1494q : St b w0 W1486q R (((g1058q, .cells ([.slice A1479q r1469q.length c1480q, .int .i64 x1053q.f1, .int .i64 x1053q.f2] : List Value).toArray 51 (0, 0)) :: (M1476q)) :: Fs) := hS1489q.assoc (by simp only [List.flatten_cons, List.append_assoc, List.cons_append, List.nil_append, List.append_nil])
    obtain ⟨M1495q, hM_⟩ : ∃ y : Frag, y = ((g1058q, .cells ([.slice A1479q r1469q.length c1480q, .int .i64 x1053q.f1, .int .i64 x1053q.f2] : List Value).toArray 51 (0, 0)) :: (M1476q)) := ⟨_, rfl⟩
    rw [← hM_] at hp1492q hS1494q
    clear hM_
    obtain rfl := Option.some.inj H
    repeat (first | refine then_go ?_ | refine inBlock_go ?_)
    refine body_end (v := .tuple #[]) h1485q (by kernel_rfl) (by kernel_rfl) ?_
    exact ⟨M1495q, rfl, hp1492q, hS1494q⟩

/-! ### (*louver/dyntable.Table).Add -/
def dyntable_Table_Add.f (k : Nat) (p0 : S51) (p1 : S29) : Option (S51) := bnd1 (dyntable_Size.f (⟨p1.f0, p1.f1, p1.f2⟩ : S29)) fun r330q => (bnd1 (dyntable_Table_within.f k p0 r330q) fun r350q => (if r330q > r350q.f2 then (some r350q) else (if r350q.f0.length + 1 ≤ 3518437208883 then (lt1 (r350q.f0 ++ ([(⟨p1.f0, p1.f1, false⟩ : S29)] : List S29) : List S29) fun y525q => (some (⟨y525q, IntKind.i64.wrap (r350q.f1 + r330q), r350q.f2⟩ : S51))) else (none))))
set_option maxHeartbeats 2000000 in
set_option maxRecDepth 100000 in
theorem dyntable_Table_Add.calls (k : Nat) {b : Nat} {w0 W : World} {R : Frag} {Fs : List Frag} {p0 : S51} {p1 : S29}  {v0 : Value} {M0 : Frag} {r0q : S51} (hp0 : Ptr k51 51 b w0 R v0 p0 M0) (H : dyntable_Table_Add.f k p0 p1 = some r0q) (hS : St b w0 W R (M0 :: Fs)) :
    Calls Tryd.prog 10 ([v0, .agg #[.string (mkS p1.f0), .string (mkS p1.f1), .bool p1.f2]] : List Value).toArray W (fun e W' => ∃ (O0q : Frag), e = .returned (.tuple #[]) ∧ Ptr k51 51 b w0 R v0 r0q O0q ∧ St b w0 W' R (O0q :: Fs)) := by
  unfold dyntable_Table_Add.f at H
  refine calls_enter Tryd.func10 rfl 40 rfl (by kernel_rfl) (fun a h => ?_)
  refine wp_seq ?_
  refine WL.start ?_
  refine WL.op' (m := 0) h rfl rfl ?_
  refine owp_new (fun g_ => .pointer (some ⟨g_, 0, none⟩)) (.cells ([.string (mkS p1.f0), .string (mkS p1.f1), .bool p1.f2] : List Value).toArray 29 (0, 0)) h rfl (by kernel_rfl) (by kernel_rfl) hS (fun a306q W308q g309q h307q hS310q => ?_)
  refine WL.done (by kernel_rfl) ?_
  refine wp_seq ?_
  refine wp_seq ?_
  refine WL.start ?_
  refine WL.block (c := 1) (m' := 1) h307q rfl [(5, v0)] (by kernel_rfl) (fun a311q h312q => ?_)
  clear h307q a306q
  have hS313q : St b w0 W308q R (M0 :: [(g309q, .cells ([.string (mkS p1.f0), .string (mkS p1.f1), .bool p1.f2] : List Value).toArray 29 (0, 0))] :: Fs) := hS310q.bring 1 rfl rfl
  obtain ⟨g314q, cs315q, M316q, hv_, hM_, hr317q⟩ := hp0
  obtain ⟨v318q, M319q, rfl, hM2q, hr320q⟩ := k51qrep hr317q
  subst hM2q
  subst hM_
  subst hv_
  replace hr320q : Row k29 29 b w0 R v318q p0.f0 M316q := hr320q
  obtain ⟨A321q, c322q, rfl⟩ := hr320q.form
  have hS323q : St b w0 W308q R ([(g314q, .cells ([.slice A321q p0.f0.length c322q, .int .i64 p0.f1, .int .i64 p0.f2] : List Value).toArray 51 (0, 0))] :: M316q :: [(g309q, .cells ([.string (mkS p1.f0), .string (mkS p1.f1), .bool p1.f2] : List Value).toArray 29 (0, 0))] :: Fs) := hS313q.assoc (by simp only [List.flatten_cons, List.append_assoc, List.cons_append, List.nil_append, List.append_nil])
  refine WL.block (c := 1) (m' := 2) h312q rfl [(6, .bool false)] (by kernel_rfl) (fun a324q h325q => ?_)
  clear h312q a311q
  refine WL.done (by kernel_rfl) ?_
  refine wp_else h325q rfl ?_
  refine wp_skip ?_
  refine wp_seq ?_
  refine WL.start ?_
  have hS326q : St b w0 W308q R ([(g309q, .cells ([.string (mkS p1.f0), .string (mkS p1.f1), .bool p1.f2] : List Value).toArray 29 (0, 0))] :: [(g314q, .cells ([.slice A321q p0.f0.length c322q, .int .i64 p0.f1, .int .i64 p0.f2] : List Value).toArray 51 (0, 0))] :: M316q :: Fs) := hS323q.bring 2 rfl rfl
  refine WL.op' (m := 0) h325q rfl rfl ?_
  refine owp_run (v := .agg #[.string (mkS p1.f0), .string (mkS p1.f1), .bool p1.f2]) h325q rfl (by kernel_rfl) (run_loadN rfl rfl Tryd.underlying29 rfl (cs := ([.string (mkS p1.f0), .string (mkS p1.f1), .bool p1.f2] : List Value)) (by kernel_rfl) (hS326q.cells (vs := ([.string (mkS p1.f0), .string (mkS p1.f1), .bool p1.f2] : List Value)) rfl)) (fun a327q h328q => ?_)
  clear h325q a324q
  obtain ⟨r330q, A329q, H⟩ := bind1 H
  refine WL.op' (m := 1) h328q rfl rfl ?_
  refine owp_call [.agg #[.string (mkS p1.f0), .string (mkS p1.f1), .bool p1.f2]] h328q rfl (by kernel_rfl) rfl Tryd.func23 (by kernel_rfl) rfl (by kernel_rfl) (dyntable_Size.calls (p0 := (⟨p1.f0, p1.f1, p1.f2⟩ : S29))  A329q hS326q) (fun e332q W331q hp333q => ?_)
  obtain ⟨rfl, hS336q⟩ := hp333q
  refine ⟨_, rfl, fun a334q h335q => ?_⟩
  clear h328q a327q
  refine WL.block (c := 1) (m' := 3) h335q rfl [(4, .int .i64 r330q)] (by kernel_rfl) (fun a337q h338q => ?_)
  clear h335q a334q
  refine WL.done (by kernel_rfl) ?_
  refine wp_seq ?_
  refine WL.start ?_
  refine WL.block (c := 2) (m' := 2) h338q rfl [(10, .int .i64 r330q), (9, .pointer (some ⟨g314q, 0, none⟩))] (by kernel_rfl) (fun a339q h340q => ?_)
  clear h338q a337q
  have hS341q : St b w0 W331q R (M316q :: [(g309q, .cells ([.string (mkS p1.f0), .string (mkS p1.f1), .bool p1.f2] : List Value).toArray 29 (0, 0))] :: [(g314q, .cells ([.slice A321q p0.f0.length c322q, .int .i64 p0.f1, .int .i64 p0.f2] : List Value).toArray 51 (0, 0))] :: Fs) := hS336q.bring 2 rfl rfl
  have hS342q : St b w0 W331q R ([(g314q, .cells ([.slice A321q p0.f0.length c322q, .int .i64 p0.f1, .int .i64 p0.f2] : List Value).toArray 51 (0, 0))] :: M316q :: [(g309q, .cells ([.string (mkS p1.f0), .string (mkS p1.f1), .bool p1.f2] : List Value).toArray 29 (0, 0))] :: Fs) := hS341q.bring 2 rfl rfl
  obtain ⟨M344q, hr343q, hM_⟩ := k51qmk (b := b) (w0 := w0) (R := R) (x := p0) (gvf0 := hr320q)
  have hp345q : Ptr k51 51 b w0 R (.pointer (some ⟨g314q, 0, none⟩)) p0 ((g314q, .cells ([.slice A321q p0.f0.length c322q, .int .i64 p0.f1, .int .i64 p0.f2] : List Value).toArray 51 (0, 0)) :: M344q) := ⟨_, _, _, rfl, rfl, hr343q⟩
  rw [hM_] at hp345q
  have hS347q : St b w0 W331q R (((g314q, .cells ([.slice A321q p0.f0.length c322q, .int .i64 p0.f1, .int .i64 p0.f2] : List Value).toArray 51 (0, 0)) :: (M316q)) :: [(g309q, .cells ([.string (mkS p1.f0), .string (mkS p1.f1), .bool p1.f2] : List Value).toArray 29 (0, 0))] :: Fs) := hS342q.assoc (by simp only [List.flatten_cons, List.append_assoc, List.cons_append, List.nil_append, List.append_nil])
  obtain ⟨M348q, hM_⟩ : ∃ y : Frag, y = ((g314q, .cells ([.slice A321q p0.f0.length c322q, .int .i64 p0.f1, .int .i64 p0.f2] : List Value).toArray 51 (0, 0)) :: (M316q)) := ⟨_, rfl⟩
  rw [← hM_] at hp345q hS347q
  clear hM_
  obtain ⟨r350q, A349q, H⟩ := bind1 H
  refine WL.op' (m := 2) h340q rfl rfl ?_
  refine owp_call [.pointer (some ⟨g314q, 0, none⟩), .int .i64 r330q] h340q rfl (by kernel_rfl) rfl Tryd.func25 (by kernel_rfl) rfl (by kernel_rfl) (dyntable_Table_within.calls k hp345q A349q hS347q) (fun e352q W351q hp353q => ?_)
  obtain ⟨M356q, rfl, hr357q, hS358q⟩ := hp353q
  refine ⟨_, rfl, fun a354q h355q => ?_⟩
  clear h340q a339q
  refine WL.done (by kernel_rfl) ?_
  refine wp_seq ?_
  refine wp_seq ?_
  refine WL.start ?_
  refine WL.block (c := 2) (m' := 2) h355q rfl [(13, .pointer (some ⟨g314q, 0, none⟩)), (12, .int .i64 r330q)] (by kernel_rfl) (fun a359q h360q => ?_)
  clear h355q a354q
  obtain ⟨g361q, cs362q, M363q, hv_, hM_, hr364q⟩ := hr357q
  obtain ⟨v365q, M366q, rfl, hM2q, hr367q⟩ := k51qrep hr364q
  subst hM2q
  subst hM_
  have hg_ : g314q = g361q := by simpa using hv_
  subst hg_
  clear hv_
  replace hr367q : Row k29 29 b w0 R v365q r350q.f0 M363q := hr367q
  obtain ⟨A368q, c369q, rfl⟩ := hr367q.form
  have hS370q : St b w0 W351q R ([(g314q, .cells ([.slice A368q r350q.f0.length c369q, .int .i64 r350q.f1, .int .i64 r350q.f2] : List Value).toArray 51 (0, 0))] :: M363q :: [(g309q, .cells ([.string (mkS p1.f0), .string (mkS p1.f1), .bool p1.f2] : List Value).toArray 29 (0, 0))] :: Fs) := hS358q.assoc (by simp only [List.flatten_cons, List.append_assoc, List.cons_append, List.nil_append, List.append_nil])
  refine WL.block (c := 2) (m' := 4) h360q rfl [(15, .pointer (some ⟨g314q, 2, none⟩)), (14, .pointer (some ⟨g314q, 0, none⟩))] (by kernel_rfl) (fun a371q h372q => ?_)
  clear h360q a359q
  refine WL.op' (m := 4) h372q rfl rfl ?_
  refine owp_run (v := .int .i64 r350q.f2) h372q rfl (by kernel_rfl) (run_load1 rfl rfl Tryd.underlying3 rfl (hS370q.cell (i := 2) rfl)) (fun a373q h374q => ?_)
  clear h372q a371q
  refine WL.block (c := 1) (m' := 6) h374q rfl [(17, .bool (decide (r330q > r350q.f2)))] (by kernel_rfl) (fun a375q h376q => ?_)
  clear h374q a373q
  refine WL.done (by kernel_rfl) ?_
  by_cases c377q : r330q > r350q.f2
  · rw [if_pos c377q] at H
    have hb_ : (decide (r330q > r350q.f2)) = true := decide_eq_true c377q
    try rw [hb_] at h376q
    clear hb_
    refine wp_then h376q rfl ?_
    refine wp_ret ?_
    have hS378q : St b w0 W351q R (M363q :: [(g314q, .cells ([.slice A368q r350q.f0.length c369q, .int .i64 r350q.f1, .int .i64 r350q.f2] : List Value).toArray 51 (0, 0))] :: [(g309q, .cells ([.string (mkS p1.f0), .string (mkS p1.f1), .bool p1.f2] : List Value).toArray 29 (0, 0))] :: Fs) := hS370q.bring 1 rfl rfl
    have hS379q : St b w0 W351q R ([(g314q, .cells ([.slice A368q r350q.f0.length c369q, .int .i64 r350q.f1, .int .i64 r350q.f2] : List Value).toArray 51 (0, 0))] :: M363q :: [(g309q, .cells ([.string (mkS p1.f0), .string (mkS p1.f1), .bool p1.f2] : List Value).toArray 29 (0, 0))] :: Fs) := hS378q.bring 1 rfl rfl
    obtain ⟨M381q, hr380q, hM_⟩ := k51qmk (b := b) (w0 := w0) (R := R) (x := r350q) (gvf0 := hr367q)
    have hp382q : Ptr k51 51 b w0 R (.pointer (some ⟨g314q, 0, none⟩)) r350q ((g314q, .cells ([.slice A368q r350q.f0.length c369q, .int .i64 r350q.f1, .int .i64 r350q.f2] : List Value).toArray 51 (0, 0)) :: M381q) := ⟨_, _, _, rfl, rfl, hr380q⟩
    rw [hM_] at hp382q
    have hS384q : St b w0 W351q R (((g314q, .cells ([.slice A368q r350q.f0.length c369q, .int .i64 r350q.f1, .int .i64 r350q.f2] : List Value).toArray 51 (0, 0)) :: (M363q)) :: [(g309q, .cells ([.string (mkS p1.f0), .string (mkS p1.f1), .bool p1.f2] : List Value).toArray 29 (0, 0))] :: Fs) := hS379q.assoc (by simp only [List.flatten_cons, List.append_assoc, List.cons_append, List.nil_append, List.append_nil])
    obtain ⟨M385q, hM_⟩ : ∃ y : Frag, y = ((g314q, .cells ([.slice A368q r350q.f0.length c369q, .int .i64 r350q.f1, .int .i64 r350q.f2] : List Value).toArray 51 (0, 0)) :: (M363q)) := ⟨_, rfl⟩
    rw [← hM_] at hp382q hS384q
    clear hM_
    have hS386q : St b w0 W351q R ([(g309q, .cells ([.string (mkS p1.f0), .string (mkS p1.f1), .bool p1.f2] : List Value).toArray 29 (0, 0))] :: M385q :: Fs) := hS384q.bring 1 rfl rfl
    have hS387q : St b w0 W351q R (M385q :: Fs) := hS386q.drop_
    obtain rfl := Option.some.inj H
    repeat (first | refine then_ret ?_ | refine inBlock_ret ?_ | refine inBlock_go ?_)
    refine body_ret (v := .tuple #[]) h376q (by kernel_rfl) (by kernel_rfl) ?_
    exact ⟨M385q, rfl, hp382q, hS387q⟩
  · rw [if_neg c377q] at H
    have hb_ : (decide (r330q > r350q.f2)) = false := decide_eq_false c377q
    try rw [hb_] at h376q
    clear hb_
    refine wp_else h376q rfl ?_
    refine wp_skip ?_
    refine wp_seq ?_
    refine WT.start 14 (fun w_ => (w_.cell? ⟨g314q, 0, none⟩ = some (.slice A368q r350q.f0.length c369q)) ∧ (w_.cell? ⟨g309q, 0, none⟩ = some (.string (mkS p1.f0))) ∧ (w_.cell? ⟨g309q, 1, none⟩ = some (.string (mkS p1.f1))) ∧ True) (by kernel_rfl) #[false, false, false, false, false, false, false, false, false, false, false, false, false, false, false] 15 rfl rfl ?_
    have hS488q := hS370q.drew
    refine WT.take 0 (listed' := #[true, false, false, false, false, false, false, false, false, false, false, false, false, false, false]) h376q rfl rfl (by kernel_rfl) rfl rfl (.pointer (some ⟨g314q, 0, none⟩)) (fun _ _ => by kernel_rfl) ⟨(hS488q.cell (i := 0) rfl), ((hS488q.bring 2 rfl rfl).cell (i := 0) rfl), ((hS488q.bring 2 rfl rfl).cell (i := 1) rfl), trivial⟩ (fun _ _ _ h_ => h_) (fun a489q h490q => ?_)
    clear h376q a375q
    refine WT.take 1 (listed' := #[true, true, false, false, false, false, false, false, false, false, false, false, false, false, false]) h490q rfl rfl (by kernel_rfl) rfl rfl (.pointer (some ⟨g314q, 0, none⟩)) (fun _ _ => by kernel_rfl) ⟨(hS488q.cell (i := 0) rfl), ((hS488q.bring 2 rfl rfl).cell (i := 0) rfl), ((hS488q.bring 2 rfl rfl).cell (i := 1) rfl), trivial⟩ (fun _ _ _ h_ => h_) (fun a491q h492q => ?_)
    clear h490q a489q
    refine WT.take 2 (listed' := #[true, true, true, false, false, false, false, false, false, false, false, false, false, false, false]) h492q rfl rfl (by kernel_rfl) rfl rfl (.pointer (some ⟨g314q, 0, none⟩)) (fun _ _ => by kernel_rfl) ⟨(hS488q.cell (i := 0) rfl), ((hS488q.bring 2 rfl rfl).cell (i := 0) rfl), ((hS488q.bring 2 rfl rfl).cell (i := 1) rfl), trivial⟩ (fun _ _ _ h_ => h_) (fun a493q h494q => ?_)
    clear h492q a491q
    refine WT.take 3 (listed' := #[true, true, true, true, false, false, false, false, false, false, false, false, false, false, false]) h494q rfl rfl (by kernel_rfl) rfl rfl (.pointer (some ⟨g314q, 0, none⟩)) (fun _ _ => by kernel_rfl) ⟨(hS488q.cell (i := 0) rfl), ((hS488q.bring 2 rfl rfl).cell (i := 0) rfl), ((hS488q.bring 2 rfl rfl).cell (i := 1) rfl), trivial⟩ (fun _ _ _ h_ => h_) (fun a495q h496q => ?_)
    clear h494q a493q
    refine WT.take 5 (listed' := #[true, true, true, true, false, true, false, false, false, false, false, false, false, false, false]) h496q rfl rfl (by kernel_rfl) rfl rfl (.pointer (some ⟨g309q, 0, none⟩)) (fun _ _ => by kernel_rfl) ⟨(hS488q.cell (i := 0) rfl), ((hS488q.bring 2 rfl rfl).cell (i := 0) rfl), ((hS488q.bring 2 rfl rfl).cell (i := 1) rfl), trivial⟩ (fun _ _ _ h_ => h_) (fun a497q h498q => ?_)
    clear h496q a495q
    refine WT.take 7 (listed' := #[true, true, true, true, false, true, false, true, false, false, false, false, false, false, false]) h498q rfl rfl (by kernel_rfl) rfl rfl (.pointer (some ⟨g309q, 1, none⟩)) (fun _ _ => by kernel_rfl) ⟨(hS488q.cell (i := 0) rfl), ((hS488q.bring 2 rfl rfl).cell (i := 0) rfl), ((hS488q.bring 2 rfl rfl).cell (i := 1) rfl), trivial⟩ (fun _ _ _ h_ => h_) (fun a499q h500q => ?_)
    clear h498q a497q
    refine WT.take 4 (listed' := #[true, true, true, true, true, true, false, true, false, false, false, false, false, false, false]) h500q rfl rfl (by kernel_rfl) rfl rfl (.slice A368q r350q.f0.length c369q) (fun w_ hs_ => (run_load1 rfl rfl Tryd.underlying23 rfl hs_.1)) ⟨(hS488q.cell (i := 0) rfl), ((hS488q.bring 2 rfl rfl).cell (i := 0) rfl), ((hS488q.bring 2 rfl rfl).cell (i := 1) rfl), trivial⟩ (fun _ _ _ h_ => h_) (fun a501q h502q => ?_)
    clear h500q a499q
    refine WT.take 6 (listed' := #[true, true, true, true, true, true, true, true, false, false, false, false, false, false, false]) h502q rfl rfl (by kernel_rfl) rfl rfl (.string (mkS p1.f0)) (fun w_ hs_ => (run_load1 rfl rfl Tryd.underlying9 rfl hs_.2.1)) ⟨(hS488q.cell (i := 0) rfl), ((hS488q.bring 2 rfl rfl).cell (i := 0) rfl), ((hS488q.bring 2 rfl rfl).cell (i := 1) rfl), trivial⟩ (fun _ _ _ h_ => h_) (fun a503q h504q => ?_)
    clear h502q a501q
    refine WT.take 8 (listed' := #[true, true, true, true, true, true, true, true, true, false, false, false, false, false, false]) h504q rfl rfl (by kernel_rfl) rfl rfl (.string (mkS p1.f1)) (fun w_ hs_ => (run_load1 rfl rfl Tryd.underlying9 rfl hs_.2.2.1)) ⟨(hS488q.cell (i := 0) rfl), ((hS488q.bring 2 rfl rfl).cell (i := 0) rfl), ((hS488q.bring 2 rfl rfl).cell (i := 1) rfl), trivial⟩ (fun _ _ _ h_ => h_) (fun a505q h506q => ?_)
    clear h504q a503q
    refine WT.take 9 (listed' := #[true, true, true, true, true, true, true, true, true, true, false, false, false, false, false]) h506q rfl rfl (by kernel_rfl) rfl rfl (.agg #[.string (mkS p1.f0), .string (mkS p1.f1), .bool false]) (fun _ _ => by kernel_rfl) ⟨(hS488q.cell (i := 0) rfl), ((hS488q.bring 2 rfl rfl).cell (i := 0) rfl), ((hS488q.bring 2 rfl rfl).cell (i := 1) rfl), trivial⟩ (fun _ _ _ h_ => h_) (fun a507q h508q => ?_)
    clear h506q a505q
    obtain ⟨_, hrep_, hMe_⟩ := k29qmk (b := b) (w0 := w0) (R := R) (x := (⟨p1.f0, p1.f1, false⟩ : S29)) 
    subst hMe_
    have hq509q := hrep_; clear hrep_
    refine WT.op 10 (listed' := #[true, true, true, true, true, true, true, true, true, true, true, false, false, false, false]) h508q rfl (by kernel_rfl) rfl rfl ?_
    refine owp_new (fun g_ => .slice (some ⟨g_, 0, none⟩) 1 1) (.cells ([.string (mkS p1.f0), .string (mkS p1.f1), .bool false] : List Value).toArray 29 (0, 0)) h508q rfl (by kernel_rfl) (by kernel_rfl) hS488q (fun a510q W512q g513q h511q hS514q => ?_)
    clear h508q a507q
    have hr515q : Row k29 29 b w0 R (.slice (some ⟨g513q, 0, none⟩) 1 1) ([(⟨p1.f0, p1.f1, false⟩ : S29)] : List S29) [(g513q, .cells ([.string (mkS p1.f0), .string (mkS p1.f1), .bool false] : List Value).toArray 29 (0, 0))] := Row.lit (xs := ([(⟨p1.f0, p1.f1, false⟩ : S29)] : List S29)) (Mi := []) ⟨_, _, [], _, rfl, rfl, hq509q, ⟨rfl, rfl⟩⟩ (by simp [maxLen])
    refine ⟨.inr ⟨((hS514q.bring 1 rfl rfl).cell (i := 0) rfl), ((hS514q.bring 3 rfl rfl).cell (i := 0) rfl), ((hS514q.bring 3 rfl rfl).cell (i := 1) rfl), trivial⟩, ?_⟩
    by_cases c516q : r350q.f0.length + 1 ≤ 3518437208883
    · rw [if_pos c516q] at H
      have hS517q : St b w0 W512q R (M363q :: [(g513q, .cells ([.string (mkS p1.f0), .string (mkS p1.f1), .bool false] : List Value).toArray 29 (0, 0))] :: [(g314q, .cells ([.slice A368q r350q.f0.length c369q, .int .i64 r350q.f1, .int .i64 r350q.f2] : List Value).toArray 51 (0, 0))] :: [(g309q, .cells ([.string (mkS p1.f0), .string (mkS p1.f1), .bool p1.f2] : List Value).toArray 29 (0, 0))] :: Fs) := hS514q.bring 2 rfl rfl
      refine WT.op 11 (listed' := #[true, true, true, true, true, true, true, true, true, true, true, true, false, false, false]) h511q rfl (by kernel_rfl) rfl rfl ?_
      refine owp_app_take (z := .agg #[.string (mkS []), .string (mkS []), .bool false]) (bytes := 40) (dk := k29) h511q rfl (by kernel_rfl) rfl rfl rfl hr367q hr515q hS517q Tryd.underlying23 (by kernel_rfl) rfl (by decide) (by decide) (by first | omega | (simp only [List.length_cons, List.length_nil] at *; omega)) (fun a518q W520q v521q M522q h519q hr523q hS524q => ?_)
      clear h511q a510q
      obtain ⟨y525q, hy526q, H⟩ := lete H
      have hr527q : Row k29 29 b w0 R v521q y525q M522q := by rw [hy526q]; exact hr523q
      clear hr523q
      obtain ⟨A528q, c529q, rfl⟩ := hr527q.form
      refine ⟨.inr ⟨((hS524q.bring 1 rfl rfl).cell (i := 0) rfl), ((hS524q.bring 2 rfl rfl).cell (i := 0) rfl), ((hS524q.bring 2 rfl rfl).cell (i := 1) rfl), trivial⟩, ?_⟩
      refine WT.op 12 (listed' := #[true, true, true, true, true, true, true, true, true, true, true, true, true, false, false]) h519q rfl (by kernel_rfl) rfl rfl ?_
      refine owp_run (v := .pointer (some ⟨g314q, 0, none⟩)) h519q rfl (by kernel_rfl) (by kernel_rfl) (fun a530q h531q => ?_)
      clear h519q a518q
      refine ⟨.inr ⟨((hS524q.bring 1 rfl rfl).cell (i := 0) rfl), ((hS524q.bring 2 rfl rfl).cell (i := 0) rfl), ((hS524q.bring 2 rfl rfl).cell (i := 1) rfl), trivial⟩, ?_⟩
      refine WT.take 13 (listed' := #[true, true, true, true, true, true, true, true, true, true, true, true, true, true, false]) h531q rfl rfl (by kernel_rfl) rfl rfl (.pointer (some ⟨g314q, 0, none⟩)) (fun _ _ => by kernel_rfl) ⟨((hS524q.bring 1 rfl rfl).cell (i := 0) rfl), ((hS524q.bring 2 rfl rfl).cell (i := 0) rfl), ((hS524q.bring 2 rfl rfl).cell (i := 1) rfl), trivial⟩ (fun _ _ _ h_ => h_) (fun a532q h533q => ?_)
      clear h531q a530q
      have hS534q : St b w0 W520q R ([(g314q, .cells ([.slice A368q r350q.f0.length c369q, .int .i64 r350q.f1, .int .i64 r350q.f2] : List Value).toArray 51 (0, 0))] :: M522q :: [(g309q, .cells ([.string (mkS p1.f0), .string (mkS p1.f1), .bool p1.f2] : List Value).toArray 29 (0, 0))] :: Fs) := hS524q.bring 1 rfl rfl
      refine WT.op 14 (listed' := #[true, true, true, true, true, true, true, true, true, true, true, true, true, true, true]) h533q rfl (by kernel_rfl) rfl rfl ?_
      refine owp_store (i := 0) (vs := ([.slice A528q y525q.length c529q] : List Value)) h533q rfl (by kernel_rfl) rfl rfl rfl rfl (by simp [Value.oneCell']) (by kernel_rfl) hS534q (by simp) (cs' := ([.slice A528q y525q.length c529q, .int .i64 r350q.f1, .int .i64 r350q.f2] : List Value)) rfl (fun a535q W537q h536q hS538q => ?_)
      clear h533q a532q
      refine ⟨.inl (by decide), ?_⟩
      refine WT.done (by kernel_rfl) ?_
      refine WL.start ?_
      refine WL.block (c := 3) (m' := 3) h536q rfl [(34, .pointer (some ⟨g314q, 1, none⟩)), (33, .pointer (some ⟨g314q, 0, none⟩)), (32, .pointer (some ⟨g314q, 0, none⟩))] (by kernel_rfl) (fun a539q h540q => ?_)
      clear h536q a535q
      refine WL.op' (m := 3) h540q rfl rfl ?_
      refine owp_run (v := .int .i64 r350q.f1) h540q rfl (by kernel_rfl) (run_load1 rfl rfl Tryd.underlying3 rfl (hS538q.cell (i := 1) rfl)) (fun a541q h542q => ?_)
      clear h540q a539q
      refine WL.block (c := 4) (m' := 8) h542q rfl [(39, .pointer (some ⟨g314q, 1, none⟩)), (38, .pointer (some ⟨g314q, 0, none⟩)), (37, .int .i64 (IntKind.i64.wrap (r350q.f1 + r330q))), (36, .int .i64 r330q)] (by kernel_rfl) (fun a543q h544q => ?_)
      clear h542q a541q
      refine WL.op' (m := 8) h544q rfl rfl ?_
      refine owp_store (i := 1) (vs := ([.int .i64 (IntKind.i64.wrap (r350q.f1 + r330q))] : List Value)) h544q rfl (by kernel_rfl) rfl rfl rfl rfl (by simp [Value.oneCell']) (by kernel_rfl) hS538q (by simp) (cs' := ([.slice A528q y525q.length c529q, .int .i64 (IntKind.i64.wrap (r350q.f1 + r330q)), .int .i64 r350q.f2] : List Value)) rfl (fun a545q W547q h546q hS548q => ?_)
      clear h544q a543q
      refine WL.done (by kernel_rfl) ?_
      have hS549q : St b w0 W547q R (M522q :: [(g314q, .cells ([.slice A528q y525q.length c529q, .int .i64 (IntKind.i64.wrap (r350q.f1 + r330q)), .int .i64 r350q.f2] : List Value).toArray 51 (0, 0))] :: [(g309q, .cells ([.string (mkS p1.f0), .string (mkS p1.f1), .bool p1.f2] : List Value).toArray 29 (0, 0))] :: Fs) := hS548q.bring 1 rfl rfl
      have hS550q : St b w0 W547q R ([(g314q, .cells ([.slice A528q y525q.length c529q, .int .i64 (IntKind.i64.wrap (r350q.f1 + r330q)), .int .i64 r350q.f2] : List Value).toArray 51 (0, 0))] :: M522q :: [(g309q, .cells ([.string (mkS p1.f0), .string (mkS p1.f1), .bool p1.f2] : List Value).toArray 29 (0, 0))] :: Fs) := hS549q.bring 1 rfl rfl
      obtain ⟨M552q, hr551q, hM_⟩ := k51qmk (b := b) (w0 := w0) (R := R) (x := (⟨y525q, IntKind.i64.wrap (r350q.f1 + r330q), r350q.f2⟩ : S51)) (gvf0 := hr527q)
      have hp553q : Ptr k51 51 b w0 R (.pointer (some ⟨g314q, 0, none⟩)) (⟨y525q, IntKind.i64.wrap (r350q.f1 + r330q), r350q.f2⟩ : S51) ((g314q, .cells ([.slice A528q y525q.length c529q, .int .i64 (IntKind.i64.wrap (r350q.f1 + r330q)), .int .i64 r350q.f2] : List Value).toArray 51 (0, 0)) :: M552q) := ⟨_, _, _, rfl, rfl, hr551q⟩
      rw [hM_] at hp553q
      have hS555q : St b w0 W547q R (((g314q, .cells ([.slice A528q y525q.length c529q, .int .i64 (IntKind.i64.wrap (r350q.f1 + r330q)), .int .i64 r350q.f2] : List Value).toArray 51 (0, 0)) :: (M522q)) :: [(g309q, .cells ([.string (mkS p1.f0), .string (mkS p1.f1), .bool p1.f2] : List Value).toArray 29 (0, 0))] :: Fs) := hS550q.assoc (by simp only [List.flatten_cons, List.append_assoc, List.cons_append, List.nil_append, List.append_nil])
      obtain ⟨M556q, hM_⟩ : ∃ y : Frag, y = ((g314q, .cells ([.slice A528q y525q.length c529q, .int .i64 (IntKind.i64.wrap (r350q.f1 + r330q)), .int .i64 r350q.f2] : List Value).toArray 51 (0, 0)) :: (M522q)) := ⟨_, rfl⟩
      rw [← hM_] at hp553q hS555q
      clear hM_
      have hS557q : St b w0 W547q R ([(g309q, .cells ([.string (mkS p1.f0), .string (mkS p1.f1), .bool p1.f2] : List Value).toArray 29 (0, 0))] :: M556q :: Fs) := hS555q.bring 1 rfl rfl
      have hS558q : St b w0 W547q R (M556q :: Fs) := hS557q.drop_
      obtain rfl := Option.some.inj H
      repeat (first | refine then_go ?_ | refine inBlock_go ?_)
      refine body_end (v := .tuple #[]) h546q (by kernel_rfl) (by kernel_rfl) ?_
      exact ⟨M556q, rfl, hp553q, hS558q⟩
    · rw [if_neg c516q] at H
      cases H

/-! ### (*louver/dyntable.Table).Add -/
def dyntable_Table_Add_nil.f (p1 : S29) : Option (Unit) := some ()
set_option maxHeartbeats 2000000 in
set_option maxRecDepth 100000 in
theorem dyntable_Table_Add_nil.calls {b : Nat} {w0 W : World} {R : Frag} {Fs : List Frag} {p1 : S29}    (H : dyntable_Table_Add_nil.f p1 = some ()) (hS : St b w0 W R (Fs)) :
    Calls Tryd.prog 10 ([.pointer none, .agg #[.string (mkS p1.f0), .string (mkS p1.f1), .bool p1.f2]] : List Value).toArray W (fun e W' => e = .returned (.tuple #[]) ∧ St b w0 W' R (Fs)) := by
  unfold dyntable_Table_Add_nil.f at H
  refine calls_enter Tryd.func10 rfl 40 rfl (by kernel_rfl) (fun a h => ?_)
  refine wp_seq ?_
  refine WL.start ?_
  refine WL.op' (m := 0) h rfl rfl ?_
  refine owp_new (fun g_ => .pointer (some ⟨g_, 0, none⟩)) (.cells ([.string (mkS p1.f0), .string (mkS p1.f1), .bool p1.f2] : List Value).toArray 29 (0, 0)) h rfl (by kernel_rfl) (by kernel_rfl) hS (fun a9q W11q g12q h10q hS13q => ?_)
  refine WL.done (by kernel_rfl) ?_
  refine wp_seq ?_
  refine wp_seq ?_
  refine WL.start ?_
  refine WL.block (c := 2) (m' := 2) h10q rfl [(6, .bool true), (5, .pointer none)] (by kernel_rfl) (fun a14q h15q => ?_)
  clear h10q a9q
  refine WL.done (by kernel_rfl) ?_
  refine wp_then h15q rfl ?_
  refine wp_ret ?_
  have hS16q : St b w0 W11q R (Fs) := hS13q.drop_
  repeat (first | refine then_ret ?_ | refine inBlock_ret ?_ | refine inBlock_go ?_)
  refine body_ret (v := .tuple #[]) h15q (by kernel_rfl) (by kernel_rfl) ?_
  exact ⟨rfl, hS16q⟩

def G0 : List S29 := [⟨[58, 97, 117, 116, 104, 111, 114, 105, 116, 121], [], false⟩, ⟨[58, 109, 101, 116, 104, 111, 100], [71, 69, 84], false⟩, ⟨[58, 109, 101, 116, 104, 111, 100], [80, 79, 83, 84], false⟩, ⟨[58, 112, 97, 116, 104], [47], false⟩, ⟨[58, 112, 97, 116, 104], [47, 105, 110, 100, 101, 120, 46, 104, 116, 109, 108], false⟩, ⟨[58, 115, 99, 104, 101, 109, 101], [104, 116, 116, 112], false⟩, ⟨[58, 115, 99, 104, 101, 109, 101], [104, 116, 116, 112, 115], false⟩, ⟨[58, 115, 116, 97, 116, 117, 115], [50, 48, 48], false⟩, ⟨[58, 115, 116, 97, 116, 117, 115], [50, 48, 52], false⟩, ⟨[58, 115, 116, 97, 116, 117, 115], [50, 48, 54], false⟩, ⟨[58, 115, 116, 97, 116, 117, 115], [51, 48, 52], false⟩, ⟨[58, 115, 116, 97, 116, 117, 115], [52, 48, 48], false⟩, ⟨[58, 115, 116, 97, 116, 117, 115], [52, 48, 52], false⟩, ⟨[58, 115, 116, 97, 116, 117, 115], [53, 48, 48], false⟩, ⟨[97, 99, 99, 101, 112, 116, 45, 99, 104, 97, 114, 115, 101, 116], [], false⟩, ⟨[97, 99, 99, 101, 112, 116, 45, 101, 110, 99, 111, 100, 105, 110, 103], [103, 122, 105, 112, 44, 32, 100, 101, 102, 108, 97, 116, 101], false⟩, ⟨[97, 99, 99, 101, 112, 116, 45, 108, 97, 110, 103, 117, 97, 103, 101], [], false⟩, ⟨[97, 99, 99, 101, 112, 116, 45, 114, 97, 110, 103, 101, 115], [], false⟩, ⟨[97, 99, 99, 101, 112, 116], [], false⟩, ⟨[97, 99, 99, 101, 115, 115, 45, 99, 111, 110, 116, 114, 111, 108, 45, 97, 108, 108, 111, 119, 45, 111, 114, 105, 103, 105, 110], [], false⟩, ⟨[97, 103, 101], [], false⟩, ⟨[97, 108, 108, 111, 119], [], false⟩, ⟨[97, 117, 116, 104, 111, 114, 105, 122, 97, 116, 105, 111, 110], [], false⟩, ⟨[99, 97, 99, 104, 101, 45, 99, 111, 110, 116, 114, 111, 108], [], false⟩, ⟨[99, 111, 110, 116, 101, 110, 116, 45, 100, 105, 115, 112, 111, 115, 105, 116, 105, 111, 110], [], false⟩, ⟨[99, 111, 110, 116, 101, 110, 116, 45, 101, 110, 99, 111, 100, 105, 110, 103], [], false⟩, ⟨[99, 111, 110, 116, 101, 110, 116, 45, 108, 97, 110, 103, 117, 97, 103, 101], [], false⟩, ⟨[99, 111, 110, 116, 101, 110, 116, 45, 108, 101, 110, 103, 116, 104], [], false⟩, ⟨[99, 111, 110, 116, 101, 110, 116, 45, 108, 111, 99, 97, 116, 105, 111, 110], [], false⟩, ⟨[99, 111, 110, 116, 101, 110, 116, 45, 114, 97, 110, 103, 101], [], false⟩, ⟨[99, 111, 110, 116, 101, 110, 116, 45, 116, 121, 112, 101], [], false⟩, ⟨[99, 111, 111, 107, 105, 101], [], false⟩, ⟨[100, 97, 116, 101], [], false⟩, ⟨[101, 116, 97, 103], [], false⟩, ⟨[101, 120, 112, 101, 99, 116], [], false⟩, ⟨[101, 120, 112, 105, 114, 101, 115], [], false⟩, ⟨[102, 114, 111, 109], [], false⟩, ⟨[104, 111, 115, 116], [], false⟩, ⟨[105, 102, 45, 109, 97, 116, 99, 104], [], false⟩, ⟨[105, 102, 45, 109, 111, 100, 105, 102, 105, 101, 100, 45, 115, 105, 110, 99, 101], [], false⟩, ⟨[105, 102, 45, 110, 111, 110, 101, 45, 109, 97, 116, 99, 104], [], false⟩, ⟨[105, 102, 45, 114, 97, 110, 103, 101], [], false⟩, ⟨[105, 102, 45, 117, 110, 109, 111, 100, 105, 102, 105, 101, 100, 45, 115, 105, 110, 99, 101], [], false⟩, ⟨[108, 97, 115, 116, 45, 109, 111, 100, 105, 102, 105, 101, 100], [], false⟩, ⟨[108, 105, 110, 107], [], false⟩, ⟨[108, 111, 99, 97, 116, 105, 111, 110], [], false⟩, ⟨[109, 97, 120, 45, 102, 111, 114, 119, 97, 114, 100, 115], [], false⟩, ⟨[112, 114, 111, 120, 121, 45, 97, 117, 116, 104, 101, 110, 116, 105, 99, 97, 116, 101], [], false⟩, ⟨[112, 114, 111, 120, 121, 45, 97, 117, 116, 104, 111, 114, 105, 122, 97, 116, 105, 111, 110], [], false⟩, ⟨[114, 97, 110, 103, 101], [], false⟩, ⟨[114, 101, 102, 101, 114, 101, 114], [], false⟩, ⟨[114, 101, 102, 114, 101, 115, 104], [], false⟩, ⟨[114, 101, 116, 114, 121, 45, 97, 102, 116, 101, 114], [], false⟩, ⟨[115, 101, 114, 118, 101, 114], [], false⟩, ⟨[115, 101, 116, 45, 99, 111, 111, 107, 105, 101], [], false⟩, ⟨[115, 116, 114, 105, 99, 116, 45, 116, 114, 97, 110, 115, 112, 111, 114, 116, 45, 115, 101, 99, 117, 114, 105, 116, 121], [], false⟩, ⟨[116, 114, 97, 110, 115, 102, 101, 114, 45, 101, 110, 99, 111, 100, 105, 110, 103], [], false⟩, ⟨[117, 115, 101, 114, 45, 97, 103, 101, 110, 116], [], false⟩, ⟨[118, 97, 114, 121], [], false⟩, ⟨[118, 105, 97], [], false⟩, ⟨[119, 119, 119, 45, 97, 117, 116, 104, 101, 110, 116, 105, 99, 97, 116, 101], [], false⟩]
theorem G0qlen : G0.length = 61 := rfl
abbrev GC0 : List Value := G0.flatMap (fun x : S29 => ([.string (mkS x.f0), .string (mkS x.f1), .bool x.f2] : List Value))
theorem GC0qat {b : Nat} {w0 : World} {R : Frag} (h : Rds k29 b w0 R (.slice (some ⟨0, 0, none⟩) 61 61) G0) : ∀ j u, GC0[j]? = some u → Kn b w0 R ((⟨0, 0, none⟩ : Addr).add j) u := Rds.flat_cells (by decide) (fun h_ => k29qrd h_) (fun _ => rfl) h
/-! ### louver/statics.At -/
def statics_At.f (p0 : Int) : Option (S29 × Bool) := if p0 < 1 then (some ((⟨([] : List UInt8), ([] : List UInt8), false⟩ : S29), false)) else (if p0 > 61 then (some ((⟨([] : List UInt8), ([] : List UInt8), false⟩ : S29), false)) else (if 0 ≤ (IntKind.i64.wrap (p0 - 1)) then (if (IntKind.i64.wrap (p0 - 1)) < (61 : Int) then (some ((⟨(gt z29 G0 (IntKind.i64.wrap (p0 - 1))).f0, (gt z29 G0 (IntKind.i64.wrap (p0 - 1))).f1, (gt z29 G0 (IntKind.i64.wrap (p0 - 1))).f2⟩ : S29), true)) else (none)) else (none)))
set_option maxHeartbeats 2000000 in
set_option maxRecDepth 100000 in
theorem statics_At.calls {b : Nat} {w0 W : World} {R : Frag} {Fs : List Frag} {p0 : Int}  {r0q : S29} {r1q : Bool} (hg0 : Rds k29 b w0 [] (.slice (some ⟨0, 0, none⟩) 61 61) G0) (H : statics_At.f p0 = some (r0q, r1q)) (hS : St b w0 W R (Fs)) :
    Calls Tryd.prog 26 ([.int .i64 p0] : List Value).toArray W (fun e W' => e = .returned (.tuple #[.agg #[.string (mkS r0q.f0), .string (mkS r0q.f1), .bool r0q.f2], .bool r1q]) ∧ St b w0 W' R (Fs)) := by
  unfold statics_At.f at H
  refine calls_enter Tryd.func26 rfl 15 rfl (by kernel_rfl) (fun a h => ?_)
  refine wp_seq ?_
  refine WL.start ?_
  refine WL.op' (m := 0) h rfl rfl ?_
  refine owp_new (fun g_ => .pointer (some ⟨g_, 0, none⟩)) (.cells ([.string (mkS ([] : List UInt8)), .string (mkS ([] : List UInt8)), .bool false] : List Value).toArray 29 (0, 0)) h rfl (by kernel_rfl) (by kernel_rfl) hS (fun a66q W68q g69q h67q hS70q => ?_)
  refine WL.block (c := 1) (m' := 2) h67q rfl [(3, .bool false)] (by kernel_rfl) (fun a71q h72q => ?_)
  clear h67q a66q
  refine WL.done (by kernel_rfl) ?_
  refine wp_seq ?_
  refine wp_seq ?_
  refine WL.start ?_
  refine WL.block (c := 3) (m' := 3) h72q rfl [(6, .bool (decide (p0 < 1))), (5, .bool (decide (p0 < 1))), (4, .int .i64 p0)] (by kernel_rfl) (fun a73q h74q => ?_)
  clear h72q a71q
  by_cases c75q : p0 < 1
  · rw [if_pos c75q] at H
    have hb_ : (decide (p0 < 1)) = true := decide_eq_true c75q
    try rw [hb_] at h74q
    clear hb_
    refine WL.skipped (m := 3) h74q rfl rfl (by kernel_rfl) rfl (fun a76q h77q => ?_)
    clear h74q a73q
    refine WL.skipped (m := 4) h77q rfl rfl (by kernel_rfl) rfl (fun a78q h79q => ?_)
    clear h77q a76q
    refine WL.block (c := 1) (m' := 6) h79q rfl [(9, .bool true)] (by kernel_rfl) (fun a80q h81q => ?_)
    clear h79q a78q
    refine WL.done (by kernel_rfl) ?_
    refine wp_then h81q rfl ?_
    refine wp_seq ?_
    refine WL.start ?_
    refine WL.block (c := 1) (m' := 1) h81q rfl [(10, .agg #[.string (mkS ([] : List UInt8)), .string (mkS ([] : List UInt8)), .bool false])] (by kernel_rfl) (fun a82q h83q => ?_)
    clear h81q a80q
    refine WL.op' (m := 1) h83q rfl rfl ?_
    refine owp_store (i := 0) (vs := ([.string (mkS ([] : List UInt8)), .string (mkS ([] : List UInt8)), .bool false] : List Value)) h83q rfl (by kernel_rfl) rfl rfl rfl rfl (by simp [Value.oneCell']) (by kernel_rfl) hS70q (by simp) (cs' := ([.string (mkS ([] : List UInt8)), .string (mkS ([] : List UInt8)), .bool false] : List Value)) rfl (fun a84q W86q h85q hS87q => ?_)
    clear h83q a82q
    refine WL.block (c := 1) (m' := 3) h85q rfl [(3, .bool false)] (by kernel_rfl) (fun a88q h89q => ?_)
    clear h85q a84q
    refine WL.done (by kernel_rfl) ?_
    refine wp_ret ?_
    have hS90q : St b w0 W86q R (Fs) := hS87q.drop_
    obtain ⟨rfl, rfl⟩ := ret2 H
    repeat (first | refine then_ret ?_ | refine inBlock_ret ?_ | refine inBlock_go ?_)
    refine body_ret (v := .tuple #[.agg #[.string (mkS ([] : List UInt8)), .string (mkS ([] : List UInt8)), .bool false], .bool false]) h89q (by kernel_rfl) (res_many (xs := [ResultVar.cell 2 29, ResultVar.tmp 3]) rfl ⟨⟨_, rfl, loadVarN Tryd.underlying29 rfl (cs := ([.string (mkS ([] : List UInt8)), .string (mkS ([] : List UInt8)), .bool false] : List Value)) (by kernel_rfl) (hS87q.cells (vs := ([.string (mkS ([] : List UInt8)), .string (mkS ([] : List UInt8)), .bool false] : List Value)) rfl)⟩, rfl, trivial⟩ rfl) ?_
    exact ⟨rfl, hS90q⟩
  · rw [if_neg c75q] at H
    have hb_ : (decide (p0 < 1)) = false := decide_eq_false c75q
    try rw [hb_] at h74q
    clear hb_
    refine WL.op' (m := 3) h74q rfl rfl (owp_run h74q rfl (by kernel_rfl) (v := .int .i64 p0) (by kernel_rfl) (fun a91q h92q => ?_))
    clear h74q a73q
    refine WL.op' (m := 4) h92q rfl rfl (owp_run h92q rfl (by kernel_rfl) (v := .bool (decide (p0 > 61))) (by kernel_rfl) (fun a93q h94q => ?_))
    clear h92q a91q
    refine WL.block (c := 1) (m' := 6) h94q rfl [(9, .bool (decide (p0 > 61)))] (by kernel_rfl) (fun a95q h96q => ?_)
    clear h94q a93q
    refine WL.done (by kernel_rfl) ?_
    by_cases c97q : p0 > 61
    · rw [if_pos c97q] at H
      have hb_ : (decide (p0 > 61)) = true := decide_eq_true c97q
      try rw [hb_] at h96q
      clear hb_
      refine wp_then h96q rfl ?_
      refine wp_seq ?_
      refine WL.start ?_
      refine WL.block (c := 1) (m' := 1) h96q rfl [(10, .agg #[.string (mkS ([] : List UInt8)), .string (mkS ([] : List UInt8)), .bool false])] (by kernel_rfl) (fun a98q h99q => ?_)
      clear h96q a95q
      refine WL.op' (m := 1) h99q rfl rfl ?_
      refine owp_store (i := 0) (vs := ([.string (mkS ([] : List UInt8)), .string (mkS ([] : List UInt8)), .bool false] : List Value)) h99q rfl (by kernel_rfl) rfl rfl rfl rfl (by simp [Value.oneCell']) (by kernel_rfl) hS70q (by simp) (cs' := ([.string (mkS ([] : List UInt8)), .string (mkS ([] : List UInt8)), .bool false] : List Value)) rfl (fun a100q W102q h101q hS103q => ?_)
      clear h99q a98q
      refine WL.block (c := 1) (m' := 3) h101q rfl [(3, .bool false)] (by kernel_rfl) (fun a104q h105q => ?_)
      clear h101q a100q
      refine WL.done (by kernel_rfl) ?_
      refine wp_ret ?_
      have hS106q : St b w0 W102q R (Fs) := hS103q.drop_
      obtain ⟨rfl, rfl⟩ := ret2 H
      repeat (first | refine then_ret ?_ | refine inBlock_ret ?_ | refine inBlock_go ?_)
      refine body_ret (v := .tuple #[.agg #[.string (mkS ([] : List UInt8)), .string (mkS ([] : List UInt8)), .bool false], .bool false]) h105q (by kernel_rfl) (res_many (xs := [ResultVar.cell 2 29, ResultVar.tmp 3]) rfl ⟨⟨_, rfl, loadVarN Tryd.underlying29 rfl (cs := ([.string (mkS ([] : List UInt8)), .string (mkS ([] : List UInt8)), .bool false] : List Value)) (by kernel_rfl) (hS103q.cells (vs := ([.string (mkS ([] : List UInt8)), .string (mkS ([] : List UInt8)), .bool false] : List Value)) rfl)⟩, rfl, trivial⟩ rfl) ?_
      exact ⟨rfl, hS106q⟩
    · rw [if_neg c97q] at H
      have hb_ : (decide (p0 > 61)) = false := decide_eq_false c97q
      try rw [hb_] at h96q
      clear hb_
      refine wp_else h96q rfl ?_
      refine wp_skip ?_
      refine wp_seq ?_
      refine WL.start ?_
      refine WL.block (c := 2) (m' := 2) h96q rfl [(12, .int .i64 (IntKind.i64.wrap (p0 - 1))), (11, .int .i64 p0)] (by kernel_rfl) (fun a107q h108q => ?_)
      clear h96q a95q
      by_cases c109q : 0 ≤ (IntKind.i64.wrap (p0 - 1))
      · rw [if_pos c109q] at H
        by_cases c110q : (IntKind.i64.wrap (p0 - 1)) < (61 : Int)
        · rw [if_pos c110q] at H
          have hx111q : Rds k29 b w0 R (.slice (some ⟨0, 0, none⟩) 61 61) G0 := Rds.mono (fun _ h_ => by cases h_) hg0
          have hi112q : 0 ≤ (IntKind.i64.wrap (p0 - 1)) := by first | assumption | omega
          have hi114q : (IntKind.i64.wrap (p0 - 1)) < ((61 : Nat) : Int) := by omega
          have hi113q : (IntKind.i64.wrap (p0 - 1)) < (G0.length : Int) := by rw [G0qlen]; exact hi114q
          refine WL.op' (m := 2) h108q rfl rfl ?_
          refine owp_run (v := .pointer (some ((⟨0, 0, none⟩ : Addr).add ((IntKind.i64.wrap (p0 - 1)).toNat * 3)))) h108q rfl (by kernel_rfl) (run_idxarr (ad := ⟨0, 0, none⟩) (sz := 3) rfl rfl rfl Tryd.underlying56 (by kernel_rfl) hi112q hi114q) (fun a115q h116q => ?_)
          clear h108q a107q
          obtain ⟨ad117q, cs118q, ha119q, hr121q, hc120q⟩ := Rds.elemAny hx111q hi112q (gt_get (z := z29) hi112q hi113q)
          obtain rfl := Option.some.inj ha119q
          obtain rfl := k29qrd hr121q
          refine WL.op' (m := 3) h116q rfl rfl ?_
          refine owp_run (v := .agg #[.string (mkS ((gt z29 G0 (IntKind.i64.wrap (p0 - 1))).f0)), .string (mkS ((gt z29 G0 (IntKind.i64.wrap (p0 - 1))).f1)), .bool ((gt z29 G0 (IntKind.i64.wrap (p0 - 1))).f2)]) h116q rfl (by kernel_rfl) (run_loadN rfl rfl Tryd.underlying29 rfl (cs := ([.string (mkS ((gt z29 G0 (IntKind.i64.wrap (p0 - 1))).f0)), .string (mkS ((gt z29 G0 (IntKind.i64.wrap (p0 - 1))).f1)), .bool ((gt z29 G0 (IntKind.i64.wrap (p0 - 1))).f2)] : List Value)) (by kernel_rfl) (hc120q _ (fun _ _ hk_ => hS70q.kn hk_))) (fun a122q h123q => ?_)
          clear h116q a115q
          refine WL.op' (m := 4) h123q rfl rfl ?_
          refine owp_store (i := 0) (vs := ([.string (mkS ((gt z29 G0 (IntKind.i64.wrap (p0 - 1))).f0)), .string (mkS ((gt z29 G0 (IntKind.i64.wrap (p0 - 1))).f1)), .bool ((gt z29 G0 (IntKind.i64.wrap (p0 - 1))).f2)] : List Value)) h123q rfl (by kernel_rfl) rfl rfl rfl rfl (by simp [Value.oneCell']) (by kernel_rfl) hS70q (by simp) (cs' := ([.string (mkS ((gt z29 G0 (IntKind.i64.wrap (p0 - 1))).f0)), .string (mkS ((gt z29 G0 (IntKind.i64.wrap (p0 - 1))).f1)), .bool ((gt z29 G0 (IntKind.i64.wrap (p0 - 1))).f2)] : List Value)) rfl (fun a124q W126q h125q hS127q => ?_)
          clear h123q a122q
          refine WL.block (c := 1) (m' := 6) h125q rfl [(3, .bool true)] (by kernel_rfl) (fun a128q h129q => ?_)
          clear h125q a124q
          refine WL.done (by kernel_rfl) ?_
          refine wp_ret ?_
          have hS130q : St b w0 W126q R (Fs) := hS127q.drop_
          obtain ⟨rfl, rfl⟩ := ret2 H
          repeat (first | refine then_ret ?_ | refine inBlock_ret ?_ | refine inBlock_go ?_)
          refine body_ret (v := .tuple #[.agg #[.string (mkS ((gt z29 G0 (IntKind.i64.wrap (p0 - 1))).f0)), .string (mkS ((gt z29 G0 (IntKind.i64.wrap (p0 - 1))).f1)), .bool ((gt z29 G0 (IntKind.i64.wrap (p0 - 1))).f2)], .bool true]) h129q (by kernel_rfl) (res_many (xs := [ResultVar.cell 2 29, ResultVar.tmp 3]) rfl ⟨⟨_, rfl, loadVarN Tryd.underlying29 rfl (cs := ([.string (mkS ((gt z29 G0 (IntKind.i64.wrap (p0 - 1))).f0)), .string (mkS ((gt z29 G0 (IntKind.i64.wrap (p0 - 1))).f1)), .bool ((gt z29 G0 (IntKind.i64.wrap (p0 - 1))).f2)] : List Value)) (by kernel_rfl) (hS127q.cells (vs := ([.string (mkS ((gt z29 G0 (IntKind.i64.wrap (p0 - 1))).f0)), .string (mkS ((gt z29 G0 (IntKind.i64.wrap (p0 - 1))).f1)), .bool ((gt z29 G0 (IntKind.i64.wrap (p0 - 1))).f2)] : List Value)) rfl)⟩, rfl, trivial⟩ rfl) ?_
          exact ⟨rfl, hS130q⟩
        · rw [if_neg c110q] at H
          cases H
      · rw [if_neg c109q] at H
        cases H

/-! ### louver/statics.Len -/
def statics_Len.f  : Option (Int) := some 61
set_option maxHeartbeats 2000000 in
set_option maxRecDepth 100000 in
theorem statics_Len.calls {b : Nat} {w0 W : World} {R : Frag} {Fs : List Frag}   {r0q : Int}  (H : statics_Len.f = some r0q) (hS : St b w0 W R (Fs)) :
    Calls Tryd.prog 27 ([] : List Value).toArray W (fun e W' => e = .returned (.int .i64 r0q) ∧ St b w0 W' R (Fs)) := by
  unfold statics_Len.f at H
  refine calls_enter Tryd.func27 rfl 1 rfl (by kernel_rfl) (fun a h => ?_)
  refine wp_seq ?_
  refine WL.start ?_
  refine WL.block (c := 1) (m' := 1) h rfl [(0, .int .i64 0)] (by kernel_rfl) (fun a5q h6q => ?_)
  refine WL.done (by kernel_rfl) ?_
  refine wp_seq ?_
  refine WL.start ?_
  refine WL.block (c := 1) (m' := 1) h6q rfl [(0, .int .i64 61)] (by kernel_rfl) (fun a7q h8q => ?_)
  clear h6q a5q
  refine WL.done (by kernel_rfl) ?_
  refine wp_ret ?_
  obtain rfl := Option.some.inj H
  repeat (first | refine then_ret ?_ | refine inBlock_ret ?_ | refine inBlock_go ?_)
  refine body_ret (v := .int .i64 61) h8q (by kernel_rfl) (by kernel_rfl) ?_
  exact ⟨rfl, hS⟩

/-! ### (*louver/dyntable.Table).Len -/
def dyntable_Table_Len.f (p0 : S51) : Option (Int) := some (p0.f0.length : Int)
set_option maxHeartbeats 2000000 in
set_option maxRecDepth 100000 in
theorem dyntable_Table_Len.calls {b : Nat} {w0 W : World} {R : Frag} {Fs : List Frag} {p0 : S51}  {v0 : Value} {M0 : Frag} {r0q : Int} (hp0 : Ptr k51 51 b w0 R v0 p0 M0) (H : dyntable_Table_Len.f p0 = some r0q) (hS : St b w0 W R (M0 :: Fs)) :
    Calls Tryd.prog 11 ([v0] : List Value).toArray W (fun e W' => ∃ (O0q : Frag), e = .returned (.int .i64 r0q) ∧ Ptr k51 51 b w0 R v0 p0 O0q ∧ St b w0 W' R (O0q :: Fs)) := by
  unfold dyntable_Table_Len.f at H
  refine calls_enter Tryd.func11 rfl 10 rfl (by kernel_rfl) (fun a h => ?_)
  refine wp_seq ?_
  refine WL.start ?_
  refine WL.block (c := 1) (m' := 1) h rfl [(2, .int .i64 0)] (by kernel_rfl) (fun a31q h32q => ?_)
  refine WL.done (by kernel_rfl) ?_
  refine wp_seq ?_
  refine wp_seq ?_
  refine WL.start ?_
  refine WL.block (c := 1) (m' := 1) h32q rfl [(3, v0)] (by kernel_rfl) (fun a33q h34q => ?_)
  clear h32q a31q
  obtain ⟨g35q, cs36q, M37q, hv_, hM_, hr38q⟩ := hp0
  obtain ⟨v39q, M40q, rfl, hM2q, hr41q⟩ := k51qrep hr38q
  subst hM2q
  subst hM_
  subst hv_
  replace hr41q : Row k29 29 b w0 R v39q p0.f0 M37q := hr41q
  obtain ⟨A42q, c43q, rfl⟩ := hr41q.form
  have hS44q : St b w0 W R ([(g35q, .cells ([.slice A42q p0.f0.length c43q, .int .i64 p0.f1, .int .i64 p0.f2] : List Value).toArray 51 (0, 0))] :: M37q :: Fs) := hS.assoc (by simp only [List.flatten_cons, List.append_assoc, List.cons_append, List.nil_append, List.append_nil])
  refine WL.block (c := 1) (m' := 2) h34q rfl [(4, .bool false)] (by kernel_rfl) (fun a45q h46q => ?_)
  clear h34q a33q
  refine WL.done (by kernel_rfl) ?_
  refine wp_else h46q rfl ?_
  refine wp_skip ?_
  refine wp_seq ?_
  refine WL.start ?_
  refine WL.block (c := 3) (m' := 3) h46q rfl [(7, .pointer (some ⟨g35q, 0, none⟩)), (6, .pointer (some ⟨g35q, 0, none⟩)), (5, .pointer (some ⟨g35q, 0, none⟩))] (by kernel_rfl) (fun a47q h48q => ?_)
  clear h46q a45q
  refine WL.op' (m := 3) h48q rfl rfl ?_
  refine owp_run (v := .slice A42q p0.f0.length c43q) h48q rfl (by kernel_rfl) (run_load1 rfl rfl Tryd.underlying23 rfl (hS44q.cell (i := 0) rfl)) (fun a49q h50q => ?_)
  clear h48q a47q
  refine WL.block (c := 2) (m' := 6) h50q rfl [(2, .int .i64 (p0.f0.length : Int)), (9, .int .i64 (p0.f0.length : Int))] (by kernel_rfl) (fun a51q h52q => ?_)
  clear h50q a49q
  refine WL.done (by kernel_rfl) ?_
  refine wp_ret ?_
  have hS53q : St b w0 W R (M37q :: [(g35q, .cells ([.slice A42q p0.f0.length c43q, .int .i64 p0.f1, .int .i64 p0.f2] : List Value).toArray 51 (0, 0))] :: Fs) := hS44q.bring 1 rfl rfl
  have hS54q : St b w0 W R ([(g35q, .cells ([.slice A42q p0.f0.length c43q, .int .i64 p0.f1, .int .i64 p0.f2] : List Value).toArray 51 (0, 0))] :: M37q :: Fs) := hS53q.bring 1 rfl rfl
  obtain ⟨M56q, hr55q, hM_⟩ := k51qmk (b := b) (w0 := w0) (R := R) (x := p0) (gvf0 := hr41q)
  have hp57q : Ptr k51 51 b w0 R (.pointer (some ⟨g35q, 0, none⟩)) p0 ((g35q, .cells ([.slice A42q p0.f0.length c43q, .int .i64 p0.f1, .int .i64 p0.f2] : List Value).toArray 51 (0, 0)) :: M56q) := ⟨_, _, _, rfl, rfl, hr55q⟩
  rw [hM_] at hp57q
  have hS59q : St b w0 W R (((g35q, .cells ([.slice A42q p0.f0.length c43q, .int .i64 p0.f1, .int .i64 p0.f2] : List Value).toArray 51 (0, 0)) :: (M37q)) :: Fs) := hS54q.assoc (by simp only [List.flatten_cons, List.append_assoc, List.cons_append, List.nil_append, List.append_nil])
  obtain ⟨M60q, hM_⟩ : ∃ y : Frag, y = ((g35q, .cells ([.slice A42q p0.f0.length c43q, .int .i64 p0.f1, .int .i64 p0.f2] : List Value).toArray 51 (0, 0)) :: (M37q)) := ⟨_, rfl⟩
  rw [← hM_] at hp57q hS59q
  clear hM_
  obtain rfl := Option.some.inj H
  repeat (first | refine then_ret ?_ | refine inBlock_ret ?_ | refine inBlock_go ?_)
  refine body_ret (v := .int .i64 (p0.f0.length : Int)) h52q (by kernel_rfl) (by kernel_rfl) ?_
  exact ⟨M60q, rfl, hp57q, hS59q⟩

/-! ### (*louver/dyntable.Table).Len -/
def dyntable_Table_Len_nil.f  : Option (Int) := some 0
set_option maxHeartbeats 2000000 in
set_option maxRecDepth 100000 in
theorem dyntable_Table_Len_nil.calls {b : Nat} {w0 W : World} {R : Frag} {Fs : List Frag}   {r0q : Int}  (H : dyntable_Table_Len_nil.f = some r0q) (hS : St b w0 W R (Fs)) :
    Calls Tryd.prog 11 ([.pointer none] : List Value).toArray W (fun e W' => e = .returned (.int .i64 r0q) ∧ St b w0 W' R (Fs)) := by
  unfold dyntable_Table_Len_nil.f at H
  refine calls_enter Tryd.func11 rfl 10 rfl (by kernel_rfl) (fun a h => ?_)
  refine wp_seq ?_
  refine WL.start ?_
  refine WL.block (c := 1) (m' := 1) h rfl [(2, .int .i64 0)] (by kernel_rfl) (fun a7q h8q => ?_)
  refine WL.done (by kernel_rfl) ?_
  refine wp_seq ?_
  refine wp_seq ?_
  refine WL.start ?_
  refine WL.block (c := 2) (m' := 2) h8q rfl [(4, .bool true), (3, .pointer none)] (by kernel_rfl) (fun a9q h10q => ?_)
  clear h8q a7q
  refine WL.done (by kernel_rfl) ?_
  refine wp_then h10q rfl ?_
  refine wp_seq ?_
  refine WL.start ?_
  refine WL.block (c := 1) (m' := 1) h10q rfl [(2, .int .i64 0)] (by kernel_rfl) (fun a11q h12q => ?_)
  clear h10q a9q
  refine WL.done (by kernel_rfl) ?_
  refine wp_ret ?_
  obtain rfl := Option.some.inj H
  repeat (first | refine then_ret ?_ | refine inBlock_ret ?_ | refine inBlock_go ?_)
  refine body_ret (v := .int .i64 0) h12q (by kernel_rfl) (by kernel_rfl) ?_
  exact ⟨rfl, hS⟩

/-! ### (*louver/dyntable.Table).At -/
def dyntable_Table_At.f (p0 : S51) (p1 : Int) : Option (S29 × Bool) := bnd2 (statics_At.f p1) fun r321q r322q => (if r322q = true then (some ((⟨r321q.f0, r321q.f1, r321q.f2⟩ : S29), true)) else (bnd1 (statics_Len.f) fun r359q => (if p1 ≤ r359q then (some ((⟨([] : List UInt8), ([] : List UInt8), false⟩ : S29), false)) else (bnd1 (statics_Len.f) fun r397q => (bnd1 (dyntable_Table_Len.f p0) fun r410q => (if (IntKind.i64.wrap (p1 - r397q)) > r410q then (some ((⟨([] : List UInt8), ([] : List UInt8), false⟩ : S29), false)) else (bnd1 (statics_Len.f) fun r576q => (if 0 ≤ (IntKind.i64.wrap ((p0.f0.length : Int) - (IntKind.i64.wrap (p1 - r576q)))) then (if (IntKind.i64.wrap ((p0.f0.length : Int) - (IntKind.i64.wrap (p1 - r576q)))) < (p0.f0.length : Int) then (some ((⟨(gt z29 p0.f0 (IntKind.i64.wrap ((p0.f0.length : Int) - (IntKind.i64.wrap (p1 - r576q))))).f0, (gt z29 p0.f0 (IntKind.i64.wrap ((p0.f0.length : Int) - (IntKind.i64.wrap (p1 - r576q))))).f1, (gt z29 p0.f0 (IntKind.i64.wrap ((p0.f0.length : Int) - (IntKind.i64.wrap (p1 - r576q))))).f2⟩ : S29), true)) else (none)) else (none)))))))))
set_option maxHeartbeats 2000000 in
set_option maxRecDepth 100000 in
theorem dyntable_Table_At.calls {b : Nat} {w0 W : World} {R : Frag} {Fs : List Frag} {p0 : S51} {p1 : Int}  {v0 : Value} {M0 : Frag} {r0q : S29} {r1q : Bool} (hp0 : Ptr k51 51 b w0 R v0 p0 M0) (hg0 : Rds k29 b w0 [] (.slice (some ⟨0, 0, none⟩) 61 61) G0) (H : dyntable_Table_At.f p0 p1 = some (r0q, r1q)) (hS : St b w0 W R (M0 :: Fs)) :
    Calls Tryd.prog 14 ([v0, .int .i64 p1] : List Value).toArray W (fun e W' => ∃ (O0q : Frag), e = .returned (.tuple #[.agg #[.string (mkS r0q.f0), .string (mkS r0q.f1), .bool r0q.f2], .bool r1q]) ∧ Ptr k51 51 b w0 R v0 p0 O0q ∧ St b w0 W' R (O0q :: Fs)) := by
  unfold dyntable_Table_At.f at H
  refine calls_enter Tryd.func14 rfl 42 rfl (by kernel_rfl) (fun a h => ?_)
  refine wp_seq ?_
  refine WL.start ?_
  refine WL.op' (m := 0) h rfl rfl ?_
  refine owp_new (fun g_ => .pointer (some ⟨g_, 0, none⟩)) (.cells ([.string (mkS ([] : List UInt8)), .string (mkS ([] : List UInt8)), .bool false] : List Value).toArray 29 (0, 0)) h rfl (by kernel_rfl) (by kernel_rfl) hS (fun a311q W313q g314q h312q hS315q => ?_)
  refine WL.block (c := 1) (m' := 2) h312q rfl [(5, .bool false)] (by kernel_rfl) (fun a316q h317q => ?_)
  clear h312q a311q
  refine WL.done (by kernel_rfl) ?_
  refine wp_seq ?_
  refine wp_seq ?_
  refine WL.start ?_
  refine WL.block (c := 1) (m' := 1) h317q rfl [(9, .int .i64 p1)] (by kernel_rfl) (fun a318q h319q => ?_)
  clear h317q a316q
  obtain ⟨r321q, r322q, A320q, H⟩ := bind2 H
  refine WL.op' (m := 1) h319q rfl rfl ?_
  refine owp_call [.int .i64 p1] h319q rfl (by kernel_rfl) rfl Tryd.func26 (by kernel_rfl) rfl (by kernel_rfl) (statics_At.calls hg0 A320q hS315q) (fun e324q W323q hp325q => ?_)
  obtain ⟨rfl, hS328q⟩ := hp325q
  refine ⟨_, rfl, fun a326q h327q => ?_⟩
  clear h319q a318q
  refine WL.block (c := 3) (m' := 5) h327q rfl [(12, .bool r322q), (11, .agg #[.string (mkS r321q.f0), .string (mkS r321q.f1), .bool r321q.f2]), (8, .tuple #[.agg #[.string (mkS r321q.f0), .string (mkS r321q.f1), .bool r321q.f2], .bool r322q])] (by kernel_rfl) (fun a329q h330q => ?_)
  clear h327q a326q
  refine WL.op' (m := 5) h330q rfl rfl ?_
  refine owp_new (fun g_ => .pointer (some ⟨g_, 0, none⟩)) (.cells ([.string (mkS ([] : List UInt8)), .string (mkS ([] : List UInt8)), .bool false] : List Value).toArray 29 (0, 0)) h330q rfl (by kernel_rfl) (by kernel_rfl) hS328q (fun a331q W333q g334q h332q hS335q => ?_)
  clear h330q a329q
  refine WL.op' (m := 6) h332q rfl rfl ?_
  refine owp_store (i := 0) (vs := ([.string (mkS r321q.f0), .string (mkS r321q.f1), .bool r321q.f2] : List Value)) h332q rfl (by kernel_rfl) rfl rfl rfl rfl (by simp [Value.oneCell']) (by kernel_rfl) hS335q (by simp) (cs' := ([.string (mkS r321q.f0), .string (mkS r321q.f1), .bool r321q.f2] : List Value)) rfl (fun a336q W338q h337q hS339q => ?_)
  clear h332q a331q
  refine WL.block (c := 1) (m' := 8) h337q rfl [(7, .bool r322q)] (by kernel_rfl) (fun a340q h341q => ?_)
  clear h337q a336q
  refine WL.done (by kernel_rfl) ?_
  refine wp_seq ?_
  refine WL.start ?_
  refine WL.block (c := 1) (m' := 1) h341q rfl [(13, .bool r322q)] (by kernel_rfl) (fun a342q h343q => ?_)
  clear h341q a340q
  refine WL.done (by kernel_rfl) ?_
  by_cases c344q : r322q = true
  · rw [if_pos c344q] at H
    have hb_ : r322q = true := c344q
    try rw [hb_] at h343q
    clear hb_
    refine wp_then h343q rfl ?_
    refine wp_seq ?_
    refine WL.start ?_
    refine WL.op' (m := 0) h343q rfl rfl ?_
    refine owp_run (v := .agg #[.string (mkS r321q.f0), .string (mkS r321q.f1), .bool r321q.f2]) h343q rfl (by kernel_rfl) (run_loadN rfl rfl Tryd.underlying29 rfl (cs := ([.string (mkS r321q.f0), .string (mkS r321q.f1), .bool r321q.f2] : List Value)) (by kernel_rfl) (hS339q.cells (vs := ([.string (mkS r321q.f0), .string (mkS r321q.f1), .bool r321q.f2] : List Value)) rfl)) (fun a345q h346q => ?_)
    clear h343q a342q
    have hS347q : St b w0 W338q R ([(g314q, .cells ([.string (mkS ([] : List UInt8)), .string (mkS ([] : List UInt8)), .bool false] : List Value).toArray 29 (0, 0))] :: [(g334q, .cells ([.string (mkS r321q.f0), .string (mkS r321q.f1), .bool r321q.f2] : List Value).toArray 29 (0, 0))] :: M0 :: Fs) := hS339q.bring 1 rfl rfl
    refine WL.op' (m := 1) h346q rfl rfl ?_
    refine owp_store (i := 0) (vs := ([.string (mkS r321q.f0), .string (mkS r321q.f1), .bool r321q.f2] : List Value)) h346q rfl (by kernel_rfl) rfl rfl rfl rfl (by simp [Value.oneCell']) (by kernel_rfl) hS347q (by simp) (cs' := ([.string (mkS r321q.f0), .string (mkS r321q.f1), .bool r321q.f2] : List Value)) rfl (fun a348q W350q h349q hS351q => ?_)
    clear h346q a345q
    refine WL.block (c := 1) (m' := 3) h349q rfl [(5, .bool true)] (by kernel_rfl) (fun a352q h353q => ?_)
    clear h349q a348q
    refine WL.done (by kernel_rfl) ?_
    refine wp_ret ?_
    have hS354q : St b w0 W350q R ([(g334q, .cells ([.string (mkS r321q.f0), .string (mkS r321q.f1), .bool r321q.f2] : List Value).toArray 29 (0, 0))] :: M0 :: Fs) := hS351q.drop_
    have hS355q : St b w0 W350q R (M0 :: Fs) := hS354q.drop_
    obtain ⟨rfl, rfl⟩ := ret2 H
    repeat (first | refine then_ret ?_ | refine inBlock_ret ?_ | refine inBlock_go ?_)
    refine body_ret (v := .tuple #[.agg #[.string (mkS r321q.f0), .string (mkS r321q.f1), .bool r321q.f2], .bool true]) h353q (by kernel_rfl) (res_many (xs := [ResultVar.cell 4 29, ResultVar.tmp 5]) rfl ⟨⟨_, rfl, loadVarN Tryd.underlying29 rfl (cs := ([.string (mkS r321q.f0), .string (mkS r321q.f1), .bool r321q.f2] : List Value)) (by kernel_rfl) (hS351q.cells (vs := ([.string (mkS r321q.f0), .string (mkS r321q.f1), .bool r321q.f2] : List Value)) rfl)⟩, rfl, trivial⟩ rfl) ?_
    exact ⟨M0, rfl, hp0, hS355q⟩
  · rw [if_neg c344q] at H
    have hb_ : r322q = false := (Bool.eq_false_iff.2 c344q)
    try rw [hb_] at h343q
    clear hb_
    refine wp_else h343q rfl ?_
    refine wp_skip ?_
    refine wp_seq ?_
    refine wp_seq ?_
    refine WL.start ?_
    refine WL.block (c := 1) (m' := 1) h343q rfl [(15, .int .i64 p1)] (by kernel_rfl) (fun a356q h357q => ?_)
    clear h343q a342q
    obtain ⟨r359q, A358q, H⟩ := bind1 H
    refine WL.op' (m := 1) h357q rfl rfl ?_
    refine owp_call [] h357q rfl (by kernel_rfl) rfl Tryd.func27 (by kernel_rfl) rfl (by kernel_rfl) (statics_Len.calls  A358q hS339q) (fun e361q W360q hp362q => ?_)
    obtain ⟨rfl, hS365q⟩ := hp362q
    refine ⟨_, rfl, fun a363q h364q => ?_⟩
    clear h357q a356q
    refine WL.block (c := 2) (m' := 4) h364q rfl [(18, .bool (decide (p1 ≤ r359q))), (17, .bool (decide (p1 ≤ r359q)))] (by kernel_rfl) (fun a366q h367q => ?_)
    clear h364q a363q
    by_cases c368q : p1 ≤ r359q
    · rw [if_pos c368q] at H
      have hb_ : (decide (p1 ≤ r359q)) = true := decide_eq_true c368q
      try rw [hb_] at h367q
      clear hb_
      refine WL.skipped (m := 4) h367q rfl rfl (by kernel_rfl) rfl (fun a369q h370q => ?_)
      clear h367q a366q
      refine WL.skipped (m := 5) h370q rfl rfl (by kernel_rfl) rfl (fun a371q h372q => ?_)
      clear h370q a369q
      refine WL.skipped (m := 6) h372q rfl rfl (by kernel_rfl) rfl (fun a373q h374q => ?_)
      clear h372q a371q
      refine WL.skipped (m := 7) h374q rfl rfl (by kernel_rfl) rfl (fun a375q h376q => ?_)
      clear h374q a373q
      refine WL.skipped (m := 8) h376q rfl rfl (by kernel_rfl) rfl (fun a377q h378q => ?_)
      clear h376q a375q
      refine WL.skipped (m := 9) h378q rfl rfl (by kernel_rfl) rfl (fun a379q h380q => ?_)
      clear h378q a377q
      refine WL.block (c := 1) (m' := 11) h380q rfl [(25, .bool true)] (by kernel_rfl) (fun a381q h382q => ?_)
      clear h380q a379q
      refine WL.done (by kernel_rfl) ?_
      refine wp_then h382q rfl ?_
      refine wp_seq ?_
      refine WL.start ?_
      refine WL.block (c := 1) (m' := 1) h382q rfl [(26, .agg #[.string (mkS ([] : List UInt8)), .string (mkS ([] : List UInt8)), .bool false])] (by kernel_rfl) (fun a383q h384q => ?_)
      clear h382q a381q
      have hS385q : St b w0 W360q R ([(g314q, .cells ([.string (mkS ([] : List UInt8)), .string (mkS ([] : List UInt8)), .bool false] : List Value).toArray 29 (0, 0))] :: [(g334q, .cells ([.string (mkS r321q.f0), .string (mkS r321q.f1), .bool r321q.f2] : List Value).toArray 29 (0, 0))] :: M0 :: Fs) := hS365q.bring 1 rfl rfl
      refine WL.op' (m := 1) h384q rfl rfl ?_
      refine owp_store (i := 0) (vs := ([.string (mkS ([] : List UInt8)), .string (mkS ([] : List UInt8)), .bool false] : List Value)) h384q rfl (by kernel_rfl) rfl rfl rfl rfl (by simp [Value.oneCell']) (by kernel_rfl) hS385q (by simp) (cs' := ([.string (mkS ([] : List UInt8)), .string (mkS ([] : List UInt8)), .bool false] : List Value)) rfl (fun a386q W388q h387q hS389q => ?_)
      clear h384q a383q
      refine WL.block (c := 1) (m' := 3) h387q rfl [(5, .bool false)] (by kernel_rfl) (fun a390q h391q => ?_)
      clear h387q a386q
      refine WL.done (by kernel_rfl) ?_
      refine wp_ret ?_
      have hS392q : St b w0 W388q R ([(g334q, .cells ([.string (mkS r321q.f0), .string (mkS r321q.f1), .bool r321q.f2] : List Value).toArray 29 (0, 0))] :: M0 :: Fs) := hS389q.drop_
      have hS393q : St b w0 W388q R (M0 :: Fs) := hS392q.drop_
      obtain ⟨rfl, rfl⟩ := ret2 H
      repeat (first | refine then_ret ?_ | refine inBlock_ret ?_ | refine inBlock_go ?_)
      refine body_ret (v := .tuple #[.agg #[.string (mkS ([] : List UInt8)), .string (mkS ([] : List UInt8)), .bool false], .bool false]) h391q (by kernel_rfl) (res_many (xs := [ResultVar.cell 4 29, ResultVar.tmp 5]) rfl ⟨⟨_, rfl, loadVarN Tryd.underlying29 rfl (cs := ([.string (mkS ([] : List UInt8)), .string (mkS ([] : List UInt8)), .bool false] : List Value)) (by kernel_rfl) (hS389q.cells (vs := ([.string (mkS ([] : List UInt8)), .string (mkS ([] : List UInt8)), .bool false] : List Value)) rfl)⟩, rfl, trivial⟩ rfl) ?_
      exact ⟨M0, rfl, hp0, hS393q⟩
    · rw [if_neg c368q] at H
      have hb_ : (decide (p1 ≤ r359q)) = false := decide_eq_false c368q
      try rw [hb_] at h367q
      clear hb_
      refine WL.op' (m := 4) h367q rfl rfl (owp_run h367q rfl (by kernel_rfl) (v := .int .i64 p1) (by kernel_rfl) (fun a394q h395q => ?_))
      clear h367q a366q
      obtain ⟨r397q, A396q, H⟩ := bind1 H
      refine WL.op' (m := 5) h395q rfl rfl ?_
      refine owp_call [] h395q rfl (by kernel_rfl) rfl Tryd.func27 (by kernel_rfl) rfl (by kernel_rfl) (statics_Len.calls  A396q hS365q) (fun e399q W398q hp400q => ?_)
      obtain ⟨rfl, hS403q⟩ := hp400q
      refine ⟨_, rfl, fun a401q h402q => ?_⟩
      clear h395q a394q
      refine WL.op' (m := 6) h402q rfl rfl (owp_run h402q rfl (by kernel_rfl) (v := .int .i64 (IntKind.i64.wrap (p1 - r397q))) (by kernel_rfl) (fun a404q h405q => ?_))
      clear h402q a401q
      refine WL.op' (m := 7) h405q rfl rfl (owp_run h405q rfl (by kernel_rfl) (v := v0) (by kernel_rfl) (fun a406q h407q => ?_))
      clear h405q a404q
      have hS408q : St b w0 W398q R (M0 :: [(g334q, .cells ([.string (mkS r321q.f0), .string (mkS r321q.f1), .bool r321q.f2] : List Value).toArray 29 (0, 0))] :: [(g314q, .cells ([.string (mkS ([] : List UInt8)), .string (mkS ([] : List UInt8)), .bool false] : List Value).toArray 29 (0, 0))] :: Fs) := hS403q.bring 2 rfl rfl
      obtain ⟨r410q, A409q, H⟩ := bind1 H
      refine WL.op' (m := 8) h407q rfl rfl ?_
      refine owp_call [v0] h407q rfl (by kernel_rfl) rfl Tryd.func11 (by kernel_rfl) rfl (by kernel_rfl) (dyntable_Table_Len.calls hp0 A409q hS408q) (fun e412q W411q hp413q => ?_)
      obtain ⟨M416q, rfl, hr417q, hS418q⟩ := hp413q
      refine ⟨_, rfl, fun a414q h415q => ?_⟩
      clear h407q a406q
      refine WL.op' (m := 9) h415q rfl rfl (owp_run h415q rfl (by kernel_rfl) (v := .bool (decide ((IntKind.i64.wrap (p1 - r397q)) > r410q))) (by kernel_rfl) (fun a419q h420q => ?_))
      clear h415q a414q
      refine WL.block (c := 1) (m' := 11) h420q rfl [(25, .bool (decide ((IntKind.i64.wrap (p1 - r397q)) > r410q)))] (by kernel_rfl) (fun a421q h422q => ?_)
      clear h420q a419q
      refine WL.done (by kernel_rfl) ?_
      by_cases c423q : (IntKind.i64.wrap (p1 - r397q)) > r410q
      · rw [if_pos c423q] at H
        have hb_ : (decide ((IntKind.i64.wrap (p1 - r397q)) > r410q)) = true := decide_eq_true c423q
        try rw [hb_] at h422q
        clear hb_
        refine wp_then h422q rfl ?_
        refine wp_seq ?_
        refine WL.start ?_
        refine WL.block (c := 1) (m' := 1) h422q rfl [(26, .agg #[.string (mkS ([] : List UInt8)), .string (mkS ([] : List UInt8)), .bool false])] (by kernel_rfl) (fun a424q h425q => ?_)
        clear h422q a421q
        have hS426q : St b w0 W411q R ([(g314q, .cells ([.string (mkS ([] : List UInt8)), .string (mkS ([] : List UInt8)), .bool false] : List Value).toArray 29 (0, 0))] :: M416q :: [(g334q, .cells ([.string (mkS r321q.f0), .string (mkS r321q.f1), .bool r321q.f2] : List Value).toArray 29 (0, 0))] :: Fs) := hS418q.bring 2 rfl rfl
        refine WL.op' (m := 1) h425q rfl rfl ?_
        refine owp_store (i := 0) (vs := ([.string (mkS ([] : List UInt8)), .string (mkS ([] : List UInt8)), .bool false] : List Value)) h425q rfl (by kernel_rfl) rfl rfl rfl rfl (by simp [Value.oneCell']) (by kernel_rfl) hS426q (by simp) (cs' := ([.string (mkS ([] : List UInt8)), .string (mkS ([] : List UInt8)), .bool false] : List Value)) rfl (fun a427q W429q h428q hS430q => ?_)
        clear h425q a424q
        refine WL.block (c := 1) (m' := 3) h428q rfl [(5, .bool false)] (by kernel_rfl) (fun a431q h432q => ?_)
        clear h428q a427q
        refine WL.done (by kernel_rfl) ?_
        refine wp_ret ?_
        have hS433q : St b w0 W429q R (M416q :: [(g334q, .cells ([.string (mkS r321q.f0), .string (mkS r321q.f1), .bool r321q.f2] : List Value).toArray 29 (0, 0))] :: Fs) := hS430q.drop_
        have hS434q : St b w0 W429q R ([(g334q, .cells ([.string (mkS r321q.f0), .string (mkS r321q.f1), .bool r321q.f2] : List Value).toArray 29 (0, 0))] :: M416q :: Fs) := hS433q.bring 1 rfl rfl
        have hS435q : St b w0 W429q R (M416q :: Fs) := hS434q.drop_
        obtain ⟨rfl, rfl⟩ := ret2 H
        repeat (first | refine then_ret ?_ | refine inBlock_ret ?_ | refine inBlock_go ?_)
        refine body_ret (v := .tuple #[.agg #[.string (mkS ([] : List UInt8)), .string (mkS ([] : List UInt8)), .bool false], .bool false]) h432q (by kernel_rfl) (res_many (xs := [ResultVar.cell 4 29, ResultVar.tmp 5]) rfl ⟨⟨_, rfl, loadVarN Tryd.underlying29 rfl (cs := ([.string (mkS ([] : List UInt8)), .string (mkS ([] : List UInt8)), .bool false] : List Value)) (by kernel_rfl) (hS430q.cells (vs := ([.string (mkS ([] : List UInt8)), .string (mkS ([] : List UInt8)), .bool false] : List Value)) rfl)⟩, rfl, trivial⟩ rfl) ?_
        exact ⟨M416q, rfl, hr417q, hS435q⟩
      · rw [if_neg c423q] at H
        have hb_ : (decide ((IntKind.i64.wrap (p1 - r397q)) > r410q)) = false := decide_eq_false c423q
        try rw [hb_] at h422q
        clear hb_
        refine wp_else h422q rfl ?_
        refine wp_skip ?_
        refine wp_seq ?_
        obtain ⟨g436q, cs437q, M438q, hv_, hM_, hr439q⟩ := hr417q
        obtain ⟨v440q, M441q, rfl, hM2q, hr442q⟩ := k51qrep hr439q
        subst hM2q
        subst hM_
        subst hv_
        replace hr442q : Row k29 29 b w0 R v440q p0.f0 M438q := hr442q
        obtain ⟨A443q, c444q, rfl⟩ := hr442q.form
        have hS445q : St b w0 W411q R ([(g436q, .cells ([.slice A443q p0.f0.length c444q, .int .i64 p0.f1, .int .i64 p0.f2] : List Value).toArray 51 (0, 0))] :: M438q :: [(g334q, .cells ([.string (mkS r321q.f0), .string (mkS r321q.f1), .bool r321q.f2] : List Value).toArray 29 (0, 0))] :: [(g314q, .cells ([.string (mkS ([] : List UInt8)), .string (mkS ([] : List UInt8)), .bool false] : List Value).toArray 29 (0, 0))] :: Fs) := hS418q.assoc (by simp only [List.flatten_cons, List.append_assoc, List.cons_append, List.nil_append, List.append_nil])
        refine WT.start 15 (fun w_ => (w_.cell? ⟨g436q, 0, none⟩ = some (.slice A443q p0.f0.length c444q)) ∧ (∀ a_ u_, Kn b w0 (M438q ++ R) a_ u_ → w_.cell? a_ = some u_) ∧ True) (by kernel_rfl) #[false, false, false, false, false, false, false, false, false, false, false, false, false, false, false, false, false] 17 rfl rfl ?_
        have hS554q := hS445q.drew
        refine WT.take 0 (listed' := #[true, false, false, false, false, false, false, false, false, false, false, false, false, false, false, false, false]) h422q rfl rfl (by kernel_rfl) rfl rfl (.pointer (some ⟨g436q, 0, none⟩)) (fun _ _ => by kernel_rfl) ⟨(hS554q.cell (i := 0) rfl), (fun _ _ hk_ => (hS554q.bring 1 rfl rfl).pool.kn hk_), trivial⟩ (fun _ _ _ h_ => h_) (fun a555q h556q => ?_)
        clear h422q a421q
        refine WT.take 1 (listed' := #[true, true, false, false, false, false, false, false, false, false, false, false, false, false, false, false, false]) h556q rfl rfl (by kernel_rfl) rfl rfl (.pointer (some ⟨g436q, 0, none⟩)) (fun _ _ => by kernel_rfl) ⟨(hS554q.cell (i := 0) rfl), (fun _ _ hk_ => (hS554q.bring 1 rfl rfl).pool.kn hk_), trivial⟩ (fun _ _ _ h_ => h_) (fun a557q h558q => ?_)
        clear h556q a555q
        refine WT.take 2 (listed' := #[true, true, true, false, false, false, false, false, false, false, false, false, false, false, false, false, false]) h558q rfl rfl (by kernel_rfl) rfl rfl (.pointer (some ⟨g436q, 0, none⟩)) (fun _ _ => by kernel_rfl) ⟨(hS554q.cell (i := 0) rfl), (fun _ _ hk_ => (hS554q.bring 1 rfl rfl).pool.kn hk_), trivial⟩ (fun _ _ _ h_ => h_) (fun a559q h560q => ?_)
        clear h558q a557q
        refine WT.take 4 (listed' := #[true, true, true, false, true, false, false, false, false, false, false, false, false, false, false, false, false]) h560q rfl rfl (by kernel_rfl) rfl rfl (.pointer (some ⟨g436q, 0, none⟩)) (fun _ _ => by kernel_rfl) ⟨(hS554q.cell (i := 0) rfl), (fun _ _ hk_ => (hS554q.bring 1 rfl rfl).pool.kn hk_), trivial⟩ (fun _ _ _ h_ => h_) (fun a561q h562q => ?_)
        clear h560q a559q
        refine WT.take 5 (listed' := #[true, true, true, false, true, true, false, false, false, false, false, false, false, false, false, false, false]) h562q rfl rfl (by kernel_rfl) rfl rfl (.pointer (some ⟨g436q, 0, none⟩)) (fun _ _ => by kernel_rfl) ⟨(hS554q.cell (i := 0) rfl), (fun _ _ hk_ => (hS554q.bring 1 rfl rfl).pool.kn hk_), trivial⟩ (fun _ _ _ h_ => h_) (fun a563q h564q => ?_)
        clear h562q a561q
        refine WT.take 6 (listed' := #[true, true, true, false, true, true, true, false, false, false, false, false, false, false, false, false, false]) h564q rfl rfl (by kernel_rfl) rfl rfl (.pointer (some ⟨g436q, 0, none⟩)) (fun _ _ => by kernel_rfl) ⟨(hS554q.cell (i := 0) rfl), (fun _ _ hk_ => (hS554q.bring 1 rfl rfl).pool.kn hk_), trivial⟩ (fun _ _ _ h_ => h_) (fun a565q h566q => ?_)
        clear h564q a563q
        refine WT.take 9 (listed' := #[true, true, true, false, true, true, true, false, false, true, false, false, false, false, false, false, false]) h566q rfl rfl (by kernel_rfl) rfl rfl (.int .i64 p1) (fun _ _ => by kernel_rfl) ⟨(hS554q.cell (i := 0) rfl), (fun _ _ hk_ => (hS554q.bring 1 rfl rfl).pool.kn hk_), trivial⟩ (fun _ _ _ h_ => h_) (fun a567q h568q => ?_)
        clear h566q a565q
        refine WT.take 3 (listed' := #[true, true, true, true, true, true, true, false, false, true, false, false, false, false, false, false, false]) h568q rfl rfl (by kernel_rfl) rfl rfl (.slice A443q p0.f0.length c444q) (fun w_ hs_ => (run_load1 rfl rfl Tryd.underlying23 rfl hs_.1)) ⟨(hS554q.cell (i := 0) rfl), (fun _ _ hk_ => (hS554q.bring 1 rfl rfl).pool.kn hk_), trivial⟩ (fun _ _ _ h_ => h_) (fun a569q h570q => ?_)
        clear h568q a567q
        refine WT.take 7 (listed' := #[true, true, true, true, true, true, true, true, false, true, false, false, false, false, false, false, false]) h570q rfl rfl (by kernel_rfl) rfl rfl (.slice A443q p0.f0.length c444q) (fun w_ hs_ => (run_load1 rfl rfl Tryd.underlying23 rfl hs_.1)) ⟨(hS554q.cell (i := 0) rfl), (fun _ _ hk_ => (hS554q.bring 1 rfl rfl).pool.kn hk_), trivial⟩ (fun _ _ _ h_ => h_) (fun a571q h572q => ?_)
        clear h570q a569q
        refine WT.take 8 (listed' := #[true, true, true, true, true, true, true, true, true, true, false, false, false, false, false, false, false]) h572q rfl rfl (by kernel_rfl) rfl rfl (.int .i64 (p0.f0.length : Int)) (fun _ _ => by kernel_rfl) ⟨(hS554q.cell (i := 0) rfl), (fun _ _ hk_ => (hS554q.bring 1 rfl rfl).pool.kn hk_), trivial⟩ (fun _ _ _ h_ => h_) (fun a573q h574q => ?_)
        clear h572q a571q
        obtain ⟨r576q, A575q, H⟩ := bind1 H
        refine WT.op 10 (listed' := #[true, true, true, true, true, true, true, true, true, true, true, false, false, false, false, false, false]) h574q rfl (by kernel_rfl) rfl rfl ?_
        refine owp_call [] h574q rfl (by kernel_rfl) rfl Tryd.func27 (by kernel_rfl) rfl (by kernel_rfl) (statics_Len.calls  A575q hS554q) (fun e578q W577q hp579q => ?_)
        obtain ⟨rfl, hS582q⟩ := hp579q
        refine ⟨_, rfl, fun a580q h581q => ?_⟩
        clear h574q a573q
        refine ⟨.inr ⟨(hS582q.cell (i := 0) rfl), (fun _ _ hk_ => (hS582q.bring 1 rfl rfl).pool.kn hk_), trivial⟩, ?_⟩
        refine WT.take 11 (listed' := #[true, true, true, true, true, true, true, true, true, true, true, true, false, false, false, false, false]) h581q rfl rfl (by kernel_rfl) rfl rfl (.int .i64 (IntKind.i64.wrap (p1 - r576q))) (fun _ _ => by kernel_rfl) ⟨(hS582q.cell (i := 0) rfl), (fun _ _ hk_ => (hS582q.bring 1 rfl rfl).pool.kn hk_), trivial⟩ (fun _ _ _ h_ => h_) (fun a583q h584q => ?_)
        clear h581q a580q
        refine WT.take 12 (listed' := #[true, true, true, true, true, true, true, true, true, true, true, true, true, false, false, false, false]) h584q rfl rfl (by kernel_rfl) rfl rfl (.int .i64 (IntKind.i64.wrap ((p0.f0.length : Int) - (IntKind.i64.wrap (p1 - r576q))))) (fun _ _ => by kernel_rfl) ⟨(hS582q.cell (i := 0) rfl), (fun _ _ hk_ => (hS582q.bring 1 rfl rfl).pool.kn hk_), trivial⟩ (fun _ _ _ h_ => h_) (fun a585q h586q => ?_)
        clear h584q a583q
        by_cases c587q : 0 ≤ (IntKind.i64.wrap ((p0.f0.length : Int) - (IntKind.i64.wrap (p1 - r576q))))
        · rw [if_pos c587q] at H
          by_cases c588q : (IntKind.i64.wrap ((p0.f0.length : Int) - (IntKind.i64.wrap (p1 - r576q)))) < (p0.f0.length : Int)
          · rw [if_pos c588q] at H
            have hi591q : 0 ≤ IntKind.i64.wrap ((p0.f0.length : Int) - (IntKind.i64.wrap (p1 - r576q))) := by first | assumption | omega
            have hi592q : (IntKind.i64.wrap ((p0.f0.length : Int) - (IntKind.i64.wrap (p1 - r576q)))) < (p0.f0.length : Int) := by first | assumption | omega
            obtain ⟨ad589q, _, ha590q, -, -⟩ := Rds.elemAny hr442q.rds hi591q (gt_get (z := z29) hi591q hi592q)
            refine WT.take 13 (listed' := #[true, true, true, true, true, true, true, true, true, true, true, true, true, true, false, false, false]) h586q rfl rfl (by kernel_rfl) rfl rfl (.pointer (some (ad589q.add ((IntKind.i64.wrap ((p0.f0.length : Int) - (IntKind.i64.wrap (p1 - r576q)))).toNat * 3)))) (fun w_ hs_ => (run_idx (ad := ad589q) (sz := 3) rfl (by rw [← ha590q]; rfl) rfl Tryd.underlying23 (by kernel_rfl) hi591q hi592q)) ⟨(hS582q.cell (i := 0) rfl), (fun _ _ hk_ => (hS582q.bring 1 rfl rfl).pool.kn hk_), trivial⟩ (fun _ _ _ h_ => h_) (fun a593q h594q => ?_)
            clear h586q a585q
            obtain ⟨ad595q, cs596q, ha597q, hr599q, hc598q⟩ := Rds.elemAny hr442q.rds hi591q (gt_get (z := z29) hi591q hi592q)
            rw [ha590q] at ha597q; obtain rfl := Option.some.inj ha597q
            obtain rfl := k29qrd hr599q
            refine WT.take 14 (listed' := #[true, true, true, true, true, true, true, true, true, true, true, true, true, true, true, false, false]) h594q rfl rfl (by kernel_rfl) rfl rfl (.agg #[.string (mkS ((gt z29 p0.f0 (IntKind.i64.wrap ((p0.f0.length : Int) - (IntKind.i64.wrap (p1 - r576q))))).f0)), .string (mkS ((gt z29 p0.f0 (IntKind.i64.wrap ((p0.f0.length : Int) - (IntKind.i64.wrap (p1 - r576q))))).f1)), .bool ((gt z29 p0.f0 (IntKind.i64.wrap ((p0.f0.length : Int) - (IntKind.i64.wrap (p1 - r576q))))).f2)]) (fun w_ hs_ => (run_loadN rfl rfl Tryd.underlying29 rfl (cs := ([.string (mkS ((gt z29 p0.f0 (IntKind.i64.wrap ((p0.f0.length : Int) - (IntKind.i64.wrap (p1 - r576q))))).f0)), .string (mkS ((gt z29 p0.f0 (IntKind.i64.wrap ((p0.f0.length : Int) - (IntKind.i64.wrap (p1 - r576q))))).f1)), .bool ((gt z29 p0.f0 (IntKind.i64.wrap ((p0.f0.length : Int) - (IntKind.i64.wrap (p1 - r576q))))).f2)] : List Value)) (by kernel_rfl) (hc598q _ hs_.2.1))) ⟨(hS582q.cell (i := 0) rfl), (fun _ _ hk_ => (hS582q.bring 1 rfl rfl).pool.kn hk_), trivial⟩ (fun _ _ _ h_ => h_) (fun a600q h601q => ?_)
            clear h594q a593q
            have hS602q : St b w0 W577q R ([(g314q, .cells ([.string (mkS ([] : List UInt8)), .string (mkS ([] : List UInt8)), .bool false] : List Value).toArray 29 (0, 0))] :: [(g436q, .cells ([.slice A443q p0.f0.length c444q, .int .i64 p0.f1, .int .i64 p0.f2] : List Value).toArray 51 (0, 0))] :: M438q :: [(g334q, .cells ([.string (mkS r321q.f0), .string (mkS r321q.f1), .bool r321q.f2] : List Value).toArray 29 (0, 0))] :: Fs) := hS582q.bring 3 rfl rfl
            refine WT.op 15 (listed' := #[true, true, true, true, true, true, true, true, true, true, true, true, true, true, true, true, false]) h601q rfl (by kernel_rfl) rfl rfl ?_
            refine owp_store (i := 0) (vs := ([.string (mkS ((gt z29 p0.f0 (IntKind.i64.wrap ((p0.f0.length : Int) - (IntKind.i64.wrap (p1 - r576q))))).f0)), .string (mkS ((gt z29 p0.f0 (IntKind.i64.wrap ((p0.f0.length : Int) - (IntKind.i64.wrap (p1 - r576q))))).f1)), .bool ((gt z29 p0.f0 (IntKind.i64.wrap ((p0.f0.length : Int) - (IntKind.i64.wrap (p1 - r576q))))).f2)] : List Value)) h601q rfl (by kernel_rfl) rfl rfl rfl rfl (by simp [Value.oneCell']) (by kernel_rfl) hS602q (by simp) (cs' := ([.string (mkS ((gt z29 p0.f0 (IntKind.i64.wrap ((p0.f0.length : Int) - (IntKind.i64.wrap (p1 - r576q))))).f0)), .string (mkS ((gt z29 p0.f0 (IntKind.i64.wrap ((p0.f0.length : Int) - (IntKind.i64.wrap (p1 - r576q))))).f1)), .bool ((gt z29 p0.f0 (IntKind.i64.wrap ((p0.f0.length : Int) - (IntKind.i64.wrap (p1 - r576q))))).f2)] : List Value)) rfl (fun a603q W605q h604q hS606q => ?_)
            clear h601q a600q
            refine ⟨.inl (by decide), ?_⟩
            refine WT.late 16 (listed' := #[true, true, true, true, true, true, true, true, true, true, true, true, true, true, true, true, true]) h604q rfl rfl (by kernel_rfl) rfl rfl (.bool true) (fun _ => by kernel_rfl) (fun _ _ _ h_ => h_) (fun a607q h608q => ?_)
            clear h604q a603q
            refine WT.done (by kernel_rfl) ?_
            refine wp_ret ?_
            have hS609q : St b w0 W605q R (M438q :: [(g314q, .cells ([.string (mkS ((gt z29 p0.f0 (IntKind.i64.wrap ((p0.f0.length : Int) - (IntKind.i64.wrap (p1 - r576q))))).f0)), .string (mkS ((gt z29 p0.f0 (IntKind.i64.wrap ((p0.f0.length : Int) - (IntKind.i64.wrap (p1 - r576q))))).f1)), .bool ((gt z29 p0.f0 (IntKind.i64.wrap ((p0.f0.length : Int) - (IntKind.i64.wrap (p1 - r576q))))).f2)] : List Value).toArray 29 (0, 0))] :: [(g436q, .cells ([.slice A443q p0.f0.length c444q, .int .i64 p0.f1, .int .i64 p0.f2] : List Value).toArray 51 (0, 0))] :: [(g334q, .cells ([.string (mkS r321q.f0), .string (mkS r321q.f1), .bool r321q.f2] : List Value).toArray 29 (0, 0))] :: Fs) := hS606q.bring 2 rfl rfl
            have hS610q : St b w0 W605q R ([(g436q, .cells ([.slice A443q p0.f0.length c444q, .int .i64 p0.f1, .int .i64 p0.f2] : List Value).toArray 51 (0, 0))] :: M438q :: [(g314q, .cells ([.string (mkS ((gt z29 p0.f0 (IntKind.i64.wrap ((p0.f0.length : Int) - (IntKind.i64.wrap (p1 - r576q))))).f0)), .string (mkS ((gt z29 p0.f0 (IntKind.i64.wrap ((p0.f0.length : Int) - (IntKind.i64.wrap (p1 - r576q))))).f1)), .bool ((gt z29 p0.f0 (IntKind.i64.wrap ((p0.f0.length : Int) - (IntKind.i64.wrap (p1 - r576q))))).f2)] : List Value).toArray 29 (0, 0))] :: [(g334q, .cells ([.string (mkS r321q.f0), .string (mkS r321q.f1), .bool r321q.f2] : List Value).toArray 29 (0, 0))] :: Fs) := hS609q.bring 2 rfl rfl
            obtain ⟨M612q, hr611q, hM_⟩ := k51qmk (b := b) (w0 := w0) (R := R) (x := p0) (gvf0 := hr442q)
            have hp613q : Ptr k51 51 b w0 R (.pointer (some ⟨g436q, 0, none⟩)) p0 ((g436q, .cells ([.slice A443q p0.f0.length c444q, .int .i64 p0.f1, .int .i64 p0.f2] : List Value).toArray 51 (0, 0)) :: M612q) := ⟨_, _, _, rfl, rfl, hr611q⟩
            rw [hM_] at hp613q
            have hS615q : St b w0 W605q R (((g436q, .cells ([.slice A443q p0.f0.length c444q, .int .i64 p0.f1, .int .i64 p0.f2] : List Value).toArray 51 (0, 0)) :: (M438q)) :: [(g314q, .cells ([.string (mkS ((gt z29 p0.f0 (IntKind.i64.wrap ((p0.f0.length : Int) - (IntKind.i64.wrap (p1 - r576q))))).f0)), .string (mkS ((gt z29 p0.f0 (IntKind.i64.wrap ((p0.f0.length : Int) - (IntKind.i64.wrap (p1 - r576q))))).f1)), .bool ((gt z29 p0.f0 (IntKind.i64.wrap ((p0.f0.length : Int) - (IntKind.i64.wrap (p1 - r576q))))).f2)] : List Value).toArray 29 (0, 0))] :: [(g334q, .cells ([.string (mkS r321q.f0), .string (mkS r321q.f1), .bool r321q.f2] : List Value).toArray 29 (0, 0))] :: Fs) := hS610q.assoc (by simp only [List.flatten_cons, List.append_assoc, List.cons_append, List.nil_append, List.append_nil])
            obtain ⟨M616q, hM_⟩ : ∃ y : Frag, y = ((g436q, .cells ([.slice A443q p0.f0.length c444q, .int .i64 p0.f1, .int .i64 p0.f2] : List Value).toArray 51 (0, 0)) :: (M438q)) := ⟨_, rfl⟩
            rw [← hM_] at hp613q hS615q
            clear hM_
            have hS617q : St b w0 W605q R ([(g314q, .cells ([.string (mkS ((gt z29 p0.f0 (IntKind.i64.wrap ((p0.f0.length : Int) - (IntKind.i64.wrap (p1 - r576q))))).f0)), .string (mkS ((gt z29 p0.f0 (IntKind.i64.wrap ((p0.f0.length : Int) - (IntKind.i64.wrap (p1 - r576q))))).f1)), .bool ((gt z29 p0.f0 (IntKind.i64.wrap ((p0.f0.length : Int) - (IntKind.i64.wrap (p1 - r576q))))).f2)] : List Value).toArray 29 (0, 0))] :: M616q :: [(g334q, .cells ([.string (mkS r321q.f0), .string (mkS r321q.f1), .bool r321q.f2] : List Value).toArray 29 (0, 0))] :: Fs) := hS615q.bring 1 rfl rfl
            have hS618q : St b w0 W605q R (M616q :: [(g334q, .cells ([.string (mkS r321q.f0), .string (mkS r321q.f1), .bool r321q.f2] : List Value).toArray 29 (0, 0))] :: Fs) := hS617q.drop_
            have hS619q : St b w0 W605q R ([(g334q, .cells ([.string (mkS r321q.f0), .string (mkS r321q.f1), .bool r321q.f2] : List Value).toArray 29 (0, 0))] :: M616q :: Fs) := hS618q.bring 1 rfl rfl
            have hS620q : St b w0 W605q R (M616q :: Fs) := hS619q.drop_
            obtain ⟨rfl, rfl⟩ := ret2 H
            repeat (first | refine then_ret ?_ | refine inBlock_ret ?_ | refine inBlock_go ?_)
            refine body_ret (v := .tuple #[.agg #[.string (mkS ((gt z29 p0.f0 (IntKind.i64.wrap ((p0.f0.length : Int) - (IntKind.i64.wrap (p1 - r576q))))).f0)), .string (mkS ((gt z29 p0.f0 (IntKind.i64.wrap ((p0.f0.length : Int) - (IntKind.i64.wrap (p1 - r576q))))).f1)), .bool ((gt z29 p0.f0 (IntKind.i64.wrap ((p0.f0.length : Int) - (IntKind.i64.wrap (p1 - r576q))))).f2)], .bool true]) h608q (by kernel_rfl) (res_many (xs := [ResultVar.cell 4 29, ResultVar.tmp 5]) rfl ⟨⟨_, rfl, loadVarN Tryd.underlying29 rfl (cs := ([.string (mkS ((gt z29 p0.f0 (IntKind.i64.wrap ((p0.f0.length : Int) - (IntKind.i64.wrap (p1 - r576q))))).f0)), .string (mkS ((gt z29 p0.f0 (IntKind.i64.wrap ((p0.f0.length : Int) - (IntKind.i64.wrap (p1 - r576q))))).f1)), .bool ((gt z29 p0.f0 (IntKind.i64.wrap ((p0.f0.length : Int) - (IntKind.i64.wrap (p1 - r576q))))).f2)] : List Value)) (by kernel_rfl) (hS606q.cells (vs := ([.string (mkS ((gt z29 p0.f0 (IntKind.i64.wrap ((p0.f0.length : Int) - (IntKind.i64.wrap (p1 - r576q))))).f0)), .string (mkS ((gt z29 p0.f0 (IntKind.i64.wrap ((p0.f0.length : Int) - (IntKind.i64.wrap (p1 - r576q))))).f1)), .bool ((gt z29 p0.f0 (IntKind.i64.wrap ((p0.f0.length : Int) - (IntKind.i64.wrap (p1 - r576q))))).f2)] : List Value)) rfl)⟩, rfl, trivial⟩ rfl) ?_
            exact ⟨M616q, rfl, hp613q, hS620q⟩
          · rw [if_neg c588q] at H
            cases H
        · rw [if_neg c587q] at H
          cases H

/-! ### (*louver/dyntable.Table).At -/
def dyntable_Table_At_nil.f (p1 : Int) : Option (S29 × Bool) := bnd2 (statics_At.f p1) fun r137q r138q => (if r138q = true then (some ((⟨r137q.f0, r137q.f1, r137q.f2⟩ : S29), true)) else (bnd1 (statics_Len.f) fun r175q => (if p1 ≤ r175q then (some ((⟨([] : List UInt8), ([] : List UInt8), false⟩ : S29), false)) else (bnd1 (statics_Len.f) fun r213q => (bnd1 (dyntable_Table_Len_nil.f) fun r225q => (if (IntKind.i64.wrap (p1 - r213q)) > r225q then (some ((⟨([] : List UInt8), ([] : List UInt8), false⟩ : S29), false)) else (none)))))))
set_option maxHeartbeats 2000000 in
set_option maxRecDepth 100000 in
theorem dyntable_Table_At_nil.calls {b : Nat} {w0 W : World} {R : Frag} {Fs : List Frag} {p1 : Int}  {r0q : S29} {r1q : Bool} (hg0 : Rds k29 b w0 [] (.slice (some ⟨0, 0, none⟩) 61 61) G0) (H : dyntable_Table_At_nil.f p1 = some (r0q, r1q)) (hS : St b w0 W R (Fs)) :
    Calls Tryd.prog 14 ([.pointer none, .int .i64 p1] : List Value).toArray W (fun e W' => e = .returned (.tuple #[.agg #[.string (mkS r0q.f0), .string (mkS r0q.f1), .bool r0q.f2], .bool r1q]) ∧ St b w0 W' R (Fs)) := by
  unfold dyntable_Table_At_nil.f at H
  refine calls_enter Tryd.func14 rfl 42 rfl (by kernel_rfl) (fun a h => ?_)
  refine wp_seq ?_
  refine WL.start ?_
  refine WL.op' (m := 0) h rfl rfl ?_
  refine owp_new (fun g_ => .pointer (some ⟨g_, 0, none⟩)) (.cells ([.string (mkS ([] : List UInt8)), .string (mkS ([] : List UInt8)), .bool false] : List Value).toArray 29 (0, 0)) h rfl (by kernel_rfl) (by kernel_rfl) hS (fun a127q W129q g130q h128q hS131q => ?_)
  refine WL.block (c := 1) (m' := 2) h128q rfl [(5, .bool false)] (by kernel_rfl) (fun a132q h133q => ?_)
  clear h128q a127q
  refine WL.done (by kernel_rfl) ?_
  refine wp_seq ?_
  refine wp_seq ?_
  refine WL.start ?_
  refine WL.block (c := 1) (m' := 1) h133q rfl [(9, .int .i64 p1)] (by kernel_rfl) (fun a134q h135q => ?_)
  clear h133q a132q
  obtain ⟨r137q, r138q, A136q, H⟩ := bind2 H
  refine WL.op' (m := 1) h135q rfl rfl ?_
  refine owp_call [.int .i64 p1] h135q rfl (by kernel_rfl) rfl Tryd.func26 (by kernel_rfl) rfl (by kernel_rfl) (statics_At.calls hg0 A136q hS131q) (fun e140q W139q hp141q => ?_)
  obtain ⟨rfl, hS144q⟩ := hp141q
  refine ⟨_, rfl, fun a142q h143q => ?_⟩
  clear h135q a134q
  refine WL.block (c := 3) (m' := 5) h143q rfl [(12, .bool r138q), (11, .agg #[.string (mkS r137q.f0), .string (mkS r137q.f1), .bool r137q.f2]), (8, .tuple #[.agg #[.string (mkS r137q.f0), .string (mkS r137q.f1), .bool r137q.f2], .bool r138q])] (by kernel_rfl) (fun a145q h146q => ?_)
  clear h143q a142q
  refine WL.op' (m := 5) h146q rfl rfl ?_
  refine owp_new (fun g_ => .pointer (some ⟨g_, 0, none⟩)) (.cells ([.string (mkS ([] : List UInt8)), .string (mkS ([] : List UInt8)), .bool false] : List Value).toArray 29 (0, 0)) h146q rfl (by kernel_rfl) (by kernel_rfl) hS144q (fun a147q W149q g150q h148q hS151q => ?_)
  clear h146q a145q
  refine WL.op' (m := 6) h148q rfl rfl ?_
  refine owp_store (i := 0) (vs := ([.string (mkS r137q.f0), .string (mkS r137q.f1), .bool r137q.f2] : List Value)) h148q rfl (by kernel_rfl) rfl rfl rfl rfl (by simp [Value.oneCell']) (by kernel_rfl) hS151q (by simp) (cs' := ([.string (mkS r137q.f0), .string (mkS r137q.f1), .bool r137q.f2] : List Value)) rfl (fun a152q W154q h153q hS155q => ?_)
  clear h148q a147q
  refine WL.block (c := 1) (m' := 8) h153q rfl [(7, .bool r138q)] (by kernel_rfl) (fun a156q h157q => ?_)
  clear h153q a152q
  refine WL.done (by kernel_rfl) ?_
  refine wp_seq ?_
  refine WL.start ?_
  refine WL.block (c := 1) (m' := 1) h157q rfl [(13, .bool r138q)] (by kernel_rfl) (fun a158q h159q => ?_)
  clear h157q a156q
  refine WL.done (by kernel_rfl) ?_
  by_cases c160q : r138q = true
  · rw [if_pos c160q] at H
    have hb_ : r138q = true := c160q
    try rw [hb_] at h159q
    clear hb_
    refine wp_then h159q rfl ?_
    refine wp_seq ?_
    refine WL.start ?_
    refine WL.op' (m := 0) h159q rfl rfl ?_
    refine owp_run (v := .agg #[.string (mkS r137q.f0), .string (mkS r137q.f1), .bool r137q.f2]) h159q rfl (by kernel_rfl) (run_loadN rfl rfl Tryd.underlying29 rfl (cs := ([.string (mkS r137q.f0), .string (mkS r137q.f1), .bool r137q.f2] : List Value)) (by kernel_rfl) (hS155q.cells (vs := ([.string (mkS r137q.f0), .string (mkS r137q.f1), .bool r137q.f2] : List Value)) rfl)) (fun a161q h162q => ?_)
    clear h159q a158q
    have hS163q : St b w0 W154q R ([(g130q, .cells ([.string (mkS ([] : List UInt8)), .string (mkS ([] : List UInt8)), .bool false] : List Value).toArray 29 (0, 0))] :: [(g150q, .cells ([.string (mkS r137q.f0), .string (mkS r137q.f1), .bool r137q.f2] : List Value).toArray 29 (0, 0))] :: Fs) := hS155q.bring 1 rfl rfl
    refine WL.op' (m := 1) h162q rfl rfl ?_
    refine owp_store (i := 0) (vs := ([.string (mkS r137q.f0), .string (mkS r137q.f1), .bool r137q.f2] : List Value)) h162q rfl (by kernel_rfl) rfl rfl rfl rfl (by simp [Value.oneCell']) (by kernel_rfl) hS163q (by simp) (cs' := ([.string (mkS r137q.f0), .string (mkS r137q.f1), .bool r137q.f2] : List Value)) rfl (fun a164q W166q h165q hS167q => ?_)
    clear h162q a161q
    refine WL.block (c := 1) (m' := 3) h165q rfl [(5, .bool true)] (by kernel_rfl) (fun a168q h169q => ?_)
    clear h165q a164q
    refine WL.done (by kernel_rfl) ?_
    refine wp_ret ?_
    have hS170q : St b w0 W166q R ([(g150q, .cells ([.string (mkS r137q.f0), .string (mkS r137q.f1), .bool r137q.f2] : List Value).toArray 29 (0, 0))] :: Fs) := hS167q.drop_
    have hS171q : St b w0 W166q R (Fs) := hS170q.drop_
    obtain ⟨rfl, rfl⟩ := ret2 H
    repeat (first | refine then_ret ?_ | refine inBlock_ret ?_ | refine inBlock_go ?_)
    refine body_ret (v := .tuple #[.agg #[.string (mkS r137q.f0), .string (mkS r137q.f1), .bool r137q.f2], .bool true]) h169q (by kernel_rfl) (res_many (xs := [ResultVar.cell 4 29, ResultVar.tmp 5]) rfl ⟨⟨_, rfl, loadVarN Tryd.underlying29 rfl (cs := ([.string (mkS r137q.f0), .string (mkS r137q.f1), .bool r137q.f2] : List Value)) (by kernel_rfl) (hS167q.cells (vs := ([.string (mkS r137q.f0), .string (mkS r137q.f1), .bool r137q.f2] : List Value)) rfl)⟩, rfl, trivial⟩ rfl) ?_
    exact ⟨rfl, hS171q⟩
  · rw [if_neg c160q] at H
    have hb_ : r138q = false := (Bool.eq_false_iff.2 c160q)
    try rw [hb_] at h159q
    clear hb_
    refine wp_else h159q rfl ?_
    refine wp_skip ?_
    refine wp_seq ?_
    refine wp_seq ?_
    refine WL.start ?_
    refine WL.block (c := 1) (m' := 1) h159q rfl [(15, .int .i64 p1)] (by kernel_rfl) (fun a172q h173q => ?_)
    clear h159q a158q
    obtain ⟨r175q, A174q, H⟩ := bind1 H
    refine WL.op' (m := 1) h173q rfl rfl ?_
    refine owp_call [] h173q rfl (by kernel_rfl) rfl Tryd.func27 (by kernel_rfl) rfl (by kernel_rfl) (statics_Len.calls  A174q hS155q) (fun e177q W176q hp178q => ?_)
    obtain ⟨rfl, hS181q⟩ := hp178q
    refine ⟨_, rfl, fun a179q h180q => ?_⟩
    clear h173q a172q
    refine WL.block (c := 2) (m' := 4) h180q rfl [(18, .bool (decide (p1 ≤ r175q))), (17, .bool (decide (p1 ≤ r175q)))] (by kernel_rfl) (fun a182q h183q => ?_)
    clear h180q a179q
    by_cases c184q : p1 ≤ r175q
    · rw [if_pos c184q] at H
      have hb_ : (decide (p1 ≤ r175q)) = true := decide_eq_true c184q
      try rw [hb_] at h183q
      clear hb_
      refine WL.skipped (m := 4) h183q rfl rfl (by kernel_rfl) rfl (fun a185q h186q => ?_)
      clear h183q a182q
      refine WL.skipped (m := 5) h186q rfl rfl (by kernel_rfl) rfl (fun a187q h188q => ?_)
      clear h186q a185q
      refine WL.skipped (m := 6) h188q rfl rfl (by kernel_rfl) rfl (fun a189q h190q => ?_)
      clear h188q a187q
      refine WL.skipped (m := 7) h190q rfl rfl (by kernel_rfl) rfl (fun a191q h192q => ?_)
      clear h190q a189q
      refine WL.skipped (m := 8) h192q rfl rfl (by kernel_rfl) rfl (fun a193q h194q => ?_)
      clear h192q a191q
      refine WL.skipped (m := 9) h194q rfl rfl (by kernel_rfl) rfl (fun a195q h196q => ?_)
      clear h194q a193q
      refine WL.block (c := 1) (m' := 11) h196q rfl [(25, .bool true)] (by kernel_rfl) (fun a197q h198q => ?_)
      clear h196q a195q
      refine WL.done (by kernel_rfl) ?_
      refine wp_then h198q rfl ?_
      refine wp_seq ?_
      refine WL.start ?_
      refine WL.block (c := 1) (m' := 1) h198q rfl [(26, .agg #[.string (mkS ([] : List UInt8)), .string (mkS ([] : List UInt8)), .bool false])] (by kernel_rfl) (fun a199q h200q => ?_)
      clear h198q a197q
      have hS201q : St b w0 W176q R ([(g130q, .cells ([.string (mkS ([] : List UInt8)), .string (mkS ([] : List UInt8)), .bool false] : List Value).toArray 29 (0, 0))] :: [(g150q, .cells ([.string (mkS r137q.f0), .string (mkS r137q.f1), .bool r137q.f2] : List Value).toArray 29 (0, 0))] :: Fs) := hS181q.bring 1 rfl rfl
      refine WL.op' (m := 1) h200q rfl rfl ?_
      refine owp_store (i := 0) (vs := ([.string (mkS ([] : List UInt8)), .string (mkS ([] : List UInt8)), .bool false] : List Value)) h200q rfl (by kernel_rfl) rfl rfl rfl rfl (by simp [Value.oneCell']) (by kernel_rfl) hS201q (by simp) (cs' := ([.string (mkS ([] : List UInt8)), .string (mkS ([] : List UInt8)), .bool false] : List Value)) rfl (fun a202q W204q h203q hS205q => ?_)
      clear h200q a199q
      refine WL.block (c := 1) (m' := 3) h203q rfl [(5, .bool false)] (by kernel_rfl) (fun a206q h207q => ?_)
      clear h203q a202q
      refine WL.done (by kernel_rfl) ?_
      refine wp_ret ?_
      have hS208q : St b w0 W204q R ([(g150q, .cells ([.string (mkS r137q.f0), .string (mkS r137q.f1), .bool r137q.f2] : List Value).toArray 29 (0, 0))] :: Fs) := hS205q.drop_
      have hS209q : St b w0 W204q R (Fs) := hS208q.drop_
      obtain ⟨rfl, rfl⟩ := ret2 H
      repeat (first | refine then_ret ?_ | refine inBlock_ret ?_ | refine inBlock_go ?_)
      refine body_ret (v := .tuple #[.agg #[.string (mkS ([] : List UInt8)), .string (mkS ([] : List UInt8)), .bool false], .bool false]) h207q (by kernel_rfl) (res_many (xs := [ResultVar.cell 4 29, ResultVar.tmp 5]) rfl ⟨⟨_, rfl, loadVarN Tryd.underlying29 rfl (cs := ([.string (mkS ([] : List UInt8)), .string (mkS ([] : List UInt8)), .bool false] : List Value)) (by kernel_rfl) (hS205q.cells (vs := ([.string (mkS ([] : List UInt8)), .string (mkS ([] : List UInt8)), .bool false] : List Value)) rfl)⟩, rfl, trivial⟩ rfl) ?_
      exact ⟨rfl, hS209q⟩
    · rw [if_neg c184q] at H
      have hb_ : (decide (p1 ≤ r175q)) = false := decide_eq_false c184q
      try rw [hb_] at h183q
      clear hb_
      refine WL.op' (m := 4) h183q rfl rfl (owp_run h183q rfl (by kernel_rfl) (v := .int .i64 p1) (by kernel_rfl) (fun a210q h211q => ?_))
      clear h183q a182q
      obtain ⟨r213q, A212q, H⟩ := bind1 H
      refine WL.op' (m := 5) h211q rfl rfl ?_
      refine owp_call [] h211q rfl (by kernel_rfl) rfl Tryd.func27 (by kernel_rfl) rfl (by kernel_rfl) (statics_Len.calls  A212q hS181q) (fun e215q W214q hp216q => ?_)
      obtain ⟨rfl, hS219q⟩ := hp216q
      refine ⟨_, rfl, fun a217q h218q => ?_⟩
      clear h211q a210q
      refine WL.op' (m := 6) h218q rfl rfl (owp_run h218q rfl (by kernel_rfl) (v := .int .i64 (IntKind.i64.wrap (p1 - r213q))) (by kernel_rfl) (fun a220q h221q => ?_))
      clear h218q a217q
      refine WL.op' (m := 7) h221q rfl rfl (owp_run h221q rfl (by kernel_rfl) (v := .pointer none) (by kernel_rfl) (fun a222q h223q => ?_))
      clear h221q a220q
      obtain ⟨r225q, A224q, H⟩ := bind1 H
      refine WL.op' (m := 8) h223q rfl rfl ?_
      refine owp_call [.pointer none] h223q rfl (by kernel_rfl) rfl Tryd.func11 (by kernel_rfl) rfl (by kernel_rfl) (dyntable_Table_Len_nil.calls  A224q hS219q) (fun e227q W226q hp228q => ?_)
      obtain ⟨rfl, hS231q⟩ := hp228q
      refine ⟨_, rfl, fun a229q h230q => ?_⟩
      clear h223q a222q
      refine WL.op' (m := 9) h230q rfl rfl (owp_run h230q rfl (by kernel_rfl) (v := .bool (decide ((IntKind.i64.wrap (p1 - r213q)) > r225q))) (by kernel_rfl) (fun a232q h233q => ?_))
      clear h230q a229q
      refine WL.block (c := 1) (m' := 11) h233q rfl [(25, .bool (decide ((IntKind.i64.wrap (p1 - r213q)) > r225q)))] (by kernel_rfl) (fun a234q h235q => ?_)
      clear h233q a232q
      refine WL.done (by kernel_rfl) ?_
      by_cases c236q : (IntKind.i64.wrap (p1 - r213q)) > r225q
      · rw [if_pos c236q] at H
        have hb_ : (decide ((IntKind.i64.wrap (p1 - r213q)) > r225q)) = true := decide_eq_true c236q
        try rw [hb_] at h235q
        clear hb_
        refine wp_then h235q rfl ?_
        refine wp_seq ?_
        refine WL.start ?_
        refine WL.block (c := 1) (m' := 1) h235q rfl [(26, .agg #[.string (mkS ([] : List UInt8)), .string (mkS ([] : List UInt8)), .bool false])] (by kernel_rfl) (fun a237q h238q => ?_)
        clear h235q a234q
        have hS239q : St b w0 W226q R ([(g130q, .cells ([.string (mkS ([] : List UInt8)), .string (mkS ([] : List UInt8)), .bool false] : List Value).toArray 29 (0, 0))] :: [(g150q, .cells ([.string (mkS r137q.f0), .string (mkS r137q.f1), .bool r137q.f2] : List Value).toArray 29 (0, 0))] :: Fs) := hS231q.bring 1 rfl rfl
        refine WL.op' (m := 1) h238q rfl rfl ?_
        refine owp_store (i := 0) (vs := ([.string (mkS ([] : List UInt8)), .string (mkS ([] : List UInt8)), .bool false] : List Value)) h238q rfl (by kernel_rfl) rfl rfl rfl rfl (by simp [Value.oneCell']) (by kernel_rfl) hS239q (by simp) (cs' := ([.string (mkS ([] : List UInt8)), .string (mkS ([] : List UInt8)), .bool false] : List Value)) rfl (fun a240q W242q h241q hS243q => ?_)
        clear h238q a237q
        refine WL.block (c := 1) (m' := 3) h241q rfl [(5, .bool false)] (by kernel_rfl) (fun a244q h245q => ?_)
        clear h241q a240q
        refine WL.done (by kernel_rfl) ?_
        refine wp_ret ?_
        have hS246q : St b w0 W242q R ([(g150q, .cells ([.string (mkS r137q.f0), .string (mkS r137q.f1), .bool r137q.f2] : List Value).toArray 29 (0, 0))] :: Fs) := hS243q.drop_
        have hS247q : St b w0 W242q R (Fs) := hS246q.drop_
        obtain ⟨rfl, rfl⟩ := ret2 H
        repeat (first | refine then_ret ?_ | refine inBlock_ret ?_ | refine inBlock_go ?_)
        refine body_ret (v := .tuple #[.agg #[.string (mkS ([] : List UInt8)), .string (mkS ([] : List UInt8)), .bool false], .bool false]) h245q (by kernel_rfl) (res_many (xs := [ResultVar.cell 4 29, ResultVar.tmp 5]) rfl ⟨⟨_, rfl, loadVarN Tryd.underlying29 rfl (cs := ([.string (mkS ([] : List UInt8)), .string (mkS ([] : List UInt8)), .bool false] : List Value)) (by kernel_rfl) (hS243q.cells (vs := ([.string (mkS ([] : List UInt8)), .string (mkS ([] : List UInt8)), .bool false] : List Value)) rfl)⟩, rfl, trivial⟩ rfl) ?_
        exact ⟨rfl, hS247q⟩
      · rw [if_neg c236q] at H
        have hb_ : (decide ((IntKind.i64.wrap (p1 - r213q)) > r225q)) = false := decide_eq_false c236q
        try rw [hb_] at h235q
        clear hb_
        refine wp_else h235q rfl ?_
        refine wp_skip ?_
        refine wp_seq ?_
        refine WT.start 15 (fun w_ => True) (by kernel_rfl) #[false, false, false, false, false, false, false, false, false, false, false, false, false, false, false, false, false] 17 rfl rfl ?_
        have hS250q := hS231q.drew
        refine WT.take 0 (listed' := #[true, false, false, false, false, false, false, false, false, false, false, false, false, false, false, false, false]) h235q rfl rfl (by kernel_rfl) rfl rfl (.pointer none) (fun _ _ => by kernel_rfl) trivial (fun _ _ _ h_ => h_) (fun a251q h252q => ?_)
        clear h235q a234q
        cases H

/-! ### (*louver/dyntable.Table).Size -/
def dyntable_Table_Size.f (p0 : S51) : Option (Int) := some p0.f1
set_option maxHeartbeats 2000000 in
set_option maxRecDepth 100000 in
theorem dyntable_Table_Size.calls {b : Nat} {w0 W : World} {R : Frag} {Fs : List Frag} {p0 : S51}  {v0 : Value} {M0 : Frag} {r0q : Int} (hp0 : Ptr k51 51 b w0 R v0 p0 M0) (H : dyntable_Table_Size.f p0 = some r0q) (hS : St b w0 W R (M0 :: Fs)) :
    Calls Tryd.prog 12 ([v0] : List Value).toArray W (fun e W' => ∃ (O0q : Frag), e = .returned (.int .i64 r0q) ∧ Ptr k51 51 b w0 R v0 p0 O0q ∧ St b w0 W' R (O0q :: Fs)) := by
  unfold dyntable_Table_Size.f at H
  refine calls_enter Tryd.func12 rfl 9 rfl (by kernel_rfl) (fun a h => ?_)
  refine wp_seq ?_
  refine WL.start ?_
  refine WL.block (c := 1) (m' := 1) h rfl [(2, .int .i64 0)] (by kernel_rfl) (fun a31q h32q => ?_)
  refine WL.done (by kernel_rfl) ?_
  refine wp_seq ?_
  refine wp_seq ?_
  refine WL.start ?_
  refine WL.block (c := 1) (m' := 1) h32q rfl [(3, v0)] (by kernel_rfl) (fun a33q h34q => ?_)
  clear h32q a31q
  obtain ⟨g35q, cs36q, M37q, hv_, hM_, hr38q⟩ := hp0
  obtain ⟨v39q, M40q, rfl, hM2q, hr41q⟩ := k51qrep hr38q
  subst hM2q
  subst hM_
  subst hv_
  replace hr41q : Row k29 29 b w0 R v39q p0.f0 M37q := hr41q
  obtain ⟨A42q, c43q, rfl⟩ := hr41q.form
  have hS44q : St b w0 W R ([(g35q, .cells ([.slice A42q p0.f0.length c43q, .int .i64 p0.f1, .int .i64 p0.f2] : List Value).toArray 51 (0, 0))] :: M37q :: Fs) := hS.assoc (by simp only [List.flatten_cons, List.append_assoc, List.cons_append, List.nil_append, List.append_nil])
  refine WL.block (c := 1) (m' := 2) h34q rfl [(4, .bool false)] (by kernel_rfl) (fun a45q h46q => ?_)
  clear h34q a33q
  refine WL.done (by kernel_rfl) ?_
  refine wp_else h46q rfl ?_
  refine wp_skip ?_
  refine wp_seq ?_
  refine WL.start ?_
  refine WL.block (c := 3) (m' := 3) h46q rfl [(7, .pointer (some ⟨g35q, 1, none⟩)), (6, .pointer (some ⟨g35q, 0, none⟩)), (5, .pointer (some ⟨g35q, 0, none⟩))] (by kernel_rfl) (fun a47q h48q => ?_)
  clear h46q a45q
  refine WL.op' (m := 3) h48q rfl rfl ?_
  refine owp_run (v := .int .i64 p0.f1) h48q rfl (by kernel_rfl) (run_load1 rfl rfl Tryd.underlying3 rfl (hS44q.cell (i := 1) rfl)) (fun a49q h50q => ?_)
  clear h48q a47q
  refine WL.block (c := 1) (m' := 5) h50q rfl [(2, .int .i64 p0.f1)] (by kernel_rfl) (fun a51q h52q => ?_)
  clear h50q a49q
  refine WL.done (by kernel_rfl) ?_
  refine wp_ret ?_
  have hS53q : St b w0 W R (M37q :: [(g35q, .cells ([.slice A42q p0.f0.length c43q, .int .i64 p0.f1, .int .i64 p0.f2] : List Value).toArray 51 (0, 0))] :: Fs) := hS44q.bring 1 rfl rfl
  have hS54q : St b w0 W R ([(g35q, .cells ([.slice A42q p0.f0.length c43q, .int .i64 p0.f1, .int .i64 p0.f2] : List Value).toArray 51 (0, 0))] :: M37q :: Fs) := hS53q.bring 1 rfl rfl
  obtain ⟨M56q, hr55q, hM_⟩ := k51qmk (b := b) (w0 := w0) (R := R) (x := p0) (gvf0 := hr41q)
  have hp57q : Ptr k51 51 b w0 R (.pointer (some ⟨g35q, 0, none⟩)) p0 ((g35q, .cells ([.slice A42q p0.f0.length c43q, .int .i64 p0.f1, .int .i64 p0.f2] : List Value).toArray 51 (0, 0)) :: M56q) := ⟨_, _, _, rfl, rfl, hr55q⟩
  rw [hM_] at hp57q
  have hS59q : St b w0 W R (((g35q, .cells ([.slice A42q p0.f0.length c43q, .int .i64 p0.f1, .int .i64 p0.f2] : List Value).toArray 51 (0, 0)) :: (M37q)) :: Fs) := hS54q.assoc (by simp only [List.flatten_cons, List.append_assoc, List.cons_append, List.nil_append, List.append_nil])
  obtain ⟨M60q, hM_⟩ : ∃ y : Frag, y = ((g35q, .cells ([.slice A42q p0.f0.length c43q, .int .i64 p0.f1, .int .i64 p0.f2] : List Value).toArray 51 (0, 0)) :: (M37q)) := ⟨_, rfl⟩
  rw [← hM_] at hp57q hS59q
  clear hM_
  obtain rfl := Option.some.inj H
  repeat (first | refine then_ret ?_ | refine inBlock_ret ?_ | refine inBlock_go ?_)
  refine body_ret (v := .int .i64 p0.f1) h52q (by kernel_rfl) (by kernel_rfl) ?_
  exact ⟨M60q, rfl, hp57q, hS59q⟩

/-! ### (*louver/dyntable.Table).Size -/
def dyntable_Table_Size_nil.f  : Option (Int) := some 0
set_option maxHeartbeats 2000000 in
set_option maxRecDepth 100000 in
theorem dyntable_Table_Size_nil.calls {b : Nat} {w0 W : World} {R : Frag} {Fs : List Frag}   {r0q : Int}  (H : dyntable_Table_Size_nil.f = some r0q) (hS : St b w0 W R (Fs)) :
    Calls Tryd.prog 12 ([.pointer none] : List Value).toArray W (fun e W' => e = .returned (.int .i64 r0q) ∧ St b w0 W' R (Fs)) := by
  unfold dyntable_Table_Size_nil.f at H
  refine calls_enter Tryd.func12 rfl 9 rfl (by kernel_rfl) (fun a h => ?_)
  refine wp_seq ?_
  refine WL.start ?_
  refine WL.block (c := 1) (m' := 1) h rfl [(2, .int .i64 0)] (by kernel_rfl) (fun a7q h8q => ?_)
  refine WL.done (by kernel_rfl) ?_
  refine wp_seq ?_
  refine wp_seq ?_
  refine WL.start ?_
  refine WL.block (c := 2) (m' := 2) h8q rfl [(4, .bool true), (3, .pointer none)] (by kernel_rfl) (fun a9q h10q => ?_)
  clear h8q a7q
  refine WL.done (by kernel_rfl) ?_
  refine wp_then h10q rfl ?_
  refine wp_seq ?_
  refine WL.start ?_
  refine WL.block (c := 1) (m' := 1) h10q rfl [(2, .int .i64 0)] (by kernel_rfl) (fun a11q h12q => ?_)
  clear h10q a9q
  refine WL.done (by kernel_rfl) ?_
  refine wp_ret ?_
  obtain rfl := Option.some.inj H
  repeat (first | refine then_ret ?_ | refine inBlock_ret ?_ | refine inBlock_go ?_)
  refine body_ret (v := .int .i64 0) h12q (by kernel_rfl) (by kernel_rfl) ?_
  exact ⟨rfl, hS⟩

/-! ### louver/louverlaw05.fixed -/
def louverlaw05qfixed.l0 : Nat → S51 → Int → Option (Bool)
  | 0, _, _ => none
  | k + 1, x371q, x374q => if x374q < 3 then (if 0 ≤ x374q then (if x374q < (([([97, 97, 97, 97] : List UInt8), ([98, 98, 98, 98] : List UInt8), ([99, 99, 99, 99] : List UInt8)] : List (List UInt8)).length : Int) then (bnd1 (dyntable_Table_Add.f k x371q (⟨(gt [] ([([97, 97, 97, 97] : List UInt8), ([98, 98, 98, 98] : List UInt8), ([99, 99, 99, 99] : List UInt8)] : List (List UInt8)) x374q), (gt [] ([([97, 97, 97, 97] : List UInt8), ([98, 98, 98, 98] : List UInt8), ([99, 99, 99, 99] : List UInt8)] : List (List UInt8)) x374q), false⟩ : S29)) fun r402q => (louverlaw05qfixed.l0 k r402q (IntKind.i64.wrap (x374q + 1)))) else (none)) else (none)) else (bnd2 (dyntable_Table_At.f x371q 62) fun r416q r417q => (bnd2 (dyntable_Table_At.f x371q 64) fun r443q r444q => (if r417q = true then (if r416q.f0 = ([99, 99, 99, 99] : List UInt8) then (if r444q = true then (some false) else (bnd1 (dyntable_Table_Size.f x371q) fun r510q => (if r510q = 80 then (bnd1 (dyntable_Table_Len.f x371q) fun r527q => (some (decide (r527q = 2)))) else (some false)))) else (some false)) else (some false))))
def louverlaw05qfixed.f (k : Nat)  : Option (Bool) := bnd1 (dyntable_New.f 80) fun r346q => (louverlaw05qfixed.l0 k r346q 0)
set_option maxHeartbeats 2000000 in
set_option maxRecDepth 100000 in
theorem louverlaw05qfixed.calls (k : Nat) {b : Nat} {w0 W : World} {R : Frag} {Fs : List Frag}   {r0q : Bool} (hg0 : Rds k29 b w0 [] (.slice (some ⟨0, 0, none⟩) 61 61) G0) (H : louverlaw05qfixed.f k = some r0q) (hS : St b w0 W R (Fs)) :
    Calls Tryd.prog 8 ([] : List Value).toArray W (fun e W' => e = .returned (.bool r0q) ∧ St b w0 W' R (Fs)) := by
  unfold louverlaw05qfixed.f at H
  refine calls_enter Tryd.func8 rfl 51 rfl (by kernel_rfl) (fun a h => ?_)
  refine wp_seq ?_
  refine WL.start ?_
  refine WL.block (c := 1) (m' := 1) h rfl [(0, .bool false)] (by kernel_rfl) (fun a343q h344q => ?_)
  refine WL.done (by kernel_rfl) ?_
  refine wp_seq ?_
  refine WL.start ?_
  obtain ⟨r346q, A345q, H⟩ := bind1 H
  refine WL.op' (m := 0) h344q rfl rfl ?_
  refine owp_call [.int .u32 80] h344q rfl (by kernel_rfl) rfl Tryd.func9 (by kernel_rfl) rfl (by kernel_rfl) (dyntable_New.calls  A345q hS) (fun e348q W347q hp349q => ?_)
  obtain ⟨v352q, M353q, rfl, hr354q, hS355q⟩ := hp349q
  refine ⟨_, rfl, fun a350q h351q => ?_⟩
  clear h344q a343q
  refine WL.block (c := 1) (m' := 2) h351q rfl [(1, v352q)] (by kernel_rfl) (fun a356q h357q => ?_)
  clear h351q a350q
  refine WL.done (by kernel_rfl) ?_
  refine wp_seq ?_
  refine wp_seq ?_
  refine WL.start ?_
  refine WL.op' (m := 0) h357q rfl rfl ?_
  refine owp_new (fun g_ => .slice (some ⟨g_, 0, none⟩) 3 3) (.cells ([.string (mkS ([97, 97, 97, 97] : List UInt8)), .string (mkS ([98, 98, 98, 98] : List UInt8)), .string (mkS ([99, 99, 99, 99] : List UInt8))] : List Value).toArray 9 (0, 0)) h357q rfl (by kernel_rfl) (by kernel_rfl) hS355q (fun a358q W360q g361q h359q hS362q => ?_)
  clear h357q a356q
  have hr363q : Row kStr 9 b w0 R (.slice (some ⟨g361q, 0, none⟩) 3 3) ([([97, 97, 97, 97] : List UInt8), ([98, 98, 98, 98] : List UInt8), ([99, 99, 99, 99] : List UInt8)] : List (List UInt8)) [(g361q, .cells ([.string (mkS ([97, 97, 97, 97] : List UInt8)), .string (mkS ([98, 98, 98, 98] : List UInt8)), .string (mkS ([99, 99, 99, 99] : List UInt8))] : List Value).toArray 9 (0, 0))] := Row.lit (xs := ([([97, 97, 97, 97] : List UInt8), ([98, 98, 98, 98] : List UInt8), ([99, 99, 99, 99] : List UInt8)] : List (List UInt8))) (Mi := []) ⟨_, _, [], _, rfl, rfl, ⟨rfl, rfl⟩, ⟨_, _, [], _, rfl, rfl, ⟨rfl, rfl⟩, ⟨_, _, [], _, rfl, rfl, ⟨rfl, rfl⟩, ⟨rfl, rfl⟩⟩⟩⟩ (by simp [maxLen])
  refine WL.block (c := 2) (m' := 3) h359q rfl [(11, .int .i64 0), (10, .int .i64 3)] (by kernel_rfl) (fun a364q h365q => ?_)
  clear h359q a358q
  refine WL.done (by kernel_rfl) ?_
  refine wp_block ?_
  have hS375q : St b w0 W360q R (M353q :: [(g361q, .cells ([.string (mkS ([97, 97, 97, 97] : List UInt8)), .string (mkS ([98, 98, 98, 98] : List UInt8)), .string (mkS ([99, 99, 99, 99] : List UInt8))] : List Value).toArray 9 (0, 0))] :: Fs) := hS362q.bring 1 rfl rfl
  refine wp_loop_ghost (fun kq_ a_ W_ => ∃ (x371q : S51), ∃ (M372q : Frag), ∃ (x374q : Int), Hd a_ 51 [(1, v352q), (9, .slice (some ⟨g361q, 0, none⟩) 3 3), (10, .int .i64 3), (11, .int .i64 x374q)] ∧ Asd (louverlaw05qfixed.l0 kq_ x371q x374q = some r0q) ∧ Asd (kq_ ≤ k) ∧ Asd (St b w0 W_ R (M372q :: [(g361q, .cells ([.string (mkS ([97, 97, 97, 97] : List UInt8)), .string (mkS ([98, 98, 98, 98] : List UInt8)), .string (mkS ([99, 99, 99, 99] : List UInt8))] : List Value).toArray 9 (0, 0))] :: Fs)) ∧ Asd (Ptr k51 51 b w0 R v352q x371q M372q)) k ⟨r346q, M353q, 0, h365q.keep ⟨rfl, rfl, rfl, rfl, trivial⟩, ⟨H⟩, ⟨Nat.le_refl _⟩, ⟨hS375q⟩, ⟨hr354q⟩⟩ ?_
  clear H hS375q
  rintro k370q a367q W368q ⟨x371q, M372q, x374q, h366q, ⟨H⟩, ⟨hkk370q⟩, ⟨hS369q⟩, ⟨hr373q⟩⟩
  obtain _ | k376q := k370q
  · exact absurd H (by simp [louverlaw05qfixed.l0])
  simp only [louverlaw05qfixed.l0] at H
  refine wp_seq ?_
  refine WL.start ?_
  refine WL.block (c := 1) (m' := 1) h366q rfl [(12, .bool (decide (x374q < 3)))] (by kernel_rfl) (fun a377q h378q => ?_)
  clear h366q a367q
  refine WL.done (by kernel_rfl) ?_
  refine wp_seq ?_
  by_cases c379q : x374q < 3
  · rw [if_pos c379q] at H
    have hb_ : (decide (x374q < 3)) = true := decide_eq_true c379q
    try rw [hb_] at h378q
    clear hb_
    refine wp_then h378q rfl ?_
    refine wp_skip ?_
    refine wp_seq ?_
    refine wp_block ?_
    refine wp_seq ?_
    refine WL.start ?_
    by_cases c380q : 0 ≤ x374q
    · rw [if_pos c380q] at H
      by_cases c381q : x374q < (([([97, 97, 97, 97] : List UInt8), ([98, 98, 98, 98] : List UInt8), ([99, 99, 99, 99] : List UInt8)] : List (List UInt8)).length : Int)
      · rw [if_pos c381q] at H
        have hi384q : 0 ≤ x374q := by first | assumption | omega
        have hi385q : x374q < (([([97, 97, 97, 97] : List UInt8), ([98, 98, 98, 98] : List UInt8), ([99, 99, 99, 99] : List UInt8)] : List (List UInt8)).length : Int) := by first | assumption | omega
        obtain ⟨ad382q, _, ha383q, -, -⟩ := Rds.elemAny hr363q.rds hi384q (gt_get (z := []) hi384q hi385q)
        refine WL.op' (m := 0) h378q rfl rfl ?_
        refine owp_run (v := .pointer (some (ad382q.add (x374q.toNat * 1)))) h378q rfl (by kernel_rfl) (run_idx (ad := ad382q) (sz := 1) rfl (by rw [← ha383q]; rfl) rfl Tryd.underlying49 (by kernel_rfl) hi384q hi385q) (fun a386q h387q => ?_)
        clear h378q a377q
        have hS388q : St b w0 W368q R ([(g361q, .cells ([.string (mkS ([97, 97, 97, 97] : List UInt8)), .string (mkS ([98, 98, 98, 98] : List UInt8)), .string (mkS ([99, 99, 99, 99] : List UInt8))] : List Value).toArray 9 (0, 0))] :: M372q :: Fs) := hS369q.bring 1 rfl rfl
        obtain ⟨ad389q, cs390q, ha391q, hr393q, hc392q⟩ := Rds.elemAny hr363q.rds hi384q (gt_get (z := []) hi384q hi385q)
        rw [ha383q] at ha391q; obtain rfl := Option.some.inj ha391q
        obtain rfl : cs390q = [.string (mkS (gt [] ([([97, 97, 97, 97] : List UInt8), ([98, 98, 98, 98] : List UInt8), ([99, 99, 99, 99] : List UInt8)] : List (List UInt8)) x374q))] := hr393q
        refine WL.op' (m := 1) h387q rfl rfl ?_
        refine owp_run (v := .string (mkS (gt [] ([([97, 97, 97, 97] : List UInt8), ([98, 98, 98, 98] : List UInt8), ([99, 99, 99, 99] : List UInt8)] : List (List UInt8)) x374q))) h387q rfl (by kernel_rfl) (run_load1 rfl rfl Tryd.underlying9 rfl (cell0 (hc392q _ (fun _ _ hk_ => (hS388q).pool.kn hk_)))) (fun a394q h395q => ?_)
        clear h387q a386q
        refine WL.block (c := 1) (m' := 3) h395q rfl [(3, .string (mkS (gt [] ([([97, 97, 97, 97] : List UInt8), ([98, 98, 98, 98] : List UInt8), ([99, 99, 99, 99] : List UInt8)] : List (List UInt8)) x374q)))] (by kernel_rfl) (fun a396q h397q => ?_)
        clear h395q a394q
        refine WL.done (by kernel_rfl) ?_
        refine WL.start ?_
        refine WL.block (c := 4) (m' := 4) h397q rfl [(18, .agg #[.string (mkS (gt [] ([([97, 97, 97, 97] : List UInt8), ([98, 98, 98, 98] : List UInt8), ([99, 99, 99, 99] : List UInt8)] : List (List UInt8)) x374q)), .string (mkS (gt [] ([([97, 97, 97, 97] : List UInt8), ([98, 98, 98, 98] : List UInt8), ([99, 99, 99, 99] : List UInt8)] : List (List UInt8)) x374q)), .bool false]), (17, .string (mkS (gt [] ([([97, 97, 97, 97] : List UInt8), ([98, 98, 98, 98] : List UInt8), ([99, 99, 99, 99] : List UInt8)] : List (List UInt8)) x374q))), (16, .string (mkS (gt [] ([([97, 97, 97, 97] : List UInt8), ([98, 98, 98, 98] : List UInt8), ([99, 99, 99, 99] : List UInt8)] : List (List UInt8)) x374q))), (15, v352q)] (by kernel_rfl) (fun a398q h399q => ?_)
        clear h397q a396q
        have hS400q : St b w0 W368q R (M372q :: [(g361q, .cells ([.string (mkS ([97, 97, 97, 97] : List UInt8)), .string (mkS ([98, 98, 98, 98] : List UInt8)), .string (mkS ([99, 99, 99, 99] : List UInt8))] : List Value).toArray 9 (0, 0))] :: Fs) := hS388q.bring 1 rfl rfl
        obtain ⟨r402q, A401q, H⟩ := bind1 H
        refine WL.op' (m := 4) h399q rfl rfl ?_
        refine owp_call [v352q, .agg #[.string (mkS (gt [] ([([97, 97, 97, 97] : List UInt8), ([98, 98, 98, 98] : List UInt8), ([99, 99, 99, 99] : List UInt8)] : List (List UInt8)) x374q)), .string (mkS (gt [] ([([97, 97, 97, 97] : List UInt8), ([98, 98, 98, 98] : List UInt8), ([99, 99, 99, 99] : List UInt8)] : List (List UInt8)) x374q)), .bool false]] h399q rfl (by kernel_rfl) rfl Tryd.func10 (by kernel_rfl) rfl (by kernel_rfl) (dyntable_Table_Add.calls (p1 := (⟨(gt [] ([([97, 97, 97, 97] : List UInt8), ([98, 98, 98, 98] : List UInt8), ([99, 99, 99, 99] : List UInt8)] : List (List UInt8)) x374q), (gt [] ([([97, 97, 97, 97] : List UInt8), ([98, 98, 98, 98] : List UInt8), ([99, 99, 99, 99] : List UInt8)] : List (List UInt8)) x374q), false⟩ : S29)) k376q hr373q A401q hS400q) (fun e404q W403q hp405q => ?_)
        obtain ⟨M408q, rfl, hr409q, hS410q⟩ := hp405q
        refine ⟨_, rfl, fun a406q h407q => ?_⟩
        clear h399q a398q
        refine WL.done (by kernel_rfl) ?_
        refine WL.start ?_
        refine WL.block (c := 2) (m' := 2) h407q rfl [(11, .int .i64 (IntKind.i64.wrap (x374q + 1))), (20, .int .i64 (IntKind.i64.wrap (x374q + 1)))] (by kernel_rfl) (fun a411q h412q => ?_)
        clear h407q a406q
        refine WL.done (by kernel_rfl) ?_
        exact ⟨k376q, by omega, r402q, M408q, IntKind.i64.wrap (x374q + 1), h412q.keep ⟨rfl, rfl, rfl, rfl, trivial⟩, ⟨H⟩, ⟨by omega⟩, ⟨hS410q⟩, ⟨hr409q⟩⟩
      · rw [if_neg c381q] at H
        cases H
    · rw [if_neg c380q] at H
      cases H
  · rw [if_neg c379q] at H
    have hb_ : (decide (x374q < 3)) = false := decide_eq_false c379q
    try rw [hb_] at h378q
    clear hb_
    refine wp_else h378q rfl ?_
    refine wp_exit ?_
    refine wp_seq ?_
    refine WL.start ?_
    refine WL.block (c := 1) (m' := 1) h378q rfl [(22, v352q)] (by kernel_rfl) (fun a413q h414q => ?_)
    clear h378q a377q
    obtain ⟨r416q, r417q, A415q, H⟩ := bind2 H
    refine WL.op' (m := 1) h414q rfl rfl ?_
    refine owp_call [v352q, .int .i64 62] h414q rfl (by kernel_rfl) rfl Tryd.func14 (by kernel_rfl) rfl (by kernel_rfl) (dyntable_Table_At.calls hr373q hg0 A415q hS369q) (fun e419q W418q hp420q => ?_)
    obtain ⟨M423q, rfl, hr424q, hS425q⟩ := hp420q
    refine ⟨_, rfl, fun a421q h422q => ?_⟩
    clear h414q a413q
    refine WL.block (c := 3) (m' := 5) h422q rfl [(25, .bool r417q), (24, .agg #[.string (mkS r416q.f0), .string (mkS r416q.f1), .bool r416q.f2]), (21, .tuple #[.agg #[.string (mkS r416q.f0), .string (mkS r416q.f1), .bool r416q.f2], .bool r417q])] (by kernel_rfl) (fun a426q h427q => ?_)
    clear h422q a421q
    refine WL.op' (m := 5) h427q rfl rfl ?_
    refine owp_new (fun g_ => .pointer (some ⟨g_, 0, none⟩)) (.cells ([.string (mkS ([] : List UInt8)), .string (mkS ([] : List UInt8)), .bool false] : List Value).toArray 29 (0, 0)) h427q rfl (by kernel_rfl) (by kernel_rfl) hS425q (fun a428q W430q g431q h429q hS432q => ?_)
    clear h427q a426q
    refine WL.op' (m := 6) h429q rfl rfl ?_
    refine owp_store (i := 0) (vs := ([.string (mkS r416q.f0), .string (mkS r416q.f1), .bool r416q.f2] : List Value)) h429q rfl (by kernel_rfl) rfl rfl rfl rfl (by simp [Value.oneCell']) (by kernel_rfl) hS432q (by simp) (cs' := ([.string (mkS r416q.f0), .string (mkS r416q.f1), .bool r416q.f2] : List Value)) rfl (fun a433q W435q h434q hS436q => ?_)
    clear h429q a428q
    refine WL.block (c := 1) (m' := 8) h434q rfl [(5, .bool r417q)] (by kernel_rfl) (fun a437q h438q => ?_)
    clear h434q a433q
    refine WL.done (by kernel_rfl) ?_
    refine wp_seq ?_
    refine WL.start ?_
    refine WL.block (c := 1) (m' := 1) h438q rfl [(27, v352q)] (by kernel_rfl) (fun a439q h440q => ?_)
    clear h438q a437q
    have hS441q : St b w0 W435q R (M423q :: [(g431q, .cells ([.string (mkS r416q.f0), .string (mkS r416q.f1), .bool r416q.f2] : List Value).toArray 29 (0, 0))] :: [(g361q, .cells ([.string (mkS ([97, 97, 97, 97] : List UInt8)), .string (mkS ([98, 98, 98, 98] : List UInt8)), .string (mkS ([99, 99, 99, 99] : List UInt8))] : List Value).toArray 9 (0, 0))] :: Fs) := hS436q.bring 1 rfl rfl
    obtain ⟨r443q, r444q, A442q, H⟩ := bind2 H
    refine WL.op' (m := 1) h440q rfl rfl ?_
    refine owp_call [v352q, .int .i64 64] h440q rfl (by kernel_rfl) rfl Tryd.func14 (by kernel_rfl) rfl (by kernel_rfl) (dyntable_Table_At.calls hr424q hg0 A442q hS441q) (fun e446q W445q hp447q => ?_)
    obtain ⟨M450q, rfl, hr451q, hS452q⟩ := hp447q
    refine ⟨_, rfl, fun a448q h449q => ?_⟩
    clear h440q a439q
    refine WL.block (c := 3) (m' := 5) h449q rfl [(30, .bool r444q), (29, .agg #[.string (mkS r443q.f0), .string (mkS r443q.f1), .bool r443q.f2]), (26, .tuple #[.agg #[.string (mkS r443q.f0), .string (mkS r443q.f1), .bool r443q.f2], .bool r444q])] (by kernel_rfl) (fun a453q h454q => ?_)
    clear h449q a448q
    refine WL.op' (m := 5) h454q rfl rfl ?_
    refine owp_new (fun g_ => .pointer (some ⟨g_, 0, none⟩)) (.cells ([.string (mkS ([] : List UInt8)), .string (mkS ([] : List UInt8)), .bool false] : List Value).toArray 29 (0, 0)) h454q rfl (by kernel_rfl) (by kernel_rfl) hS452q (fun a455q W457q g458q h456q hS459q => ?_)
    clear h454q a453q
    refine WL.op' (m := 6) h456q rfl rfl ?_
    refine owp_store (i := 0) (vs := ([.string (mkS r443q.f0), .string (mkS r443q.f1), .bool r443q.f2] : List Value)) h456q rfl (by kernel_rfl) rfl rfl rfl rfl (by simp [Value.oneCell']) (by kernel_rfl) hS459q (by simp) (cs' := ([.string (mkS r443q.f0), .string (mkS r443q.f1), .bool r443q.f2] : List Value)) rfl (fun a460q W462q h461q hS463q => ?_)
    clear h456q a455q
    refine WL.block (c := 1) (m' := 8) h461q rfl [(7, .bool r444q)] (by kernel_rfl) (fun a464q h465q => ?_)
    clear h461q a460q
    refine WL.done (by kernel_rfl) ?_
    refine wp_seq ?_
    refine WL.start ?_
    refine WL.block (c := 2) (m' := 2) h465q rfl [(32, .bool r417q), (31, .bool r417q)] (by kernel_rfl) (fun a466q h467q => ?_)
    clear h465q a464q
    by_cases c468q : r417q = true
    · rw [if_pos c468q] at H
      have hb_ : r417q = true := c468q
      try rw [hb_] at h467q
      clear hb_
      refine WL.op' (m := 2) h467q rfl rfl (owp_run h467q rfl (by kernel_rfl) (v := .pointer (some ⟨g431q, 0, none⟩)) (by kernel_rfl) (fun a469q h470q => ?_))
      clear h467q a466q
      have hS471q : St b w0 W462q R ([(g431q, .cells ([.string (mkS r416q.f0), .string (mkS r416q.f1), .bool r416q.f2] : List Value).toArray 29 (0, 0))] :: [(g458q, .cells ([.string (mkS r443q.f0), .string (mkS r443q.f1), .bool r443q.f2] : List Value).toArray 29 (0, 0))] :: M450q :: [(g361q, .cells ([.string (mkS ([97, 97, 97, 97] : List UInt8)), .string (mkS ([98, 98, 98, 98] : List UInt8)), .string (mkS ([99, 99, 99, 99] : List UInt8))] : List Value).toArray 9 (0, 0))] :: Fs) := hS463q.bring 2 rfl rfl
      refine WL.op' (m := 3) h470q rfl rfl ?_
      refine owp_run (v := .string (mkS r416q.f0)) h470q rfl (by kernel_rfl) (run_load1 rfl rfl Tryd.underlying9 rfl (hS471q.cell (i := 0) rfl)) (fun a472q h473q => ?_)
      clear h470q a469q
      refine WL.op' (m := 4) h473q rfl rfl ?_
      refine owp_run (v := .bool (decide (r416q.f0 = ([99, 99, 99, 99] : List UInt8)))) h473q rfl (by kernel_rfl) (run_streq rfl rfl rfl) (fun a474q h475q => ?_)
      clear h473q a472q
      refine WL.block (c := 2) (m' := 7) h475q rfl [(37, .bool (decide (r416q.f0 = ([99, 99, 99, 99] : List UInt8)))), (36, .bool (decide (r416q.f0 = ([99, 99, 99, 99] : List UInt8))))] (by kernel_rfl) (fun a476q h477q => ?_)
      clear h475q a474q
      by_cases c478q : r416q.f0 = ([99, 99, 99, 99] : List UInt8)
      · rw [if_pos c478q] at H
        have hb_ : (decide (r416q.f0 = ([99, 99, 99, 99] : List UInt8))) = true := decide_eq_true c478q
        try rw [hb_] at h477q
        clear hb_
        refine WL.op' (m := 7) h477q rfl rfl (owp_run h477q rfl (by kernel_rfl) (v := .bool r444q) (by kernel_rfl) (fun a479q h480q => ?_))
        clear h477q a476q
        refine WL.op' (m := 8) h480q rfl rfl (owp_run h480q rfl (by kernel_rfl) (v := .bool (!r444q)) (by kernel_rfl) (fun a481q h482q => ?_))
        clear h480q a479q
        refine WL.block (c := 2) (m' := 11) h482q rfl [(41, .bool (!r444q)), (40, .bool (!r444q))] (by kernel_rfl) (fun a483q h484q => ?_)
        clear h482q a481q
        by_cases c485q : r444q = true
        · rw [if_pos c485q] at H
          have hb_ : r444q = true := c485q
          try rw [hb_] at h484q
          clear hb_
          refine WL.skipped (m := 11) h484q rfl rfl (by kernel_rfl) rfl (fun a486q h487q => ?_)
          clear h484q a483q
          refine WL.skipped (m := 12) h487q rfl rfl (by kernel_rfl) rfl (fun a488q h489q => ?_)
          clear h487q a486q
          refine WL.skipped (m := 13) h489q rfl rfl (by kernel_rfl) rfl (fun a490q h491q => ?_)
          clear h489q a488q
          refine WL.block (c := 2) (m' := 16) h491q rfl [(46, .bool false), (45, .bool false)] (by kernel_rfl) (fun a492q h493q => ?_)
          clear h491q a490q
          refine WL.skipped (m := 16) h493q rfl rfl (by kernel_rfl) rfl (fun a494q h495q => ?_)
          clear h493q a492q
          refine WL.skipped (m := 17) h495q rfl rfl (by kernel_rfl) rfl (fun a496q h497q => ?_)
          clear h495q a494q
          refine WL.skipped (m := 18) h497q rfl rfl (by kernel_rfl) rfl (fun a498q h499q => ?_)
          clear h497q a496q
          refine WL.block (c := 2) (m' := 21) h499q rfl [(0, .bool false), (50, .bool false)] (by kernel_rfl) (fun a500q h501q => ?_)
          clear h499q a498q
          refine WL.done (by kernel_rfl) ?_
          refine wp_ret ?_
          have hS502q : St b w0 W462q R ([(g458q, .cells ([.string (mkS r443q.f0), .string (mkS r443q.f1), .bool r443q.f2] : List Value).toArray 29 (0, 0))] :: M450q :: [(g361q, .cells ([.string (mkS ([97, 97, 97, 97] : List UInt8)), .string (mkS ([98, 98, 98, 98] : List UInt8)), .string (mkS ([99, 99, 99, 99] : List UInt8))] : List Value).toArray 9 (0, 0))] :: Fs) := hS471q.drop_
          have hS503q : St b w0 W462q R (M450q :: [(g361q, .cells ([.string (mkS ([97, 97, 97, 97] : List UInt8)), .string (mkS ([98, 98, 98, 98] : List UInt8)), .string (mkS ([99, 99, 99, 99] : List UInt8))] : List Value).toArray 9 (0, 0))] :: Fs) := hS502q.drop_
          have hS504q : St b w0 W462q R ([(g361q, .cells ([.string (mkS ([97, 97, 97, 97] : List UInt8)), .string (mkS ([98, 98, 98, 98] : List UInt8)), .string (mkS ([99, 99, 99, 99] : List UInt8))] : List Value).toArray 9 (0, 0))] :: Fs) := hS503q.drop_
          have hS505q : St b w0 W462q R (Fs) := hS504q.drop_
          obtain rfl := Option.some.inj H
          repeat (first | refine then_ret ?_ | refine inBlock_ret ?_ | refine inBlock_go ?_)
          refine body_ret (v := .bool false) h501q (by kernel_rfl) (by kernel_rfl) ?_
          exact ⟨rfl, hS505q⟩
        · rw [if_neg c485q] at H
          have hb_ : r444q = false := (Bool.eq_false_iff.2 c485q)
          try rw [hb_] at h484q
          clear hb_
          refine WL.op' (m := 11) h484q rfl rfl (owp_run h484q rfl (by kernel_rfl) (v := v352q) (by kernel_rfl) (fun a506q h507q => ?_))
          clear h484q a483q
          have hS508q : St b w0 W462q R (M450q :: [(g431q, .cells ([.string (mkS r416q.f0), .string (mkS r416q.f1), .bool r416q.f2] : List Value).toArray 29 (0, 0))] :: [(g458q, .cells ([.string (mkS r443q.f0), .string (mkS r443q.f1), .bool r443q.f2] : List Value).toArray 29 (0, 0))] :: [(g361q, .cells ([.string (mkS ([97, 97, 97, 97] : List UInt8)), .string (mkS ([98, 98, 98, 98] : List UInt8)), .string (mkS ([99, 99, 99, 99] : List UInt8))] : List Value).toArray 9 (0, 0))] :: Fs) := hS471q.bring 2 rfl rfl
          obtain ⟨r510q, A509q, H⟩ := bind1 H
          refine WL.op' (m := 12) h507q rfl rfl ?_
          refine owp_call [v352q] h507q rfl (by kernel_rfl) rfl Tryd.func12 (by kernel_rfl) rfl (by kernel_rfl) (dyntable_Table_Size.calls hr451q A509q hS508q) (fun e512q W511q hp513q => ?_)
          obtain ⟨M516q, rfl, hr517q, hS518q⟩ := hp513q
          refine ⟨_, rfl, fun a514q h515q => ?_⟩
          clear h507q a506q
          refine WL.op' (m := 13) h515q rfl rfl (owp_run h515q rfl (by kernel_rfl) (v := .bool (decide (r510q = 80))) (by kernel_rfl) (fun a519q h520q => ?_))
          clear h515q a514q
          refine WL.block (c := 2) (m' := 16) h520q rfl [(46, .bool (decide (r510q = 80))), (45, .bool (decide (r510q = 80)))] (by kernel_rfl) (fun a521q h522q => ?_)
          clear h520q a519q
          by_cases c523q : r510q = 80
          · rw [if_pos c523q] at H
            have hb_ : (decide (r510q = 80)) = true := decide_eq_true c523q
            try rw [hb_] at h522q
            clear hb_
            refine WL.op' (m := 16) h522q rfl rfl (owp_run h522q rfl (by kernel_rfl) (v := v352q) (by kernel_rfl) (fun a524q h525q => ?_))
            clear h522q a521q
            obtain ⟨r527q, A526q, H⟩ := bind1 H
            refine WL.op' (m := 17) h525q rfl rfl ?_
            refine owp_call [v352q] h525q rfl (by kernel_rfl) rfl Tryd.func11 (by kernel_rfl) rfl (by kernel_rfl) (dyntable_Table_Len.calls hr517q A526q hS518q) (fun e529q W528q hp530q => ?_)
            obtain ⟨M533q, rfl, hr534q, hS535q⟩ := hp530q
            refine ⟨_, rfl, fun a531q h532q => ?_⟩
            clear h525q a524q
            refine WL.op' (m := 18) h532q rfl rfl (owp_run h532q rfl (by kernel_rfl) (v := .bool (decide (r527q = 2))) (by kernel_rfl) (fun a536q h537q => ?_))
            clear h532q a531q
            refine WL.block (c := 2) (m' := 21) h537q rfl [(0, .bool (decide (r527q = 2))), (50, .bool (decide (r527q = 2)))] (by kernel_rfl) (fun a538q h539q => ?_)
            clear h537q a536q
            refine WL.done (by kernel_rfl) ?_
            refine wp_ret ?_
            have hS540q : St b w0 W528q R ([(g431q, .cells ([.string (mkS r416q.f0), .string (mkS r416q.f1), .bool r416q.f2] : List Value).toArray 29 (0, 0))] :: [(g458q, .cells ([.string (mkS r443q.f0), .string (mkS r443q.f1), .bool r443q.f2] : List Value).toArray 29 (0, 0))] :: [(g361q, .cells ([.string (mkS ([97, 97, 97, 97] : List UInt8)), .string (mkS ([98, 98, 98, 98] : List UInt8)), .string (mkS ([99, 99, 99, 99] : List UInt8))] : List Value).toArray 9 (0, 0))] :: Fs) := hS535q.drop_
            have hS541q : St b w0 W528q R ([(g458q, .cells ([.string (mkS r443q.f0), .string (mkS r443q.f1), .bool r443q.f2] : List Value).toArray 29 (0, 0))] :: [(g361q, .cells ([.string (mkS ([97, 97, 97, 97] : List UInt8)), .string (mkS ([98, 98, 98, 98] : List UInt8)), .string (mkS ([99, 99, 99, 99] : List UInt8))] : List Value).toArray 9 (0, 0))] :: Fs) := hS540q.drop_
            have hS542q : St b w0 W528q R ([(g361q, .cells ([.string (mkS ([97, 97, 97, 97] : List UInt8)), .string (mkS ([98, 98, 98, 98] : List UInt8)), .string (mkS ([99, 99, 99, 99] : List UInt8))] : List Value).toArray 9 (0, 0))] :: Fs) := hS541q.drop_
            have hS543q : St b w0 W528q R (Fs) := hS542q.drop_
            obtain rfl := Option.some.inj H
            repeat (first | refine then_ret ?_ | refine inBlock_ret ?_ | refine inBlock_go ?_)
            refine body_ret (v := .bool (decide (r527q = 2))) h539q (by kernel_rfl) (by kernel_rfl) ?_
            exact ⟨rfl, hS543q⟩
          · rw [if_neg c523q] at H
            have hb_ : (decide (r510q = 80)) = false := decide_eq_false c523q
            try rw [hb_] at h522q
            clear hb_
            refine WL.skipped (m := 16) h522q rfl rfl (by kernel_rfl) rfl (fun a544q h545q => ?_)
            clear h522q a521q
            refine WL.skipped (m := 17) h545q rfl rfl (by kernel_rfl) rfl (fun a546q h547q => ?_)
            clear h545q a544q
            refine WL.skipped (m := 18) h547q rfl rfl (by kernel_rfl) rfl (fun a548q h549q => ?_)
            clear h547q a546q
            refine WL.block (c := 2) (m' := 21) h549q rfl [(0, .bool false), (50, .bool false)] (by kernel_rfl) (fun a550q h551q => ?_)
            clear h549q a548q
            refine WL.done (by kernel_rfl) ?_
            refine wp_ret ?_
            have hS552q : St b w0 W511q R ([(g431q, .cells ([.string (mkS r416q.f0), .string (mkS r416q.f1), .bool r416q.f2] : List Value).toArray 29 (0, 0))] :: [(g458q, .cells ([.string (mkS r443q.f0), .string (mkS r443q.f1), .bool r443q.f2] : List Value).toArray 29 (0, 0))] :: [(g361q, .cells ([.string (mkS ([97, 97, 97, 97] : List UInt8)), .string (mkS ([98, 98, 98, 98] : List UInt8)), .string (mkS ([99, 99, 99, 99] : List UInt8))] : List Value).toArray 9 (0, 0))] :: Fs) := hS518q.drop_
            have hS553q : St b w0 W511q R ([(g458q, .cells ([.string (mkS r443q.f0), .string (mkS r443q.f1), .bool r443q.f2] : List Value).toArray 29 (0, 0))] :: [(g361q, .cells ([.string (mkS ([97, 97, 97, 97] : List UInt8)), .string (mkS ([98, 98, 98, 98] : List UInt8)), .string (mkS ([99, 99, 99, 99] : List UInt8))] : List Value).toArray 9 (0, 0))] :: Fs) := hS552q.drop_
            have hS554q : St b w0 W511q R ([(g361q, .cells ([.string (mkS ([97, 97, 97, 97] : List UInt8)), .string (mkS ([98, 98, 98, 98] : List UInt8)), .string (mkS ([99, 99, 99, 99] : List UInt8))] : List Value).toArray 9 (0, 0))] :: Fs) := hS553q.drop_
            have hS555q : St b w0 W511q R (Fs) := hS554q.drop_
            obtain rfl := Option.some.inj H
            repeat (first | refine then_ret ?_ | refine inBlock_ret ?_ | refine inBlock_go ?_)
            refine body_ret (v := .bool false) h551q (by kernel_rfl) (by kernel_rfl) ?_
            exact ⟨rfl, hS555q⟩
      · rw [if_neg c478q] at H
        have hb_ : (decide (r416q.f0 = ([99, 99, 99, 99] : List UInt8))) = false := decide_eq_false c478q
        try rw [hb_] at h477q
        clear hb_
        refine WL.skipped (m := 7) h477q rfl rfl (by kernel_rfl) rfl (fun a556q h557q => ?_)
        clear h477q a476q
        refine WL.skipped (m := 8) h557q rfl rfl (by kernel_rfl) rfl (fun a558q h559q => ?_)
        clear h557q a556q
        refine WL.block (c := 2) (m' := 11) h559q rfl [(41, .bool false), (40, .bool false)] (by kernel_rfl) (fun a560q h561q => ?_)
        clear h559q a558q
        refine WL.skipped (m := 11) h561q rfl rfl (by kernel_rfl) rfl (fun a562q h563q => ?_)
        clear h561q a560q
        refine WL.skipped (m := 12) h563q rfl rfl (by kernel_rfl) rfl (fun a564q h565q => ?_)
        clear h563q a562q
        refine WL.skipped (m := 13) h565q rfl rfl (by kernel_rfl) rfl (fun a566q h567q => ?_)
        clear h565q a564q
        refine WL.block (c := 2) (m' := 16) h567q rfl [(46, .bool false), (45, .bool false)] (by kernel_rfl) (fun a568q h569q => ?_)
        clear h567q a566q
        refine WL.skipped (m := 16) h569q rfl rfl (by kernel_rfl) rfl (fun a570q h571q => ?_)
        clear h569q a568q
        refine WL.skipped (m := 17) h571q rfl rfl (by kernel_rfl) rfl (fun a572q h573q => ?_)
        clear h571q a570q
        refine WL.skipped (m := 18) h573q rfl rfl (by kernel_rfl) rfl (fun a574q h575q => ?_)
        clear h573q a572q
        refine WL.block (c := 2) (m' := 21) h575q rfl [(0, .bool false), (50, .bool false)] (by kernel_rfl) (fun a576q h577q => ?_)
        clear h575q a574q
        refine WL.done (by kernel_rfl) ?_
        refine wp_ret ?_
        have hS578q : St b w0 W462q R ([(g458q, .cells ([.string (mkS r443q.f0), .string (mkS r443q.f1), .bool r443q.f2] : List Value).toArray 29 (0, 0))] :: M450q :: [(g361q, .cells ([.string (mkS ([97, 97, 97, 97] : List UInt8)), .string (mkS ([98, 98, 98, 98] : List UInt8)), .string (mkS ([99, 99, 99, 99] : List UInt8))] : List Value).toArray 9 (0, 0))] :: Fs) := hS471q.drop_
        have hS579q : St b w0 W462q R (M450q :: [(g361q, .cells ([.string (mkS ([97, 97, 97, 97] : List UInt8)), .string (mkS ([98, 98, 98, 98] : List UInt8)), .string (mkS ([99, 99, 99, 99] : List UInt8))] : List Value).toArray 9 (0, 0))] :: Fs) := hS578q.drop_
        have hS580q : St b w0 W462q R ([(g361q, .cells ([.string (mkS ([97, 97, 97, 97] : List UInt8)), .string (mkS ([98, 98, 98, 98] : List UInt8)), .string (mkS ([99, 99, 99, 99] : List UInt8))] : List Value).toArray 9 (0, 0))] :: Fs) := hS579q.drop_
        have hS581q : St b w0 W462q R (Fs) := hS580q.drop_
        obtain rfl := Option.some.inj H
        repeat (first | refine then_ret ?_ | refine inBlock_ret ?_ | refine inBlock_go ?_)
        refine body_ret (v := .bool false) h577q (by kernel_rfl) (by kernel_rfl) ?_
        exact ⟨rfl, hS581q⟩
    · rw [if_neg c468q] at H
      have hb_ : r417q = false := (Bool.eq_false_iff.2 c468q)
      try rw [hb_] at h467q
      clear hb_
      refine WL.skipped (m := 2) h467q rfl rfl (by kernel_rfl) rfl (fun a582q h583q => ?_)
      clear h467q a466q
      refine WL.skipped (m := 3) h583q rfl rfl (by kernel_rfl) rfl (fun a584q h585q => ?_)
      clear h583q a582q
      refine WL.skipped (m := 4) h585q rfl rfl (by kernel_rfl) rfl (fun a586q h587q => ?_)
      clear h585q a584q
      refine WL.block (c := 2) (m' := 7) h587q rfl [(37, .bool false), (36, .bool false)] (by kernel_rfl) (fun a588q h589q => ?_)
      clear h587q a586q
      refine WL.skipped (m := 7) h589q rfl rfl (by kernel_rfl) rfl (fun a590q h591q => ?_)
      clear h589q a588q
      refine WL.skipped (m := 8) h591q rfl rfl (by kernel_rfl) rfl (fun a592q h593q => ?_)
      clear h591q a590q
      refine WL.block (c := 2) (m' := 11) h593q rfl [(41, .bool false), (40, .bool false)] (by kernel_rfl) (fun a594q h595q => ?_)
      clear h593q a592q
      refine WL.skipped (m := 11) h595q rfl rfl (by kernel_rfl) rfl (fun a596q h597q => ?_)
      clear h595q a594q
      refine WL.skipped (m := 12) h597q rfl rfl (by kernel_rfl) rfl (fun a598q h599q => ?_)
      clear h597q a596q
      refine WL.skipped (m := 13) h599q rfl rfl (by kernel_rfl) rfl (fun a600q h601q => ?_)
      clear h599q a598q
      refine WL.block (c := 2) (m' := 16) h601q rfl [(46, .bool false), (45, .bool false)] (by kernel_rfl) (fun a602q h603q => ?_)
      clear h601q a600q
      refine WL.skipped (m := 16) h603q rfl rfl (by kernel_rfl) rfl (fun a604q h605q => ?_)
      clear h603q a602q
      refine WL.skipped (m := 17) h605q rfl rfl (by kernel_rfl) rfl (fun a606q h607q => ?_)
      clear h605q a604q
      refine WL.skipped (m := 18) h607q rfl rfl (by kernel_rfl) rfl (fun a608q h609q => ?_)
      clear h607q a606q
      refine WL.block (c := 2) (m' := 21) h609q rfl [(0, .bool false), (50, .bool false)] (by kernel_rfl) (fun a610q h611q => ?_)
      clear h609q a608q
      refine WL.done (by kernel_rfl) ?_
      refine wp_ret ?_
      have hS612q : St b w0 W462q R (M450q :: [(g431q, .cells ([.string (mkS r416q.f0), .string (mkS r416q.f1), .bool r416q.f2] : List Value).toArray 29 (0, 0))] :: [(g361q, .cells ([.string (mkS ([97, 97, 97, 97] : List UInt8)), .string (mkS ([98, 98, 98, 98] : List UInt8)), .string (mkS ([99, 99, 99, 99] : List UInt8))] : List Value).toArray 9 (0, 0))] :: Fs) := hS463q.drop_
      have hS613q : St b w0 W462q R ([(g431q, .cells ([.string (mkS r416q.f0), .string (mkS r416q.f1), .bool r416q.f2] : List Value).toArray 29 (0, 0))] :: [(g361q, .cells ([.string (mkS ([97, 97, 97, 97] : List UInt8)), .string (mkS ([98, 98, 98, 98] : List UInt8)), .string (mkS ([99, 99, 99, 99] : List UInt8))] : List Value).toArray 9 (0, 0))] :: Fs) := hS612q.drop_
      have hS614q : St b w0 W462q R ([(g361q, .cells ([.string (mkS ([97, 97, 97, 97] : List UInt8)), .string (mkS ([98, 98, 98, 98] : List UInt8)), .string (mkS ([99, 99, 99, 99] : List UInt8))] : List Value).toArray 9 (0, 0))] :: Fs) := hS613q.drop_
      have hS615q : St b w0 W462q R (Fs) := hS614q.drop_
      obtain rfl := Option.some.inj H
      repeat (first | refine then_ret ?_ | refine inBlock_ret ?_ | refine inBlock_go ?_)
      refine body_ret (v := .bool false) h611q (by kernel_rfl) (by kernel_rfl) ?_
      exact ⟨rfl, hS615q⟩

/-! ### (*louver/dyntable.Table).Limit -/
def dyntable_Table_Limit.f (k : Nat) (p0 : S51) (p1 : Int) : Option (S51) := bnd1 (dyntable_Table_within.f k (⟨p0.f0, p0.f1, IntKind.i64.wrap p1⟩ : S51) 0) fun r88q => (some r88q)
set_option maxHeartbeats 2000000 in
set_option maxRecDepth 100000 in
theorem dyntable_Table_Limit.calls (k : Nat) {b : Nat} {w0 W : World} {R : Frag} {Fs : List Frag} {p0 : S51} {p1 : Int}  {v0 : Value} {M0 : Frag} {r0q : S51} (hp0 : Ptr k51 51 b w0 R v0 p0 M0) (H : dyntable_Table_Limit.f k p0 p1 = some r0q) (hS : St b w0 W R (M0 :: Fs)) :
    Calls Tryd.prog 13 ([v0, .int .u32 p1] : List Value).toArray W (fun e W' => ∃ (O0q : Frag), e = .returned (.tuple #[]) ∧ Ptr k51 51 b w0 R v0 r0q O0q ∧ St b w0 W' R (O0q :: Fs)) := by
  unfold dyntable_Table_Limit.f at H
  refine calls_enter Tryd.func13 rfl 13 rfl (by kernel_rfl) (fun a h => ?_)
  refine wp_seq ?_
  refine wp_seq ?_
  refine WL.start ?_
  refine WL.block (c := 1) (m' := 1) h rfl [(4, v0)] (by kernel_rfl) (fun a57q h58q => ?_)
  obtain ⟨g59q, cs60q, M61q, hv_, hM_, hr62q⟩ := hp0
  obtain ⟨v63q, M64q, rfl, hM2q, hr65q⟩ := k51qrep hr62q
  subst hM2q
  subst hM_
  subst hv_
  replace hr65q : Row k29 29 b w0 R v63q p0.f0 M61q := hr65q
  obtain ⟨A66q, c67q, rfl⟩ := hr65q.form
  have hS68q : St b w0 W R ([(g59q, .cells ([.slice A66q p0.f0.length c67q, .int .i64 p0.f1, .int .i64 p0.f2] : List Value).toArray 51 (0, 0))] :: M61q :: Fs) := hS.assoc (by simp only [List.flatten_cons, List.append_assoc, List.cons_append, List.nil_append, List.append_nil])
  refine WL.block (c := 1) (m' := 2) h58q rfl [(5, .bool false)] (by kernel_rfl) (fun a69q h70q => ?_)
  clear h58q a57q
  refine WL.done (by kernel_rfl) ?_
  refine wp_else h70q rfl ?_
  refine wp_skip ?_
  refine wp_seq ?_
  refine WL.start ?_
  refine WL.block (c := 5) (m' := 5) h70q rfl [(10, .pointer (some ⟨g59q, 2, none⟩)), (9, .pointer (some ⟨g59q, 0, none⟩)), (8, .int .i64 (IntKind.i64.wrap p1)), (7, .int .u32 p1), (6, .pointer (some ⟨g59q, 0, none⟩))] (by kernel_rfl) (fun a71q h72q => ?_)
  clear h70q a69q
  refine WL.op' (m := 5) h72q rfl rfl ?_
  refine owp_store (i := 2) (vs := ([.int .i64 (IntKind.i64.wrap p1)] : List Value)) h72q rfl (by kernel_rfl) rfl rfl rfl rfl (by simp [Value.oneCell']) (by kernel_rfl) hS68q (by simp) (cs' := ([.slice A66q p0.f0.length c67q, .int .i64 p0.f1, .int .i64 (IntKind.i64.wrap p1)] : List Value)) rfl (fun a73q W75q h74q hS76q => ?_)
  clear h72q a71q
  refine WL.done (by kernel_rfl) ?_
  refine WL.start ?_
  refine WL.block (c := 1) (m' := 1) h74q rfl [(11, .pointer (some ⟨g59q, 0, none⟩))] (by kernel_rfl) (fun a77q h78q => ?_)
  clear h74q a73q
  have hS79q : St b w0 W75q R (M61q :: [(g59q, .cells ([.slice A66q p0.f0.length c67q, .int .i64 p0.f1, .int .i64 (IntKind.i64.wrap p1)] : List Value).toArray 51 (0, 0))] :: Fs) := hS76q.bring 1 rfl rfl
  have hS80q : St b w0 W75q R ([(g59q, .cells ([.slice A66q p0.f0.length c67q, .int .i64 p0.f1, .int .i64 (IntKind.i64.wrap p1)] : List Value).toArray 51 (0, 0))] :: M61q :: Fs) := hS79q.bring 1 rfl rfl
  obtain ⟨M82q, hr81q, hM_⟩ := k51qmk (b := b) (w0 := w0) (R := R) (x := (⟨p0.f0, p0.f1, IntKind.i64.wrap p1⟩ : S51)) (gvf0 := hr65q)
  have hp83q : Ptr k51 51 b w0 R (.pointer (some ⟨g59q, 0, none⟩)) (⟨p0.f0, p0.f1, IntKind.i64.wrap p1⟩ : S51) ((g59q, .cells ([.slice A66q p0.f0.length c67q, .int .i64 p0.f1, .int .i64 (IntKind.i64.wrap p1)] : List Value).toArray 51 (0, 0)) :: M82q) := ⟨_, _, _, rfl, rfl, hr81q⟩
  rw [hM_] at hp83q
  have hS85q : St b w0 W75q R (((g59q, .cells ([.slice A66q p0.f0.length c67q, .int .i64 p0.f1, .int .i64 (IntKind.i64.wrap p1)] : List Value).toArray 51 (0, 0)) :: (M61q)) :: Fs) := hS80q.assoc (by simp only [List.flatten_cons, List.append_assoc, List.cons_append, List.nil_append, List.append_nil])
  obtain ⟨M86q, hM_⟩ : ∃ y : Frag, y = ((g59q, .cells ([.slice A66q p0.f0.length c67q, .int .i64 p0.f1, .int .i64 (IntKind.i64.wrap p1)] : List Value).toArray 51 (0, 0)) :: (M61q)) := ⟨_, rfl⟩
  rw [← hM_] at hp83q hS85q
  clear hM_
  obtain ⟨r88q, A87q, H⟩ := bind1 H
  refine WL.op' (m := 1) h78q rfl rfl ?_
  refine owp_call [.pointer (some ⟨g59q, 0, none⟩), .int .i64 0] h78q rfl (by kernel_rfl) rfl Tryd.func25 (by kernel_rfl) rfl (by kernel_rfl) (dyntable_Table_within.calls k hp83q A87q hS85q) (fun e90q W89q hp91q => ?_)
  obtain ⟨M94q, rfl, hr95q, hS96q⟩ := hp91q
  refine ⟨_, rfl, fun a92q h93q => ?_⟩
  clear h78q a77q
  refine WL.done (by kernel_rfl) ?_
  obtain rfl := Option.some.inj H
  repeat (first | refine then_go ?_ | refine inBlock_go ?_)
  refine body_end (v := .tuple #[]) h93q (by kernel_rfl) (by kernel_rfl) ?_
  exact ⟨M94q, rfl, hr95q, hS96q⟩

/-! ### (*louver/dyntable.Table).Limit -/
def dyntable_Table_Limit_nil.f (p1 : Int) : Option (Unit) := some ()
set_option maxHeartbeats 2000000 in
set_option maxRecDepth 100000 in
theorem dyntable_Table_Limit_nil.calls {b : Nat} {w0 W : World} {R : Frag} {Fs : List Frag} {p1 : Int}    (H : dyntable_Table_Limit_nil.f p1 = some ()) (hS : St b w0 W R (Fs)) :
    Calls Tryd.prog 13 ([.pointer none, .int .u32 p1] : List Value).toArray W (fun e W' => e = .returned (.tuple #[]) ∧ St b w0 W' R (Fs)) := by
  unfold dyntable_Table_Limit_nil.f at H
  refine calls_enter Tryd.func13 rfl 13 rfl (by kernel_rfl) (fun a h => ?_)
  refine wp_seq ?_
  refine wp_seq ?_
  refine WL.start ?_
  refine WL.block (c := 2) (m' := 2) h rfl [(5, .bool true), (4, .pointer none)] (by kernel_rfl) (fun a3q h4q => ?_)
  refine WL.done (by kernel_rfl) ?_
  refine wp_then h4q rfl ?_
  refine wp_ret ?_
  repeat (first | refine then_ret ?_ | refine inBlock_ret ?_ | refine inBlock_go ?_)
  refine body_ret (v := .tuple #[]) h4q (by kernel_rfl) (by kernel_rfl) ?_
  exact ⟨rfl, hS⟩
end Go.Proofs.YtgbkllnfjehfcaaDoor.Sl
