/- What the functions of this program compute, told as plain functions, and that the calls come to just that. Printed by this session's program; part 1. -/
import Derived.Test.YtinebjcfgmoniaaDoorProg
import Derived.Test.YtinebjcfgmoniaaDoorSlU
set_option linter.unusedVariables false
set_option linter.unusedSimpArgs false
set_option linter.unnecessarySimpa false
namespace Go.Proofs.YtinebjcfgmoniaaDoor.Sl
open Go Go.RowKit Go.Proofs.Sl
structure S52 where
  f0 : (List UInt8)
  f1 : (List UInt8)
  f2 : Bool
  deriving DecidableEq
def z52 : S52 := ⟨[], [], false⟩
def k52 : Kd S52 := kIso (kPair kStr (kPair kStr kBool)) (fun x : S52 => (x.f0, (x.f1, x.f2)))
theorem k52qflat : k52.Flat := kIso_flat (kPair_flat kStr_flat (kPair_flat kStr_flat kBool_flat))
theorem k52qind : k52.Ind := kIso_ind (kPair_ind kStr_ind (kPair_ind kStr_ind kBool_ind))
theorem k52qrd {b : Nat} {w0 : World} {R : Frag} {x : S52} {cs : List Value} (h : k52.rd b w0 R x cs) : cs = [.string (mkS x.f0), .string (mkS x.f1), .bool x.f2] := by
  obtain ⟨c1q, c2q, rfl, h3q, h4q⟩ := h
  obtain ⟨c5q, c6q, rfl, h7q, h8q⟩ := h4q
  obtain rfl := h3q
  obtain rfl := h7q
  obtain rfl := h8q
  exact rfl
theorem k52qrep {b : Nat} {w0 : World} {R : Frag} {x : S52} {cs : List Value} {M : Frag} (h : k52.rep b w0 R x cs M) : cs = [.string (mkS x.f0), .string (mkS x.f1), .bool x.f2] ∧ M = [] := by
  obtain ⟨c9q, c10q, M13q, M14q, rfl, rfl, h11q, h12q⟩ := h
  obtain ⟨c15q, c16q, M19q, M20q, rfl, rfl, h17q, h18q⟩ := h12q
  obtain ⟨rfl, rfl⟩ := h11q
  obtain ⟨rfl, rfl⟩ := h17q
  obtain ⟨rfl, rfl⟩ := h18q
  exact ⟨rfl, by simp⟩
theorem k52qno {b : Nat} {w0 : World} {R : Frag} {x : S52} {cs : List Value} {M : Frag} (h : k52.rep b w0 R x cs M) : M = [] := by
  obtain ⟨_, hM_⟩ := k52qrep h
  exact hM_
theorem k52qmk {b : Nat} {w0 : World} {R : Frag} {x : S52}  : ∃ M, k52.rep b w0 R x [.string (mkS x.f0), .string (mkS x.f1), .bool x.f2] M ∧ M = [] := ⟨_, ⟨_, _, _, _, rfl, rfl, ⟨rfl, rfl⟩, ⟨_, _, _, _, rfl, rfl, ⟨rfl, rfl⟩, ⟨rfl, rfl⟩⟩⟩, by simp⟩
/-! ### louver/louverref05.Great -/
def louverref05qGreat.l0 : Nat → Int → Int → (List S52) → Option (Bool)
  | 0, _, _, _ => none
  | k + 1, x434q, x435q, p0 => if x435q < (p0.length : Int) then (if 0 ≤ x435q then (if (IntKind.i64.wrap (x434q + (IntKind.i64.wrap ((IntKind.i64.wrap (1 + (mnI (((gt z52 p0 x435q).f0).length : Int) 9000))) + (mnI (((gt z52 p0 x435q).f1).length : Int) 9000))))) > 9000 then (some true) else (louverref05qGreat.l0 k (IntKind.i64.wrap (x434q + (IntKind.i64.wrap ((IntKind.i64.wrap (1 + (mnI (((gt z52 p0 x435q).f0).length : Int) 9000))) + (mnI (((gt z52 p0 x435q).f1).length : Int) 9000))))) (IntKind.i64.wrap (x435q + 1)) p0)) else (none)) else (some false)
def louverref05qGreat.f (k : Nat) (p0 : (List S52)) : Option (Bool) := louverref05qGreat.l0 k 0 0 p0
set_option maxHeartbeats 2000000 in
set_option maxRecDepth 100000 in
theorem louverref05qGreat.calls (k : Nat) {b : Nat} {w0 W : World} {R : Frag} {Fs : List Frag} {p0 : (List S52)} {v0 : Value} {r0q : Bool} (hp0 : Rds k52 b w0 R v0 p0) (H : louverref05qGreat.f k p0 = some r0q) (hS : St b w0 W R (Fs)) :
    Calls Tryd.prog 9 ([v0] : List Value).toArray W (fun e W' => e = .returned (.bool r0q) ∧ St b w0 W' R (Fs)) := by
  obtain ⟨A0, c0, rfl⟩ := hp0.form
  unfold louverref05qGreat.f at H
  refine calls_enter Tryd.func9 rfl 31 rfl (by kernel_rfl) (fun a h => ?_)
  refine wp_seq ?_
  refine WL.start ?_
  refine WL.block (c := 1) (m' := 1) h rfl [(2, .bool false)] (by kernel_rfl) (fun a423q h424q => ?_)
  refine WL.done (by kernel_rfl) ?_
  refine wp_seq ?_
  refine WL.start ?_
  refine WL.block (c := 1) (m' := 1) h424q rfl [(3, .int .i64 0)] (by kernel_rfl) (fun a425q h426q => ?_)
  clear h424q a423q
  refine WL.done (by kernel_rfl) ?_
  refine wp_seq ?_
  refine wp_seq ?_
  refine WL.start ?_
  refine WL.block (c := 3) (m' := 3) h426q rfl [(7, .int .i64 0), (6, .int .i64 (p0.length : Int)), (5, .slice A0 p0.length c0)] (by kernel_rfl) (fun a427q h428q => ?_)
  clear h426q a425q
  refine WL.done (by kernel_rfl) ?_
  refine wp_block ?_
  refine wp_loop_ghost (fun kq_ a_ W_ => ∃ (x434q : Int), ∃ (x435q : Int), Hd a_ 31 [(0, .slice A0 p0.length c0), (3, .int .i64 x434q), (6, .int .i64 (p0.length : Int)), (7, .int .i64 x435q)] ∧ Asd (louverref05qGreat.l0 kq_ x434q x435q p0 = some r0q) ∧ Asd (kq_ ≤ k) ∧ Asd (St b w0 W_ R (Fs))) k ⟨0, 0, h428q.keep ⟨rfl, rfl, rfl, rfl, trivial⟩, ⟨H⟩, ⟨Nat.le_refl _⟩, ⟨hS⟩⟩ ?_
  clear H hS
  rintro k433q a430q W431q ⟨x434q, x435q, h429q, ⟨H⟩, ⟨hkk433q⟩, ⟨hS432q⟩⟩
  obtain _ | k436q := k433q
  · exact absurd H (by simp [louverref05qGreat.l0])
  simp only [louverref05qGreat.l0] at H
  refine wp_seq ?_
  refine WL.start ?_
  refine WL.block (c := 1) (m' := 1) h429q rfl [(8, .bool (decide (x435q < (p0.length : Int))))] (by kernel_rfl) (fun a437q h438q => ?_)
  clear h429q a430q
  refine WL.done (by kernel_rfl) ?_
  refine wp_seq ?_
  by_cases c439q : x435q < (p0.length : Int)
  · rw [if_pos c439q] at H
    have hb_ : (decide (x435q < (p0.length : Int))) = true := decide_eq_true c439q
    try rw [hb_] at h438q
    clear hb_
    refine wp_then h438q rfl ?_
    refine wp_skip ?_
    refine wp_seq ?_
    refine wp_block ?_
    refine wp_seq ?_
    refine WL.start ?_
    refine WL.block (c := 2) (m' := 2) h438q rfl [(4, .int .i64 x435q), (9, .int .i64 x435q)] (by kernel_rfl) (fun a440q h441q => ?_)
    clear h438q a437q
    refine WL.done (by kernel_rfl) ?_
    refine wp_seq ?_
    refine WT.start 19 (fun w_ => (∀ a_ u_, Kn b w0 R a_ u_ → w_.cell? a_ = some u_) ∧ True) (by kernel_rfl) #[false, false, false, false, false, false, false, false, false, false, false, false, false, false, false, false, false, false, false] 19 rfl rfl ?_
    have hS556q := hS432q.drew
    refine WT.take 0 (listed' := #[true, false, false, false, false, false, false, false, false, false, false, false, false, false, false, false, false, false, false]) h441q rfl rfl (by kernel_rfl) rfl rfl (.int .i64 x434q) (fun _ _ => by kernel_rfl) ⟨(fun _ _ hk_ => hS556q.kn hk_), trivial⟩ (fun _ _ _ h_ => h_) (fun a557q h558q => ?_)
    clear h441q a440q
    refine WT.take 1 (listed' := #[true, true, false, false, false, false, false, false, false, false, false, false, false, false, false, false, false, false, false]) h558q rfl rfl (by kernel_rfl) rfl rfl (.slice A0 p0.length c0) (fun _ _ => by kernel_rfl) ⟨(fun _ _ hk_ => hS556q.kn hk_), trivial⟩ (fun _ _ _ h_ => h_) (fun a559q h560q => ?_)
    clear h558q a557q
    refine WT.take 2 (listed' := #[true, true, true, false, false, false, false, false, false, false, false, false, false, false, false, false, false, false, false]) h560q rfl rfl (by kernel_rfl) rfl rfl (.int .i64 x435q) (fun _ _ => by kernel_rfl) ⟨(fun _ _ hk_ => hS556q.kn hk_), trivial⟩ (fun _ _ _ h_ => h_) (fun a561q h562q => ?_)
    clear h560q a559q
    refine WT.take 9 (listed' := #[true, true, true, false, false, false, false, false, false, true, false, false, false, false, false, false, false, false, false]) h562q rfl rfl (by kernel_rfl) rfl rfl (.slice A0 p0.length c0) (fun _ _ => by kernel_rfl) ⟨(fun _ _ hk_ => hS556q.kn hk_), trivial⟩ (fun _ _ _ h_ => h_) (fun a563q h564q => ?_)
    clear h562q a561q
    refine WT.take 10 (listed' := #[true, true, true, false, false, false, false, false, false, true, true, false, false, false, false, false, false, false, false]) h564q rfl rfl (by kernel_rfl) rfl rfl (.int .i64 x435q) (fun _ _ => by kernel_rfl) ⟨(fun _ _ hk_ => hS556q.kn hk_), trivial⟩ (fun _ _ _ h_ => h_) (fun a565q h566q => ?_)
    clear h564q a563q
    by_cases c567q : 0 ≤ x435q
    · rw [if_pos c567q] at H
      have hi570q : 0 ≤ x435q := by first | assumption | omega
      have hi571q : x435q < (p0.length : Int) := by first | assumption | omega
      obtain ⟨ad568q, _, ha569q, -, -⟩ := Rds.elemAny hp0 hi570q (gt_get (z := z52) hi570q hi571q)
      refine WT.take 3 (listed' := #[true, true, true, true, false, false, false, false, false, true, true, false, false, false, false, false, false, false, false]) h566q rfl rfl (by kernel_rfl) rfl rfl (.pointer (some (ad568q.add (x435q.toNat * 3)))) (fun w_ hs_ => (run_idx (ad := ad568q) (sz := 3) rfl (by rw [← ha569q]; rfl) rfl Tryd.underlying23 (by kernel_rfl) hi570q hi571q)) ⟨(fun _ _ hk_ => hS556q.kn hk_), trivial⟩ (fun _ _ _ h_ => h_) (fun a572q h573q => ?_)
      clear h566q a565q
      refine WT.take 4 (listed' := #[true, true, true, true, true, false, false, false, false, true, true, false, false, false, false, false, false, false, false]) h573q rfl rfl (by kernel_rfl) rfl rfl (.pointer (some ((ad568q.add (x435q.toNat * 3)).add 0))) (fun _ _ => by kernel_rfl) ⟨(fun _ _ hk_ => hS556q.kn hk_), trivial⟩ (fun _ _ _ h_ => h_) (fun a574q h575q => ?_)
      clear h573q a572q
      obtain ⟨ad576q, cs577q, ha578q, hr580q, hc579q⟩ := Rds.elemAny hp0 hi570q (gt_get (z := z52) hi570q hi571q)
      rw [ha569q] at ha578q; obtain rfl := Option.some.inj ha578q
      obtain rfl := k52qrd hr580q
      refine WT.take 5 (listed' := #[true, true, true, true, true, true, false, false, false, true, true, false, false, false, false, false, false, false, false]) h575q rfl rfl (by kernel_rfl) rfl rfl (.string (mkS ((gt z52 p0 x435q).f0))) (fun w_ hs_ => (run_load1 rfl rfl Tryd.underlying9 rfl (hc579q _ hs_.1 0 _ rfl))) ⟨(fun _ _ hk_ => hS556q.kn hk_), trivial⟩ (fun _ _ _ h_ => h_) (fun a581q h582q => ?_)
      clear h575q a574q
      refine WT.take 6 (listed' := #[true, true, true, true, true, true, true, false, false, true, true, false, false, false, false, false, false, false, false]) h582q rfl rfl (by kernel_rfl) rfl rfl (.int .i64 (((gt z52 p0 x435q).f0).length : Int)) (fun _ _ => by kernel_rfl) ⟨(fun _ _ hk_ => hS556q.kn hk_), trivial⟩ (fun _ _ _ h_ => h_) (fun a583q h584q => ?_)
      clear h582q a581q
      refine WT.take 7 (listed' := #[true, true, true, true, true, true, true, true, false, true, true, false, false, false, false, false, false, false, false]) h584q rfl rfl (by kernel_rfl) rfl rfl (.int .i64 (mnI (((gt z52 p0 x435q).f0).length : Int) 9000)) (fun _ _ => by kernel_rfl) ⟨(fun _ _ hk_ => hS556q.kn hk_), trivial⟩ (fun _ _ _ h_ => h_) (fun a585q h586q => ?_)
      clear h584q a583q
      refine WT.take 8 (listed' := #[true, true, true, true, true, true, true, true, true, true, true, false, false, false, false, false, false, false, false]) h586q rfl rfl (by kernel_rfl) rfl rfl (.int .i64 (IntKind.i64.wrap (1 + (mnI (((gt z52 p0 x435q).f0).length : Int) 9000)))) (fun _ _ => by kernel_rfl) ⟨(fun _ _ hk_ => hS556q.kn hk_), trivial⟩ (fun _ _ _ h_ => h_) (fun a587q h588q => ?_)
      clear h586q a585q
      have hi591q : 0 ≤ x435q := by first | assumption | omega
      have hi592q : x435q < (p0.length : Int) := by first | assumption | omega
      obtain ⟨ad589q, _, ha590q, -, -⟩ := Rds.elemAny hp0 hi591q (gt_get (z := z52) hi591q hi592q)
      refine WT.take 11 (listed' := #[true, true, true, true, true, true, true, true, true, true, true, true, false, false, false, false, false, false, false]) h588q rfl rfl (by kernel_rfl) rfl rfl (.pointer (some (ad589q.add (x435q.toNat * 3)))) (fun w_ hs_ => (run_idx (ad := ad589q) (sz := 3) rfl (by rw [← ha590q]; rfl) rfl Tryd.underlying23 (by kernel_rfl) hi591q hi592q)) ⟨(fun _ _ hk_ => hS556q.kn hk_), trivial⟩ (fun _ _ _ h_ => h_) (fun a593q h594q => ?_)
      clear h588q a587q
      refine WT.take 12 (listed' := #[true, true, true, true, true, true, true, true, true, true, true, true, true, false, false, false, false, false, false]) h594q rfl rfl (by kernel_rfl) rfl rfl (.pointer (some ((ad589q.add (x435q.toNat * 3)).add 1))) (fun _ _ => by kernel_rfl) ⟨(fun _ _ hk_ => hS556q.kn hk_), trivial⟩ (fun _ _ _ h_ => h_) (fun a595q h596q => ?_)
      clear h594q a593q
      obtain ⟨ad597q, cs598q, ha599q, hr601q, hc600q⟩ := Rds.elemAny hp0 hi591q (gt_get (z := z52) hi591q hi592q)
      rw [ha590q] at ha599q; obtain rfl := Option.some.inj ha599q
      obtain rfl := k52qrd hr601q
      refine WT.take 13 (listed' := #[true, true, true, true, true, true, true, true, true, true, true, true, true, true, false, false, false, false, false]) h596q rfl rfl (by kernel_rfl) rfl rfl (.string (mkS ((gt z52 p0 x435q).f1))) (fun w_ hs_ => (run_load1 rfl rfl Tryd.underlying9 rfl (hc600q _ hs_.1 1 _ rfl))) ⟨(fun _ _ hk_ => hS556q.kn hk_), trivial⟩ (fun _ _ _ h_ => h_) (fun a602q h603q => ?_)
      clear h596q a595q
      refine WT.take 14 (listed' := #[true, true, true, true, true, true, true, true, true, true, true, true, true, true, true, false, false, false, false]) h603q rfl rfl (by kernel_rfl) rfl rfl (.int .i64 (((gt z52 p0 x435q).f1).length : Int)) (fun _ _ => by kernel_rfl) ⟨(fun _ _ hk_ => hS556q.kn hk_), trivial⟩ (fun _ _ _ h_ => h_) (fun a604q h605q => ?_)
      clear h603q a602q
      refine WT.take 15 (listed' := #[true, true, true, true, true, true, true, true, true, true, true, true, true, true, true, true, false, false, false]) h605q rfl rfl (by kernel_rfl) rfl rfl (.int .i64 (mnI (((gt z52 p0 x435q).f1).length : Int) 9000)) (fun _ _ => by kernel_rfl) ⟨(fun _ _ hk_ => hS556q.kn hk_), trivial⟩ (fun _ _ _ h_ => h_) (fun a606q h607q => ?_)
      clear h605q a604q
      refine WT.take 16 (listed' := #[true, true, true, true, true, true, true, true, true, true, true, true, true, true, true, true, true, false, false]) h607q rfl rfl (by kernel_rfl) rfl rfl (.int .i64 (IntKind.i64.wrap ((IntKind.i64.wrap (1 + (mnI (((gt z52 p0 x435q).f0).length : Int) 9000))) + (mnI (((gt z52 p0 x435q).f1).length : Int) 9000)))) (fun _ _ => by kernel_rfl) ⟨(fun _ _ hk_ => hS556q.kn hk_), trivial⟩ (fun _ _ _ h_ => h_) (fun a608q h609q => ?_)
      clear h607q a606q
      refine WT.take 17 (listed' := #[true, true, true, true, true, true, true, true, true, true, true, true, true, true, true, true, true, true, false]) h609q rfl rfl (by kernel_rfl) rfl rfl (.int .i64 (IntKind.i64.wrap (x434q + (IntKind.i64.wrap ((IntKind.i64.wrap (1 + (mnI (((gt z52 p0 x435q).f0).length : Int) 9000))) + (mnI (((gt z52 p0 x435q).f1).length : Int) 9000)))))) (fun _ _ => by kernel_rfl) ⟨(fun _ _ hk_ => hS556q.kn hk_), trivial⟩ (fun _ _ _ h_ => h_) (fun a610q h611q => ?_)
      clear h609q a608q
      refine WT.take 18 (listed' := #[true, true, true, true, true, true, true, true, true, true, true, true, true, true, true, true, true, true, true]) h611q rfl rfl (by kernel_rfl) rfl rfl (.int .i64 (IntKind.i64.wrap (x434q + (IntKind.i64.wrap ((IntKind.i64.wrap (1 + (mnI (((gt z52 p0 x435q).f0).length : Int) 9000))) + (mnI (((gt z52 p0 x435q).f1).length : Int) 9000)))))) (fun _ _ => by kernel_rfl) ⟨(fun _ _ hk_ => hS556q.kn hk_), trivial⟩ (fun _ _ _ h_ => h_) (fun a612q h613q => ?_)
      clear h611q a610q
      refine WT.done (by kernel_rfl) ?_
      refine wp_seq ?_
      refine WL.start ?_
      refine WL.block (c := 2) (m' := 2) h613q rfl [(29, .bool (decide ((IntKind.i64.wrap (x434q + (IntKind.i64.wrap ((IntKind.i64.wrap (1 + (mnI (((gt z52 p0 x435q).f0).length : Int) 9000))) + (mnI (((gt z52 p0 x435q).f1).length : Int) 9000))))) > 9000))), (28, .int .i64 (IntKind.i64.wrap (x434q + (IntKind.i64.wrap ((IntKind.i64.wrap (1 + (mnI (((gt z52 p0 x435q).f0).length : Int) 9000))) + (mnI (((gt z52 p0 x435q).f1).length : Int) 9000))))))] (by kernel_rfl) (fun a614q h615q => ?_)
      clear h613q a612q
      refine WL.done (by kernel_rfl) ?_
      by_cases c616q : (IntKind.i64.wrap (x434q + (IntKind.i64.wrap ((IntKind.i64.wrap (1 + (mnI (((gt z52 p0 x435q).f0).length : Int) 9000))) + (mnI (((gt z52 p0 x435q).f1).length : Int) 9000))))) > 9000
      · rw [if_pos c616q] at H
        have hb_ : (decide ((IntKind.i64.wrap (x434q + (IntKind.i64.wrap ((IntKind.i64.wrap (1 + (mnI (((gt z52 p0 x435q).f0).length : Int) 9000))) + (mnI (((gt z52 p0 x435q).f1).length : Int) 9000))))) > 9000)) = true := decide_eq_true c616q
        try rw [hb_] at h615q
        clear hb_
        refine wp_then h615q rfl ?_
        refine wp_seq ?_
        refine WL.start ?_
        refine WL.block (c := 1) (m' := 1) h615q rfl [(2, .bool true)] (by kernel_rfl) (fun a617q h618q => ?_)
        clear h615q a614q
        refine WL.done (by kernel_rfl) ?_
        refine wp_ret ?_
        obtain rfl := Option.some.inj H
        repeat (first | refine then_ret ?_ | refine inBlock_ret ?_ | refine inBlock_go ?_)
        refine body_ret (v := .bool true) h618q (by kernel_rfl) (by kernel_rfl) ?_
        exact ⟨rfl, hS556q⟩
      · rw [if_neg c616q] at H
        have hb_ : (decide ((IntKind.i64.wrap (x434q + (IntKind.i64.wrap ((IntKind.i64.wrap (1 + (mnI (((gt z52 p0 x435q).f0).length : Int) 9000))) + (mnI (((gt z52 p0 x435q).f1).length : Int) 9000))))) > 9000)) = false := decide_eq_false c616q
        try rw [hb_] at h615q
        clear hb_
        refine wp_else h615q rfl ?_
        refine wp_skip ?_
        refine WL.start ?_
        refine WL.block (c := 2) (m' := 2) h615q rfl [(7, .int .i64 (IntKind.i64.wrap (x435q + 1))), (30, .int .i64 (IntKind.i64.wrap (x435q + 1)))] (by kernel_rfl) (fun a619q h620q => ?_)
        clear h615q a614q
        refine WL.done (by kernel_rfl) ?_
        exact ⟨k436q, by omega, IntKind.i64.wrap (x434q + (IntKind.i64.wrap ((IntKind.i64.wrap (1 + (mnI (((gt z52 p0 x435q).f0).length : Int) 9000))) + (mnI (((gt z52 p0 x435q).f1).length : Int) 9000)))), IntKind.i64.wrap (x435q + 1), h620q.keep ⟨rfl, rfl, rfl, rfl, trivial⟩, ⟨H⟩, ⟨by omega⟩, ⟨hS556q⟩⟩
    · rw [if_neg c567q] at H
      cases H
  · rw [if_neg c439q] at H
    have hb_ : (decide (x435q < (p0.length : Int))) = false := decide_eq_false c439q
    try rw [hb_] at h438q
    clear hb_
    refine wp_else h438q rfl ?_
    refine wp_exit ?_
    refine wp_seq ?_
    refine WL.start ?_
    refine WL.block (c := 1) (m' := 1) h438q rfl [(2, .bool false)] (by kernel_rfl) (fun a621q h622q => ?_)
    clear h438q a437q
    refine WL.done (by kernel_rfl) ?_
    refine wp_ret ?_
    obtain rfl := Option.some.inj H
    repeat (first | refine then_ret ?_ | refine inBlock_ret ?_ | refine inBlock_go ?_)
    refine body_ret (v := .bool false) h622q (by kernel_rfl) (by kernel_rfl) ?_
    exact ⟨rfl, hS432q⟩

structure S79 where
  f0 : (List S52)
  f1 : Int
  f2 : Int
  deriving DecidableEq
def z79 : S79 := ⟨[], (0 : Int), (0 : Int)⟩
def k79 : Kd S79 := kIso (kPair (kRow k52 52) (kPair (kInt .i64) (kInt .i64))) (fun x : S79 => (x.f0, (x.f1, x.f2)))
theorem k79qind : k79.Ind := kIso_ind (kPair_ind (kRow_ind k52qind) (kPair_ind (kInt_ind _) (kInt_ind _)))
theorem k79qrd {b : Nat} {w0 : World} {R : Frag} {x : S79} {cs : List Value} (h : k79.rd b w0 R x cs) : ∃ (vf0 : Value), cs = [vf0, .int .i64 x.f1, .int .i64 x.f2] ∧ Rds k52 b w0 R vf0 x.f0 := by
  obtain ⟨c1q, c2q, rfl, h3q, h4q⟩ := h
  obtain ⟨c5q, c6q, rfl, h7q, h8q⟩ := h4q
  obtain ⟨v9q, rfl, g10q⟩ := h3q
  obtain rfl := h7q
  obtain rfl := h8q
  exact ⟨v9q, rfl, g10q⟩
theorem k79qrep {b : Nat} {w0 : World} {R : Frag} {x : S79} {cs : List Value} {M : Frag} (h : k79.rep b w0 R x cs M) : ∃ (vf0 : Value), ∃ (Mvf0 : Frag), cs = [vf0, .int .i64 x.f1, .int .i64 x.f2] ∧ M = Mvf0 ∧ Row k52 52 b w0 R vf0 x.f0 Mvf0 := by
  obtain ⟨c11q, c12q, M15q, M16q, rfl, rfl, h13q, h14q⟩ := h
  obtain ⟨c17q, c18q, M21q, M22q, rfl, rfl, h19q, h20q⟩ := h14q
  obtain ⟨v23q, rfl, g24q⟩ := h13q
  obtain ⟨rfl, rfl⟩ := h19q
  obtain ⟨rfl, rfl⟩ := h20q
  exact ⟨v23q, _, rfl, by simp, g24q⟩
theorem k79qmk {b : Nat} {w0 : World} {R : Frag} {x : S79} {vf0 : Value} {Mvf0 : Frag} (gvf0 : Row k52 52 b w0 R vf0 x.f0 Mvf0) : ∃ M, k79.rep b w0 R x [vf0, .int .i64 x.f1, .int .i64 x.f2] M ∧ M = Mvf0 := ⟨_, ⟨_, _, _, _, rfl, rfl, ⟨vf0, rfl, gvf0⟩, ⟨_, _, _, _, rfl, rfl, ⟨rfl, rfl⟩, ⟨rfl, rfl⟩⟩⟩, by simp⟩
/-! ### louver/dyntable.New -/
def dyntable_New.f (p0 : Int) : Option (S79) := some (⟨([] : List S52), 0, IntKind.i64.wrap p0⟩ : S79)
set_option maxHeartbeats 2000000 in
set_option maxRecDepth 100000 in
theorem dyntable_New.calls {b : Nat} {w0 W : World} {R : Frag} {Fs : List Frag} {p0 : Int}  {r0q : S79}  (H : dyntable_New.f p0 = some r0q) (hS : St b w0 W R (Fs)) :
    Calls Tryd.prog 30 ([.int .u32 p0] : List Value).toArray W (fun e W' => ∃ (u0q : Value) (N0q : Frag), e = .returned (u0q) ∧ Ptr k79 79 b w0 R u0q r0q N0q ∧ St b w0 W' R (N0q :: Fs)) := by
  unfold dyntable_New.f at H
  refine calls_enter Tryd.func30 rfl 7 rfl (by kernel_rfl) (fun a h => ?_)
  refine wp_seq ?_
  refine WL.start ?_
  refine WL.block (c := 1) (m' := 1) h rfl [(2, .pointer none)] (by kernel_rfl) (fun a42q h43q => ?_)
  refine WL.done (by kernel_rfl) ?_
  refine wp_seq ?_
  refine WL.start ?_
  refine WL.block (c := 3) (m' := 3) h43q rfl [(5, .agg #[.slice none 0 0, .int .i64 0, .int .i64 (IntKind.i64.wrap p0)]), (4, .int .i64 (IntKind.i64.wrap p0)), (3, .int .u32 p0)] (by kernel_rfl) (fun a44q h45q => ?_)
  clear h43q a42q
  refine WL.op' (m := 3) h45q rfl rfl ?_
  refine owp_new (fun g_ => .pointer (some ⟨g_, 0, none⟩)) (.cells ([.slice none 0 0, .int .i64 0, .int .i64 (IntKind.i64.wrap p0)] : List Value).toArray 79 (0, 0)) h45q rfl (by kernel_rfl) (by kernel_rfl) hS (fun a46q W48q g49q h47q hS50q => ?_)
  clear h45q a44q
  refine WL.block (c := 1) (m' := 5) h47q rfl [(2, .pointer (some ⟨g49q, 0, none⟩))] (by kernel_rfl) (fun a51q h52q => ?_)
  clear h47q a46q
  refine WL.done (by kernel_rfl) ?_
  refine wp_ret ?_
  obtain ⟨M54q, hr53q, hM_⟩ := k79qmk (b := b) (w0 := w0) (R := R) (x := (⟨([] : List S52), 0, IntKind.i64.wrap p0⟩ : S79)) (gvf0 := Row.nil)
  have hp55q : Ptr k79 79 b w0 R (.pointer (some ⟨g49q, 0, none⟩)) (⟨([] : List S52), 0, IntKind.i64.wrap p0⟩ : S79) ((g49q, .cells ([.slice none 0 0, .int .i64 0, .int .i64 (IntKind.i64.wrap p0)] : List Value).toArray 79 (0, 0)) :: M54q) := ⟨_, _, _, rfl, rfl, hr53q⟩
  rw [hM_] at hp55q
  have hS57q : St b w0 W48q R (((g49q, .cells ([.slice none 0 0, .int .i64 0, .int .i64 (IntKind.i64.wrap p0)] : List Value).toArray 79 (0, 0)) :: ([])) :: Fs) := hS50q.assoc (by simp only [List.flatten_cons, List.append_assoc, List.cons_append, List.nil_append, List.append_nil])
  obtain ⟨M58q, hM_⟩ : ∃ y : Frag, y = ((g49q, .cells ([.slice none 0 0, .int .i64 0, .int .i64 (IntKind.i64.wrap p0)] : List Value).toArray 79 (0, 0)) :: ([])) := ⟨_, rfl⟩
  rw [← hM_] at hp55q hS57q
  clear hM_
  obtain rfl := Option.some.inj H
  repeat (first | refine then_ret ?_ | refine inBlock_ret ?_ | refine inBlock_go ?_)
  refine body_ret (v := .pointer (some ⟨g49q, 0, none⟩)) h52q (by kernel_rfl) (by kernel_rfl) ?_
  exact ⟨.pointer (some ⟨g49q, 0, none⟩), M58q, rfl, hp55q, hS57q⟩

structure S61 where
  f0 : S79
  f1 : Bool
  f2 : Int
  f3 : Int
  deriving DecidableEq
def z61 : S61 := ⟨z79, false, (0 : Int), (0 : Int)⟩
def k61 : Kd S61 := kIso (kPair (kPtr k79 79) (kPair kBool (kPair (kInt .u32) (kInt .u32)))) (fun x : S61 => (x.f0, (x.f1, (x.f2, x.f3))))
theorem k61qind : k61.Ind := kIso_ind (kPair_ind (kPtr_ind k79qind) (kPair_ind kBool_ind (kPair_ind (kInt_ind _) (kInt_ind _))))
theorem k61qrep {b : Nat} {w0 : World} {R : Frag} {x : S61} {cs : List Value} {M : Frag} (h : k61.rep b w0 R x cs M) : ∃ (vf0 : Value), ∃ (Mvf0 : Frag), cs = [vf0, .bool x.f1, .int .u32 x.f2, .int .u32 x.f3] ∧ M = Mvf0 ∧ Ptr k79 79 b w0 R vf0 x.f0 Mvf0 := by
  obtain ⟨c1q, c2q, M5q, M6q, rfl, rfl, h3q, h4q⟩ := h
  obtain ⟨c7q, c8q, M11q, M12q, rfl, rfl, h9q, h10q⟩ := h4q
  obtain ⟨c13q, c14q, M17q, M18q, rfl, rfl, h15q, h16q⟩ := h10q
  obtain ⟨v19q, rfl, g20q⟩ := h3q
  obtain ⟨rfl, rfl⟩ := h9q
  obtain ⟨rfl, rfl⟩ := h15q
  obtain ⟨rfl, rfl⟩ := h16q
  exact ⟨v19q, _, rfl, by simp, g20q⟩
theorem k61qmk {b : Nat} {w0 : World} {R : Frag} {x : S61} {vf0 : Value} {Mvf0 : Frag} (gvf0 : Ptr k79 79 b w0 R vf0 x.f0 Mvf0) : ∃ M, k61.rep b w0 R x [vf0, .bool x.f1, .int .u32 x.f2, .int .u32 x.f3] M ∧ M = Mvf0 := ⟨_, ⟨_, _, _, _, rfl, rfl, ⟨vf0, rfl, gvf0⟩, ⟨_, _, _, _, rfl, rfl, ⟨rfl, rfl⟩, ⟨_, _, _, _, rfl, rfl, ⟨rfl, rfl⟩, ⟨rfl, rfl⟩⟩⟩⟩, by simp⟩
/-! ### louver/hpack.NewEncoder -/
def hpack_NewEncoder.f (p0 : Int) : Option (S61) := bnd1 (dyntable_New.f (mnI p0 4096)) fun r63q => (some (⟨r63q, true, 0, mnI p0 4096⟩ : S61))
set_option maxHeartbeats 2000000 in
set_option maxRecDepth 100000 in
theorem hpack_NewEncoder.calls {b : Nat} {w0 W : World} {R : Frag} {Fs : List Frag} {p0 : Int}  {r0q : S61}  (H : hpack_NewEncoder.f p0 = some r0q) (hS : St b w0 W R (Fs)) :
    Calls Tryd.prog 17 ([.int .u32 p0] : List Value).toArray W (fun e W' => ∃ (u0q : Value) (N0q : Frag), e = .returned (u0q) ∧ Ptr k61 61 b w0 R u0q r0q N0q ∧ St b w0 W' R (N0q :: Fs)) := by
  unfold hpack_NewEncoder.f at H
  refine calls_enter Tryd.func17 rfl 10 rfl (by kernel_rfl) (fun a h => ?_)
  refine wp_seq ?_
  refine WL.start ?_
  refine WL.block (c := 1) (m' := 1) h rfl [(2, .pointer none)] (by kernel_rfl) (fun a56q h57q => ?_)
  refine WL.done (by kernel_rfl) ?_
  refine wp_seq ?_
  refine WL.start ?_
  refine WL.block (c := 3) (m' := 3) h57q rfl [(0, .int .u32 (mnI p0 4096)), (4, .int .u32 (mnI p0 4096)), (3, .int .u32 p0)] (by kernel_rfl) (fun a58q h59q => ?_)
  clear h57q a56q
  refine WL.done (by kernel_rfl) ?_
  refine wp_seq ?_
  refine WL.start ?_
  refine WL.block (c := 1) (m' := 1) h59q rfl [(5, .int .u32 (mnI p0 4096))] (by kernel_rfl) (fun a60q h61q => ?_)
  clear h59q a58q
  obtain ⟨r63q, A62q, H⟩ := bind1 H
  refine WL.op' (m := 1) h61q rfl rfl ?_
  refine owp_call [.int .u32 (mnI p0 4096)] h61q rfl (by kernel_rfl) rfl Tryd.func30 (by kernel_rfl) rfl (by kernel_rfl) (dyntable_New.calls  A62q hS) (fun e65q W64q hp66q => ?_)
  obtain ⟨v69q, M70q, rfl, hr71q, hS72q⟩ := hp66q
  refine ⟨_, rfl, fun a67q h68q => ?_⟩
  clear h61q a60q
  obtain ⟨g73q, rfl⟩ := hr71q.ptr_form
  refine WL.block (c := 2) (m' := 4) h68q rfl [(8, .agg #[.pointer (some ⟨g73q, 0, none⟩), .bool true, .int .u32 0, .int .u32 (mnI p0 4096)]), (7, .int .u32 (mnI p0 4096))] (by kernel_rfl) (fun a74q h75q => ?_)
  clear h68q a67q
  refine WL.op' (m := 4) h75q rfl rfl ?_
  refine owp_new (fun g_ => .pointer (some ⟨g_, 0, none⟩)) (.cells ([.pointer (some ⟨g73q, 0, none⟩), .bool true, .int .u32 0, .int .u32 (mnI p0 4096)] : List Value).toArray 61 (0, 0)) h75q rfl (by kernel_rfl) (by kernel_rfl) hS72q (fun a76q W78q g79q h77q hS80q => ?_)
  clear h75q a74q
  refine WL.block (c := 1) (m' := 6) h77q rfl [(2, .pointer (some ⟨g79q, 0, none⟩))] (by kernel_rfl) (fun a81q h82q => ?_)
  clear h77q a76q
  refine WL.done (by kernel_rfl) ?_
  refine wp_ret ?_
  have hS83q : St b w0 W78q R (M70q :: [(g79q, .cells ([.pointer (some ⟨g73q, 0, none⟩), .bool true, .int .u32 0, .int .u32 (mnI p0 4096)] : List Value).toArray 61 (0, 0))] :: Fs) := hS80q.bring 1 rfl rfl
  have hS84q : St b w0 W78q R ([(g79q, .cells ([.pointer (some ⟨g73q, 0, none⟩), .bool true, .int .u32 0, .int .u32 (mnI p0 4096)] : List Value).toArray 61 (0, 0))] :: M70q :: Fs) := hS83q.bring 1 rfl rfl
  obtain ⟨M86q, hr85q, hM_⟩ := k61qmk (b := b) (w0 := w0) (R := R) (x := (⟨r63q, true, 0, mnI p0 4096⟩ : S61)) (gvf0 := hr71q)
  have hp87q : Ptr k61 61 b w0 R (.pointer (some ⟨g79q, 0, none⟩)) (⟨r63q, true, 0, mnI p0 4096⟩ : S61) ((g79q, .cells ([.pointer (some ⟨g73q, 0, none⟩), .bool true, .int .u32 0, .int .u32 (mnI p0 4096)] : List Value).toArray 61 (0, 0)) :: M86q) := ⟨_, _, _, rfl, rfl, hr85q⟩
  rw [hM_] at hp87q
  have hS89q : St b w0 W78q R (((g79q, .cells ([.pointer (some ⟨g73q, 0, none⟩), .bool true, .int .u32 0, .int .u32 (mnI p0 4096)] : List Value).toArray 61 (0, 0)) :: (M70q)) :: Fs) := hS84q.assoc (by simp only [List.flatten_cons, List.append_assoc, List.cons_append, List.nil_append, List.append_nil])
  obtain ⟨M90q, hM_⟩ : ∃ y : Frag, y = ((g79q, .cells ([.pointer (some ⟨g73q, 0, none⟩), .bool true, .int .u32 0, .int .u32 (mnI p0 4096)] : List Value).toArray 61 (0, 0)) :: (M70q)) := ⟨_, rfl⟩
  rw [← hM_] at hp87q hS89q
  clear hM_
  obtain rfl := Option.some.inj H
  repeat (first | refine then_ret ?_ | refine inBlock_ret ?_ | refine inBlock_go ?_)
  refine body_ret (v := .pointer (some ⟨g79q, 0, none⟩)) h82q (by kernel_rfl) (by kernel_rfl) ?_
  exact ⟨.pointer (some ⟨g79q, 0, none⟩), M90q, rfl, hp87q, hS89q⟩

/-! ### slices.Clone[[]byte,byte] -/
def slices_Clone_byte_byte.f (p0 : (List Int)) : Option ((List Int)) := if ([] : List Int).length + p0.length ≤ 140737488355328 then (lt1 (([] : List Int) ++ p0 : List Int) fun y48q => (some y48q)) else (none)
set_option maxHeartbeats 2000000 in
set_option maxRecDepth 100000 in
theorem slices_Clone_byte_byte.calls {b : Nat} {w0 W : World} {R : Frag} {Fs : List Frag} {p0 : (List Int)} {v0 : Value} {r0q : (List Int)} (hp0 : Rds (kInt .u8) b w0 R v0 p0) (H : slices_Clone_byte_byte.f p0 = some r0q) (hS : St b w0 W R (Fs)) :
    Calls Tryd.prog 40 ([v0] : List Value).toArray W (fun e W' => ∃ (u0q : Value) (N0q : Frag), e = .returned (u0q) ∧ Row (kInt .u8) 5 b w0 R u0q r0q N0q ∧ St b w0 W' R (N0q :: Fs)) := by
  obtain ⟨A0, c0, rfl⟩ := hp0.form
  obtain _ | A0 := A0
  · have hn_ : p0 = [] := hp0.nil_of
    subst hn_
    obtain rfl : ([] : (List Int)) = r0q := by simpa [slices_Clone_byte_byte.f, lt1] using H
    clear H
    have H : some ([] : (List Int)) = some [] := rfl
    refine calls_enter Tryd.func40 rfl 8 rfl (by kernel_rfl) (fun a h => ?_)
    refine wp_seq ?_
    refine WL.start ?_
    refine WL.block (c := 1) (m' := 1) h rfl [(2, .slice none 0 0)] (by kernel_rfl) (fun a55q h56q => ?_)
    refine WL.done (by kernel_rfl) ?_
    refine wp_seq ?_
    refine wp_seq ?_
    refine WL.start ?_
    refine WL.block (c := 2) (m' := 2) h56q rfl [(4, .bool true), (3, .slice none 0 c0)] (by kernel_rfl) (fun a57q h58q => ?_)
    clear h56q a55q
    refine WL.done (by kernel_rfl) ?_
    refine wp_then h58q rfl ?_
    refine wp_seq ?_
    refine WL.start ?_
    refine WL.block (c := 1) (m' := 1) h58q rfl [(2, .slice none 0 0)] (by kernel_rfl) (fun a59q h60q => ?_)
    clear h58q a57q
    refine WL.done (by kernel_rfl) ?_
    refine wp_ret ?_
    skip
    repeat (first | refine then_ret ?_ | refine inBlock_ret ?_ | refine inBlock_go ?_)
    refine body_ret (v := .slice none 0 0) h60q (by kernel_rfl) (by kernel_rfl) ?_
    exact ⟨.slice none 0 0, [], rfl, Row.nil, hS.nil_⟩
  · unfold slices_Clone_byte_byte.f at H
    refine calls_enter Tryd.func40 rfl 8 rfl (by kernel_rfl) (fun a h => ?_)
    refine wp_seq ?_
    refine WL.start ?_
    refine WL.block (c := 1) (m' := 1) h rfl [(2, .slice none 0 0)] (by kernel_rfl) (fun a28q h29q => ?_)
    refine WL.done (by kernel_rfl) ?_
    refine wp_seq ?_
    refine wp_seq ?_
    refine WL.start ?_
    refine WL.block (c := 2) (m' := 2) h29q rfl [(4, .bool false), (3, .slice (some A0) p0.length c0)] (by kernel_rfl) (fun a30q h31q => ?_)
    clear h29q a28q
    refine WL.done (by kernel_rfl) ?_
    refine wp_else h31q rfl ?_
    refine wp_skip ?_
    refine wp_seq ?_
    refine WL.start ?_
    refine WL.op' (m := 0) h31q rfl rfl ?_
    refine owp_new (fun g_ => .slice (some ⟨g_, 0, none⟩) 0 0) (.cells ([] : List Value).toArray 5 (0, 0)) h31q rfl (by kernel_rfl) (by kernel_rfl) hS (fun a32q W34q g35q h33q hS36q => ?_)
    clear h31q a30q
    have hr37q : Row (kInt .u8) 5 b w0 R (.slice (some ⟨g35q, 0, none⟩) 0 0) ([] : List Int) [(g35q, .cells ([] : List Value).toArray 5 (0, 0))] := Row.lit (xs := ([] : List Int)) (Mi := []) ⟨rfl, rfl⟩ (by simp [maxLen])
    refine WL.block (c := 1) (m' := 2) h33q rfl [(6, .slice (some A0) p0.length c0)] (by kernel_rfl) (fun a38q h39q => ?_)
    clear h33q a32q
    by_cases c40q : ([] : List Int).length + p0.length ≤ 140737488355328
    · rw [if_pos c40q] at H
      refine WL.op' (m := 2) h39q rfl rfl ?_
      refine owp_app_rds (z := .int .u8 0) (bytes := 1) (dk := (kInt .u8)) h39q rfl (by kernel_rfl) rfl rfl rfl (kInt_flat _) hr37q hp0 hS36q Tryd.underlying22 (by kernel_rfl) rfl (by decide) (by decide) (by first | omega | (simp only [List.length_cons, List.length_nil] at *; omega)) (fun a41q W43q v44q M45q h42q hr46q hS47q => ?_)
      clear h39q a38q
      obtain ⟨y48q, hy49q, H⟩ := lete H
      have hr50q : Row (kInt .u8) 5 b w0 R v44q y48q M45q := by rw [hy49q]; exact hr46q
      clear hr46q
      obtain ⟨A51q, c52q, rfl⟩ := hr50q.form
      refine WL.block (c := 1) (m' := 4) h42q rfl [(2, .slice A51q y48q.length c52q)] (by kernel_rfl) (fun a53q h54q => ?_)
      clear h42q a41q
      refine WL.done (by kernel_rfl) ?_
      refine wp_ret ?_
      obtain rfl := Option.some.inj H
      repeat (first | refine then_ret ?_ | refine inBlock_ret ?_ | refine inBlock_go ?_)
      refine body_ret (v := .slice A51q y48q.length c52q) h54q (by kernel_rfl) (by kernel_rfl) ?_
      exact ⟨.slice A51q y48q.length c52q, M45q, rfl, hr50q, hS47q⟩
    · rw [if_neg c40q] at H
      cases H

/-! ### louver/prefix.right -/
def prefix_right.f (p0 : Int) : Option (Bool) := if p0 ≥ 1 then (some (decide (p0 ≤ 8))) else (some false)
set_option maxHeartbeats 2000000 in
set_option maxRecDepth 100000 in
theorem prefix_right.calls {b : Nat} {w0 W : World} {R : Frag} {Fs : List Frag} {p0 : Int}  {r0q : Bool}  (H : prefix_right.f p0 = some r0q) (hS : St b w0 W R (Fs)) :
    Calls Tryd.prog 41 ([.int .i64 p0] : List Value).toArray W (fun e W' => e = .returned (.bool r0q) ∧ St b w0 W' R (Fs)) := by
  unfold prefix_right.f at H
  refine calls_enter Tryd.func41 rfl 9 rfl (by kernel_rfl) (fun a h => ?_)
  refine wp_seq ?_
  refine WL.start ?_
  refine WL.block (c := 1) (m' := 1) h rfl [(2, .bool false)] (by kernel_rfl) (fun a18q h19q => ?_)
  refine WL.done (by kernel_rfl) ?_
  refine wp_seq ?_
  refine WL.start ?_
  refine WL.block (c := 3) (m' := 3) h19q rfl [(5, .bool (decide (p0 ≥ 1))), (4, .bool (decide (p0 ≥ 1))), (3, .int .i64 p0)] (by kernel_rfl) (fun a20q h21q => ?_)
  clear h19q a18q
  by_cases c22q : p0 ≥ 1
  · rw [if_pos c22q] at H
    have hb_ : (decide (p0 ≥ 1)) = true := decide_eq_true c22q
    try rw [hb_] at h21q
    clear hb_
    refine WL.op' (m := 3) h21q rfl rfl (owp_run h21q rfl (by kernel_rfl) (v := .int .i64 p0) (by kernel_rfl) (fun a23q h24q => ?_))
    clear h21q a20q
    refine WL.op' (m := 4) h24q rfl rfl (owp_run h24q rfl (by kernel_rfl) (v := .bool (decide (p0 ≤ 8))) (by kernel_rfl) (fun a25q h26q => ?_))
    clear h24q a23q
    refine WL.block (c := 2) (m' := 7) h26q rfl [(2, .bool (decide (p0 ≤ 8))), (8, .bool (decide (p0 ≤ 8)))] (by kernel_rfl) (fun a27q h28q => ?_)
    clear h26q a25q
    refine WL.done (by kernel_rfl) ?_
    refine wp_ret ?_
    obtain rfl := Option.some.inj H
    repeat (first | refine then_ret ?_ | refine inBlock_ret ?_ | refine inBlock_go ?_)
    refine body_ret (v := .bool (decide (p0 ≤ 8))) h28q (by kernel_rfl) (by kernel_rfl) ?_
    exact ⟨rfl, hS⟩
  · rw [if_neg c22q] at H
    have hb_ : (decide (p0 ≥ 1)) = false := decide_eq_false c22q
    try rw [hb_] at h21q
    clear hb_
    refine WL.skipped (m := 3) h21q rfl rfl (by kernel_rfl) rfl (fun a29q h30q => ?_)
    clear h21q a20q
    refine WL.skipped (m := 4) h30q rfl rfl (by kernel_rfl) rfl (fun a31q h32q => ?_)
    clear h30q a29q
    refine WL.block (c := 2) (m' := 7) h32q rfl [(2, .bool false), (8, .bool false)] (by kernel_rfl) (fun a33q h34q => ?_)
    clear h32q a31q
    refine WL.done (by kernel_rfl) ?_
    refine wp_ret ?_
    obtain rfl := Option.some.inj H
    repeat (first | refine then_ret ?_ | refine inBlock_ret ?_ | refine inBlock_go ?_)
    refine body_ret (v := .bool false) h34q (by kernel_rfl) (by kernel_rfl) ?_
    exact ⟨rfl, hS⟩

/-! ### louver/prefix.Put -/
def prefix_Put.l0 : Nat → Int → (List Int) → Option ((List Int))
  | 0, _, _ => none
  | k + 1, x573q, x574q => if x573q > 127 then (if x574q.length + 1 ≤ 140737488355328 then (lt1 (x574q ++ ([bOr .u8 (IntKind.u8.wrap (bAnd .u32 x573q 127)) 128] : List Int) : List Int) fun y600q => (prefix_Put.l0 k (shrI .u32 x573q 7) y600q)) else (none)) else (if x574q.length + 1 ≤ 140737488355328 then (lt1 (x574q ++ ([IntKind.u8.wrap x573q] : List Int) : List Int) fun y626q => (some y626q)) else (none))
def prefix_Put.f (k : Nat) (p0 : (List Int)) (p1 : Int) (p2 : Int) (p3 : Int) : Option ((List Int)) := bnd1 (slices_Clone_byte_byte.f p0) fun r470q => (bnd1 (prefix_right.f p1) fun r487q => (if r487q = true then (if p3 > 268435456 then (some r470q) else (if 0 ≤ p1 then (if p3 < (IntKind.u32.wrap ((shlI .u32 1 p1) - 1)) then (if r470q.length + 1 ≤ 140737488355328 then (lt1 (r470q ++ ([bOr .u8 (bAndNot .u8 p2 (IntKind.u8.wrap (IntKind.u32.wrap ((shlI .u32 1 p1) - 1)))) (IntKind.u8.wrap p3)] : List Int) : List Int) fun y535q => (some y535q)) else (none)) else (if r470q.length + 1 ≤ 140737488355328 then (lt1 (r470q ++ ([bOr .u8 (bAndNot .u8 p2 (IntKind.u8.wrap (IntKind.u32.wrap ((shlI .u32 1 p1) - 1)))) (IntKind.u8.wrap (IntKind.u32.wrap ((shlI .u32 1 p1) - 1)))] : List Int) : List Int) fun y559q => (prefix_Put.l0 k (IntKind.u32.wrap (p3 - (IntKind.u32.wrap ((shlI .u32 1 p1) - 1)))) y559q)) else (none))) else (none))) else (some r470q)))
set_option maxHeartbeats 2000000 in
set_option maxRecDepth 100000 in
theorem prefix_Put.calls (k : Nat) {b : Nat} {w0 W : World} {R : Frag} {Fs : List Frag} {p0 : (List Int)} {p1 : Int} {p2 : Int} {p3 : Int} {v0 : Value} {r0q : (List Int)} (hp0 : Rds (kInt .u8) b w0 R v0 p0) (H : prefix_Put.f k p0 p1 p2 p3 = some r0q) (hS : St b w0 W R (Fs)) :
    Calls Tryd.prog 27 ([v0, .int .i64 p1, .int .u8 p2, .int .u32 p3] : List Value).toArray W (fun e W' => ∃ (u0q : Value) (N0q : Frag), e = .returned (u0q) ∧ Row (kInt .u8) 5 b w0 R u0q r0q N0q ∧ St b w0 W' R (N0q :: Fs)) := by
  obtain ⟨A0, c0, rfl⟩ := hp0.form
  unfold prefix_Put.f at H
  refine calls_enter Tryd.func27 rfl 65 rfl (by kernel_rfl) (fun a h => ?_)
  refine wp_seq ?_
  refine WL.start ?_
  refine WL.block (c := 1) (m' := 1) h rfl [(8, .slice none 0 0)] (by kernel_rfl) (fun a465q h466q => ?_)
  refine WL.done (by kernel_rfl) ?_
  refine wp_seq ?_
  refine WL.start ?_
  refine WL.block (c := 1) (m' := 1) h466q rfl [(12, .slice A0 p0.length c0)] (by kernel_rfl) (fun a467q h468q => ?_)
  clear h466q a465q
  obtain ⟨r470q, A469q, H⟩ := bind1 H
  refine WL.op' (m := 1) h468q rfl rfl ?_
  refine owp_call [.slice A0 p0.length c0] h468q rfl (by kernel_rfl) rfl Tryd.func40 (by kernel_rfl) rfl (by kernel_rfl) (slices_Clone_byte_byte.calls hp0 A469q hS) (fun e472q W471q hp473q => ?_)
  obtain ⟨v476q, M477q, rfl, hr478q, hS479q⟩ := hp473q
  refine ⟨_, rfl, fun a474q h475q => ?_⟩
  clear h468q a467q
  obtain ⟨A480q, c481q, rfl⟩ := hr478q.form
  refine WL.block (c := 1) (m' := 3) h475q rfl [(9, .slice A480q r470q.length c481q)] (by kernel_rfl) (fun a482q h483q => ?_)
  clear h475q a474q
  refine WL.done (by kernel_rfl) ?_
  refine wp_seq ?_
  refine wp_seq ?_
  refine WL.start ?_
  refine WL.block (c := 1) (m' := 1) h483q rfl [(14, .int .i64 p1)] (by kernel_rfl) (fun a484q h485q => ?_)
  clear h483q a482q
  obtain ⟨r487q, A486q, H⟩ := bind1 H
  refine WL.op' (m := 1) h485q rfl rfl ?_
  refine owp_call [.int .i64 p1] h485q rfl (by kernel_rfl) rfl Tryd.func41 (by kernel_rfl) rfl (by kernel_rfl) (prefix_right.calls  A486q hS479q) (fun e489q W488q hp490q => ?_)
  obtain ⟨rfl, hS493q⟩ := hp490q
  refine ⟨_, rfl, fun a491q h492q => ?_⟩
  clear h485q a484q
  refine WL.block (c := 2) (m' := 4) h492q rfl [(17, .bool (!r487q)), (16, .bool (!r487q))] (by kernel_rfl) (fun a494q h495q => ?_)
  clear h492q a491q
  by_cases c496q : r487q = true
  · rw [if_pos c496q] at H
    have hb_ : r487q = true := c496q
    try rw [hb_] at h495q
    clear hb_
    refine WL.op' (m := 4) h495q rfl rfl (owp_run h495q rfl (by kernel_rfl) (v := .int .u32 p3) (by kernel_rfl) (fun a497q h498q => ?_))
    clear h495q a494q
    refine WL.op' (m := 5) h498q rfl rfl (owp_run h498q rfl (by kernel_rfl) (v := .bool (decide (p3 > 268435456))) (by kernel_rfl) (fun a499q h500q => ?_))
    clear h498q a497q
    refine WL.block (c := 1) (m' := 7) h500q rfl [(20, .bool (decide (p3 > 268435456)))] (by kernel_rfl) (fun a501q h502q => ?_)
    clear h500q a499q
    refine WL.done (by kernel_rfl) ?_
    by_cases c503q : p3 > 268435456
    · rw [if_pos c503q] at H
      have hb_ : (decide (p3 > 268435456)) = true := decide_eq_true c503q
      try rw [hb_] at h502q
      clear hb_
      refine wp_then h502q rfl ?_
      refine wp_seq ?_
      refine WL.start ?_
      refine WL.block (c := 2) (m' := 2) h502q rfl [(8, .slice A480q r470q.length c481q), (21, .slice A480q r470q.length c481q)] (by kernel_rfl) (fun a504q h505q => ?_)
      clear h502q a501q
      refine WL.done (by kernel_rfl) ?_
      refine wp_ret ?_
      obtain rfl := Option.some.inj H
      repeat (first | refine then_ret ?_ | refine inBlock_ret ?_ | refine inBlock_go ?_)
      refine body_ret (v := .slice A480q r470q.length c481q) h505q (by kernel_rfl) (by kernel_rfl) ?_
      exact ⟨.slice A480q r470q.length c481q, M477q, rfl, hr478q, hS493q⟩
    · rw [if_neg c503q] at H
      have hb_ : (decide (p3 > 268435456)) = false := decide_eq_false c503q
      try rw [hb_] at h502q
      clear hb_
      refine wp_else h502q rfl ?_
      refine wp_skip ?_
      refine wp_seq ?_
      refine WL.start ?_
      refine WL.block (c := 1) (m' := 1) h502q rfl [(22, .int .i64 p1)] (by kernel_rfl) (fun a506q h507q => ?_)
      clear h502q a501q
      by_cases c508q : 0 ≤ p1
      · rw [if_pos c508q] at H
        refine WL.op' (m := 1) h507q rfl rfl ?_
        refine owp_run (v := .int .u32 (shlI .u32 1 p1)) h507q rfl (by kernel_rfl) (run_shl rfl rfl rfl (by assumption)) (fun a509q h510q => ?_)
        clear h507q a506q
        refine WL.block (c := 2) (m' := 4) h510q rfl [(10, .int .u32 (IntKind.u32.wrap ((shlI .u32 1 p1) - 1))), (24, .int .u32 (IntKind.u32.wrap ((shlI .u32 1 p1) - 1)))] (by kernel_rfl) (fun a511q h512q => ?_)
        clear h510q a509q
        refine WL.done (by kernel_rfl) ?_
        refine wp_seq ?_
        refine WL.start ?_
        refine WL.block (c := 5) (m' := 5) h512q rfl [(11, .int .u8 (bAndNot .u8 p2 (IntKind.u8.wrap (IntKind.u32.wrap ((shlI .u32 1 p1) - 1))))), (28, .int .u8 (bAndNot .u8 p2 (IntKind.u8.wrap (IntKind.u32.wrap ((shlI .u32 1 p1) - 1))))), (27, .int .u8 (IntKind.u8.wrap (IntKind.u32.wrap ((shlI .u32 1 p1) - 1)))), (26, .int .u32 (IntKind.u32.wrap ((shlI .u32 1 p1) - 1))), (25, .int .u8 p2)] (by kernel_rfl) (fun a513q h514q => ?_)
        clear h512q a511q
        refine WL.done (by kernel_rfl) ?_
        refine wp_seq ?_
        refine wp_seq ?_
        refine WL.start ?_
        refine WL.block (c := 3) (m' := 3) h514q rfl [(31, .bool (decide (p3 < (IntKind.u32.wrap ((shlI .u32 1 p1) - 1))))), (30, .int .u32 (IntKind.u32.wrap ((shlI .u32 1 p1) - 1))), (29, .int .u32 p3)] (by kernel_rfl) (fun a515q h516q => ?_)
        clear h514q a513q
        refine WL.done (by kernel_rfl) ?_
        by_cases c517q : p3 < (IntKind.u32.wrap ((shlI .u32 1 p1) - 1))
        · rw [if_pos c517q] at H
          have hb_ : (decide (p3 < (IntKind.u32.wrap ((shlI .u32 1 p1) - 1)))) = true := decide_eq_true c517q
          try rw [hb_] at h516q
          clear hb_
          refine wp_then h516q rfl ?_
          refine wp_seq ?_
          refine WL.start ?_
          refine WL.block (c := 5) (m' := 5) h516q rfl [(36, .int .u8 (bOr .u8 (bAndNot .u8 p2 (IntKind.u8.wrap (IntKind.u32.wrap ((shlI .u32 1 p1) - 1)))) (IntKind.u8.wrap p3))), (35, .int .u8 (IntKind.u8.wrap p3)), (34, .int .u32 p3), (33, .int .u8 (bAndNot .u8 p2 (IntKind.u8.wrap (IntKind.u32.wrap ((shlI .u32 1 p1) - 1))))), (32, .slice A480q r470q.length c481q)] (by kernel_rfl) (fun a518q h519q => ?_)
          clear h516q a515q
          refine WL.op' (m := 5) h519q rfl rfl ?_
          refine owp_new (fun g_ => .slice (some ⟨g_, 0, none⟩) 1 1) (.cells ([.int .u8 (bOr .u8 (bAndNot .u8 p2 (IntKind.u8.wrap (IntKind.u32.wrap ((shlI .u32 1 p1) - 1)))) (IntKind.u8.wrap p3))] : List Value).toArray 5 (0, 0)) h519q rfl (by kernel_rfl) (by kernel_rfl) hS493q (fun a520q W522q g523q h521q hS524q => ?_)
          clear h519q a518q
          have hr525q : Row (kInt .u8) 5 b w0 R (.slice (some ⟨g523q, 0, none⟩) 1 1) ([bOr .u8 (bAndNot .u8 p2 (IntKind.u8.wrap (IntKind.u32.wrap ((shlI .u32 1 p1) - 1)))) (IntKind.u8.wrap p3)] : List Int) [(g523q, .cells ([.int .u8 (bOr .u8 (bAndNot .u8 p2 (IntKind.u8.wrap (IntKind.u32.wrap ((shlI .u32 1 p1) - 1)))) (IntKind.u8.wrap p3))] : List Value).toArray 5 (0, 0))] := Row.lit (xs := ([bOr .u8 (bAndNot .u8 p2 (IntKind.u8.wrap (IntKind.u32.wrap ((shlI .u32 1 p1) - 1)))) (IntKind.u8.wrap p3)] : List Int)) (Mi := []) ⟨_, _, [], _, rfl, rfl, ⟨rfl, rfl⟩, ⟨rfl, rfl⟩⟩ (by simp [maxLen])
          by_cases c526q : r470q.length + 1 ≤ 140737488355328
          · rw [if_pos c526q] at H
            have hS527q : St b w0 W522q R (M477q :: [(g523q, .cells ([.int .u8 (bOr .u8 (bAndNot .u8 p2 (IntKind.u8.wrap (IntKind.u32.wrap ((shlI .u32 1 p1) - 1)))) (IntKind.u8.wrap p3))] : List Value).toArray 5 (0, 0))] :: Fs) := hS524q.bring 1 rfl rfl
            refine WL.op' (m := 6) h521q rfl rfl ?_
            refine owp_app_take (z := .int .u8 0) (bytes := 1) (dk := (kInt .u8)) h521q rfl (by kernel_rfl) rfl rfl rfl hr478q hr525q hS527q Tryd.underlying22 (by kernel_rfl) rfl (by decide) (by decide) (by first | omega | (simp only [List.length_cons, List.length_nil] at *; omega)) (fun a528q W530q v531q M532q h529q hr533q hS534q => ?_)
            clear h521q a520q
            obtain ⟨y535q, hy536q, H⟩ := lete H
            have hr537q : Row (kInt .u8) 5 b w0 R v531q y535q M532q := by rw [hy536q]; exact hr533q
            clear hr533q
            obtain ⟨A538q, c539q, rfl⟩ := hr537q.form
            refine WL.block (c := 1) (m' := 8) h529q rfl [(8, .slice A538q y535q.length c539q)] (by kernel_rfl) (fun a540q h541q => ?_)
            clear h529q a528q
            refine WL.done (by kernel_rfl) ?_
            refine wp_ret ?_
            obtain rfl := Option.some.inj H
            repeat (first | refine then_ret ?_ | refine inBlock_ret ?_ | refine inBlock_go ?_)
            refine body_ret (v := .slice A538q y535q.length c539q) h541q (by kernel_rfl) (by kernel_rfl) ?_
            exact ⟨.slice A538q y535q.length c539q, M532q, rfl, hr537q, hS534q⟩
          · rw [if_neg c526q] at H
            cases H
        · rw [if_neg c517q] at H
          have hb_ : (decide (p3 < (IntKind.u32.wrap ((shlI .u32 1 p1) - 1)))) = false := decide_eq_false c517q
          try rw [hb_] at h516q
          clear hb_
          refine wp_else h516q rfl ?_
          refine wp_skip ?_
          refine wp_seq ?_
          refine WL.start ?_
          refine WL.block (c := 5) (m' := 5) h516q rfl [(43, .int .u8 (bOr .u8 (bAndNot .u8 p2 (IntKind.u8.wrap (IntKind.u32.wrap ((shlI .u32 1 p1) - 1)))) (IntKind.u8.wrap (IntKind.u32.wrap ((shlI .u32 1 p1) - 1))))), (42, .int .u8 (IntKind.u8.wrap (IntKind.u32.wrap ((shlI .u32 1 p1) - 1)))), (41, .int .u32 (IntKind.u32.wrap ((shlI .u32 1 p1) - 1))), (40, .int .u8 (bAndNot .u8 p2 (IntKind.u8.wrap (IntKind.u32.wrap ((shlI .u32 1 p1) - 1))))), (39, .slice A480q r470q.length c481q)] (by kernel_rfl) (fun a542q h543q => ?_)
          clear h516q a515q
          refine WL.op' (m := 5) h543q rfl rfl ?_
          refine owp_new (fun g_ => .slice (some ⟨g_, 0, none⟩) 1 1) (.cells ([.int .u8 (bOr .u8 (bAndNot .u8 p2 (IntKind.u8.wrap (IntKind.u32.wrap ((shlI .u32 1 p1) - 1)))) (IntKind.u8.wrap (IntKind.u32.wrap ((shlI .u32 1 p1) - 1))))] : List Value).toArray 5 (0, 0)) h543q rfl (by kernel_rfl) (by kernel_rfl) hS493q (fun a544q W546q g547q h545q hS548q => ?_)
          clear h543q a542q
          have hr549q : Row (kInt .u8) 5 b w0 R (.slice (some ⟨g547q, 0, none⟩) 1 1) ([bOr .u8 (bAndNot .u8 p2 (IntKind.u8.wrap (IntKind.u32.wrap ((shlI .u32 1 p1) - 1)))) (IntKind.u8.wrap (IntKind.u32.wrap ((shlI .u32 1 p1) - 1)))] : List Int) [(g547q, .cells ([.int .u8 (bOr .u8 (bAndNot .u8 p2 (IntKind.u8.wrap (IntKind.u32.wrap ((shlI .u32 1 p1) - 1)))) (IntKind.u8.wrap (IntKind.u32.wrap ((shlI .u32 1 p1) - 1))))] : List Value).toArray 5 (0, 0))] := Row.lit (xs := ([bOr .u8 (bAndNot .u8 p2 (IntKind.u8.wrap (IntKind.u32.wrap ((shlI .u32 1 p1) - 1)))) (IntKind.u8.wrap (IntKind.u32.wrap ((shlI .u32 1 p1) - 1)))] : List Int)) (Mi := []) ⟨_, _, [], _, rfl, rfl, ⟨rfl, rfl⟩, ⟨rfl, rfl⟩⟩ (by simp [maxLen])
          by_cases c550q : r470q.length + 1 ≤ 140737488355328
          · rw [if_pos c550q] at H
            have hS551q : St b w0 W546q R (M477q :: [(g547q, .cells ([.int .u8 (bOr .u8 (bAndNot .u8 p2 (IntKind.u8.wrap (IntKind.u32.wrap ((shlI .u32 1 p1) - 1)))) (IntKind.u8.wrap (IntKind.u32.wrap ((shlI .u32 1 p1) - 1))))] : List Value).toArray 5 (0, 0))] :: Fs) := hS548q.bring 1 rfl rfl
            refine WL.op' (m := 6) h545q rfl rfl ?_
            refine owp_app_take (z := .int .u8 0) (bytes := 1) (dk := (kInt .u8)) h545q rfl (by kernel_rfl) rfl rfl rfl hr478q hr549q hS551q Tryd.underlying22 (by kernel_rfl) rfl (by decide) (by decide) (by first | omega | (simp only [List.length_cons, List.length_nil] at *; omega)) (fun a552q W554q v555q M556q h553q hr557q hS558q => ?_)
            clear h545q a544q
            obtain ⟨y559q, hy560q, H⟩ := lete H
            have hr561q : Row (kInt .u8) 5 b w0 R v555q y559q M556q := by rw [hy560q]; exact hr557q
            clear hr557q
            obtain ⟨A562q, c563q, rfl⟩ := hr561q.form
            refine WL.block (c := 1) (m' := 8) h553q rfl [(9, .slice A562q y559q.length c563q)] (by kernel_rfl) (fun a564q h565q => ?_)
            clear h553q a552q
            refine WL.done (by kernel_rfl) ?_
            refine wp_seq ?_
            refine WL.start ?_
            refine WL.block (c := 4) (m' := 4) h565q rfl [(3, .int .u32 (IntKind.u32.wrap (p3 - (IntKind.u32.wrap ((shlI .u32 1 p1) - 1))))), (48, .int .u32 (IntKind.u32.wrap (p3 - (IntKind.u32.wrap ((shlI .u32 1 p1) - 1))))), (47, .int .u32 (IntKind.u32.wrap ((shlI .u32 1 p1) - 1))), (46, .int .u32 p3)] (by kernel_rfl) (fun a566q h567q => ?_)
            clear h565q a564q
            refine WL.done (by kernel_rfl) ?_
            refine wp_seq ?_
            refine wp_block ?_
            refine wp_loop_ghost (fun kq_ a_ W_ => ∃ (x573q : Int), ∃ (x574q : (List Int)), ∃ (A575q : Option Addr), ∃ (c576q : Nat), ∃ (M577q : Frag), Hd a_ 65 [(3, .int .u32 x573q), (9, .slice A575q x574q.length c576q)] ∧ Asd (prefix_Put.l0 kq_ x573q x574q = some r0q) ∧ Asd (kq_ ≤ k) ∧ Asd (St b w0 W_ R (M577q :: Fs)) ∧ Asd (Row (kInt .u8) 5 b w0 R (.slice A575q x574q.length c576q) x574q M577q)) k ⟨IntKind.u32.wrap (p3 - (IntKind.u32.wrap ((shlI .u32 1 p1) - 1))), y559q, A562q, c563q, M556q, h567q.keep ⟨rfl, rfl, trivial⟩, ⟨H⟩, ⟨Nat.le_refl _⟩, ⟨hS558q⟩, ⟨hr561q⟩⟩ ?_
            clear H hS558q
            rintro k572q a569q W570q ⟨x573q, x574q, A575q, c576q, M577q, h568q, ⟨H⟩, ⟨hkk572q⟩, ⟨hS571q⟩, ⟨hr578q⟩⟩
            obtain _ | k579q := k572q
            · exact absurd H (by simp [prefix_Put.l0])
            simp only [prefix_Put.l0] at H
            refine wp_seq ?_
            refine wp_seq ?_
            refine WL.start ?_
            refine WL.block (c := 2) (m' := 2) h568q rfl [(50, .bool (decide (x573q > 127))), (49, .int .u32 x573q)] (by kernel_rfl) (fun a580q h581q => ?_)
            clear h568q a569q
            refine WL.done (by kernel_rfl) ?_
            by_cases c582q : x573q > 127
            · rw [if_pos c582q] at H
              have hb_ : (decide (x573q > 127)) = true := decide_eq_true c582q
              try rw [hb_] at h581q
              clear hb_
              refine wp_then h581q rfl ?_
              refine wp_skip ?_
              refine wp_block ?_
              refine wp_seq ?_
              refine WL.start ?_
              refine WL.block (c := 5) (m' := 5) h581q rfl [(55, .int .u8 (bOr .u8 (IntKind.u8.wrap (bAnd .u32 x573q 127)) 128)), (54, .int .u8 (IntKind.u8.wrap (bAnd .u32 x573q 127))), (53, .int .u32 (bAnd .u32 x573q 127)), (52, .int .u32 x573q), (51, .slice A575q x574q.length c576q)] (by kernel_rfl) (fun a583q h584q => ?_)
              clear h581q a580q
              refine WL.op' (m := 5) h584q rfl rfl ?_
              refine owp_new (fun g_ => .slice (some ⟨g_, 0, none⟩) 1 1) (.cells ([.int .u8 (bOr .u8 (IntKind.u8.wrap (bAnd .u32 x573q 127)) 128)] : List Value).toArray 5 (0, 0)) h584q rfl (by kernel_rfl) (by kernel_rfl) hS571q (fun a585q W587q g588q h586q hS589q => ?_)
              clear h584q a583q
              have hr590q : Row (kInt .u8) 5 b w0 R (.slice (some ⟨g588q, 0, none⟩) 1 1) ([bOr .u8 (IntKind.u8.wrap (bAnd .u32 x573q 127)) 128] : List Int) [(g588q, .cells ([.int .u8 (bOr .u8 (IntKind.u8.wrap (bAnd .u32 x573q 127)) 128)] : List Value).toArray 5 (0, 0))] := Row.lit (xs := ([bOr .u8 (IntKind.u8.wrap (bAnd .u32 x573q 127)) 128] : List Int)) (Mi := []) ⟨_, _, [], _, rfl, rfl, ⟨rfl, rfl⟩, ⟨rfl, rfl⟩⟩ (by simp [maxLen])
              by_cases c591q : x574q.length + 1 ≤ 140737488355328
              · rw [if_pos c591q] at H
                have hS592q : St b w0 W587q R (M577q :: [(g588q, .cells ([.int .u8 (bOr .u8 (IntKind.u8.wrap (bAnd .u32 x573q 127)) 128)] : List Value).toArray 5 (0, 0))] :: Fs) := hS589q.bring 1 rfl rfl
                refine WL.op' (m := 6) h586q rfl rfl ?_
                refine owp_app_take (z := .int .u8 0) (bytes := 1) (dk := (kInt .u8)) h586q rfl (by kernel_rfl) rfl rfl rfl hr578q hr590q hS592q Tryd.underlying22 (by kernel_rfl) rfl (by decide) (by decide) (by first | omega | (simp only [List.length_cons, List.length_nil] at *; omega)) (fun a593q W595q v596q M597q h594q hr598q hS599q => ?_)
                clear h586q a585q
                obtain ⟨y600q, hy601q, H⟩ := lete H
                have hr602q : Row (kInt .u8) 5 b w0 R v596q y600q M597q := by rw [hy601q]; exact hr598q
                clear hr598q
                obtain ⟨A603q, c604q, rfl⟩ := hr602q.form
                refine WL.block (c := 1) (m' := 8) h594q rfl [(9, .slice A603q y600q.length c604q)] (by kernel_rfl) (fun a605q h606q => ?_)
                clear h594q a593q
                refine WL.done (by kernel_rfl) ?_
                refine WL.start ?_
                refine WL.block (c := 3) (m' := 3) h606q rfl [(3, .int .u32 (shrI .u32 x573q 7)), (59, .int .u32 (shrI .u32 x573q 7)), (58, .int .u32 x573q)] (by kernel_rfl) (fun a607q h608q => ?_)
                clear h606q a605q
                refine WL.done (by kernel_rfl) ?_
                exact ⟨k579q, by omega, shrI .u32 x573q 7, y600q, A603q, c604q, M597q, h608q.keep ⟨rfl, rfl, trivial⟩, ⟨H⟩, ⟨by omega⟩, ⟨hS599q⟩, ⟨hr602q⟩⟩
              · rw [if_neg c591q] at H
                cases H
            · rw [if_neg c582q] at H
              have hb_ : (decide (x573q > 127)) = false := decide_eq_false c582q
              try rw [hb_] at h581q
              clear hb_
              refine wp_else h581q rfl ?_
              refine wp_exit ?_
              refine wp_seq ?_
              refine WL.start ?_
              refine WL.block (c := 3) (m' := 3) h581q rfl [(62, .int .u8 (IntKind.u8.wrap x573q)), (61, .int .u32 x573q), (60, .slice A575q x574q.length c576q)] (by kernel_rfl) (fun a609q h610q => ?_)
              clear h581q a580q
              refine WL.op' (m := 3) h610q rfl rfl ?_
              refine owp_new (fun g_ => .slice (some ⟨g_, 0, none⟩) 1 1) (.cells ([.int .u8 (IntKind.u8.wrap x573q)] : List Value).toArray 5 (0, 0)) h610q rfl (by kernel_rfl) (by kernel_rfl) hS571q (fun a611q W613q g614q h612q hS615q => ?_)
              clear h610q a609q
              have hr616q : Row (kInt .u8) 5 b w0 R (.slice (some ⟨g614q, 0, none⟩) 1 1) ([IntKind.u8.wrap x573q] : List Int) [(g614q, .cells ([.int .u8 (IntKind.u8.wrap x573q)] : List Value).toArray 5 (0, 0))] := Row.lit (xs := ([IntKind.u8.wrap x573q] : List Int)) (Mi := []) ⟨_, _, [], _, rfl, rfl, ⟨rfl, rfl⟩, ⟨rfl, rfl⟩⟩ (by simp [maxLen])
              by_cases c617q : x574q.length + 1 ≤ 140737488355328
              · rw [if_pos c617q] at H
                have hS618q : St b w0 W613q R (M577q :: [(g614q, .cells ([.int .u8 (IntKind.u8.wrap x573q)] : List Value).toArray 5 (0, 0))] :: Fs) := hS615q.bring 1 rfl rfl
                refine WL.op' (m := 4) h612q rfl rfl ?_
                refine owp_app_take (z := .int .u8 0) (bytes := 1) (dk := (kInt .u8)) h612q rfl (by kernel_rfl) rfl rfl rfl hr578q hr616q hS618q Tryd.underlying22 (by kernel_rfl) rfl (by decide) (by decide) (by first | omega | (simp only [List.length_cons, List.length_nil] at *; omega)) (fun a619q W621q v622q M623q h620q hr624q hS625q => ?_)
                clear h612q a611q
                obtain ⟨y626q, hy627q, H⟩ := lete H
                have hr628q : Row (kInt .u8) 5 b w0 R v622q y626q M623q := by rw [hy627q]; exact hr624q
                clear hr624q
                obtain ⟨A629q, c630q, rfl⟩ := hr628q.form
                refine WL.block (c := 1) (m' := 6) h620q rfl [(8, .slice A629q y626q.length c630q)] (by kernel_rfl) (fun a631q h632q => ?_)
                clear h620q a619q
                refine WL.done (by kernel_rfl) ?_
                refine wp_ret ?_
                obtain rfl := Option.some.inj H
                repeat (first | refine then_ret ?_ | refine inBlock_ret ?_ | refine inBlock_go ?_)
                refine body_ret (v := .slice A629q y626q.length c630q) h632q (by kernel_rfl) (by kernel_rfl) ?_
                exact ⟨.slice A629q y626q.length c630q, M623q, rfl, hr628q, hS625q⟩
              · rw [if_neg c617q] at H
                cases H
          · rw [if_neg c550q] at H
            cases H
      · rw [if_neg c508q] at H
        cases H
  · rw [if_neg c496q] at H
    have hb_ : r487q = false := (Bool.eq_false_iff.2 c496q)
    try rw [hb_] at h495q
    clear hb_
    refine WL.skipped (m := 4) h495q rfl rfl (by kernel_rfl) rfl (fun a633q h634q => ?_)
    clear h495q a494q
    refine WL.skipped (m := 5) h634q rfl rfl (by kernel_rfl) rfl (fun a635q h636q => ?_)
    clear h634q a633q
    refine WL.block (c := 1) (m' := 7) h636q rfl [(20, .bool true)] (by kernel_rfl) (fun a637q h638q => ?_)
    clear h636q a635q
    refine WL.done (by kernel_rfl) ?_
    refine wp_then h638q rfl ?_
    refine wp_seq ?_
    refine WL.start ?_
    refine WL.block (c := 2) (m' := 2) h638q rfl [(8, .slice A480q r470q.length c481q), (21, .slice A480q r470q.length c481q)] (by kernel_rfl) (fun a639q h640q => ?_)
    clear h638q a637q
    refine WL.done (by kernel_rfl) ?_
    refine wp_ret ?_
    obtain rfl := Option.some.inj H
    repeat (first | refine then_ret ?_ | refine inBlock_ret ?_ | refine inBlock_go ?_)
    refine body_ret (v := .slice A480q r470q.length c481q) h640q (by kernel_rfl) (by kernel_rfl) ?_
    exact ⟨.slice A480q r470q.length c481q, M477q, rfl, hr478q, hS493q⟩

def G0 : List S52 := [⟨[58, 97, 117, 116, 104, 111, 114, 105, 116, 121], [], false⟩, ⟨[58, 109, 101, 116, 104, 111, 100], [71, 69, 84], false⟩, ⟨[58, 109, 101, 116, 104, 111, 100], [80, 79, 83, 84], false⟩, ⟨[58, 112, 97, 116, 104], [47], false⟩, ⟨[58, 112, 97, 116, 104], [47, 105, 110, 100, 101, 120, 46, 104, 116, 109, 108], false⟩, ⟨[58, 115, 99, 104, 101, 109, 101], [104, 116, 116, 112], false⟩, ⟨[58, 115, 99, 104, 101, 109, 101], [104, 116, 116, 112, 115], false⟩, ⟨[58, 115, 116, 97, 116, 117, 115], [50, 48, 48], false⟩, ⟨[58, 115, 116, 97, 116, 117, 115], [50, 48, 52], false⟩, ⟨[58, 115, 116, 97, 116, 117, 115], [50, 48, 54], false⟩, ⟨[58, 115, 116, 97, 116, 117, 115], [51, 48, 52], false⟩, ⟨[58, 115, 116, 97, 116, 117, 115], [52, 48, 48], false⟩, ⟨[58, 115, 116, 97, 116, 117, 115], [52, 48, 52], false⟩, ⟨[58, 115, 116, 97, 116, 117, 115], [53, 48, 48], false⟩, ⟨[97, 99, 99, 101, 112, 116, 45, 99, 104, 97, 114, 115, 101, 116], [], false⟩, ⟨[97, 99, 99, 101, 112, 116, 45, 101, 110, 99, 111, 100, 105, 110, 103], [103, 122, 105, 112, 44, 32, 100, 101, 102, 108, 97, 116, 101], false⟩, ⟨[97, 99, 99, 101, 112, 116, 45, 108, 97, 110, 103, 117, 97, 103, 101], [], false⟩, ⟨[97, 99, 99, 101, 112, 116, 45, 114, 97, 110, 103, 101, 115], [], false⟩, ⟨[97, 99, 99, 101, 112, 116], [], false⟩, ⟨[97, 99, 99, 101, 115, 115, 45, 99, 111, 110, 116, 114, 111, 108, 45, 97, 108, 108, 111, 119, 45, 111, 114, 105, 103, 105, 110], [], false⟩, ⟨[97, 103, 101], [], false⟩, ⟨[97, 108, 108, 111, 119], [], false⟩, ⟨[97, 117, 116, 104, 111, 114, 105, 122, 97, 116, 105, 111, 110], [], false⟩, ⟨[99, 97, 99, 104, 101, 45, 99, 111, 110, 116, 114, 111, 108], [], false⟩, ⟨[99, 111, 110, 116, 101, 110, 116, 45, 100, 105, 115, 112, 111, 115, 105, 116, 105, 111, 110], [], false⟩, ⟨[99, 111, 110, 116, 101, 110, 116, 45, 101, 110, 99, 111, 100, 105, 110, 103], [], false⟩, ⟨[99, 111, 110, 116, 101, 110, 116, 45, 108, 97, 110, 103, 117, 97, 103, 101], [], false⟩, ⟨[99, 111, 110, 116, 101, 110, 116, 45, 108, 101, 110, 103, 116, 104], [], false⟩, ⟨[99, 111, 110, 116, 101, 110, 116, 45, 108, 111, 99, 97, 116, 105, 111, 110], [], false⟩, ⟨[99, 111, 110, 116, 101, 110, 116, 45, 114, 97, 110, 103, 101], [], false⟩, ⟨[99, 111, 110, 116, 101, 110, 116, 45, 116, 121, 112, 101], [], false⟩, ⟨[99, 111, 111, 107, 105, 101], [], false⟩, ⟨[100, 97, 116, 101], [], false⟩, ⟨[101, 116, 97, 103], [], false⟩, ⟨[101, 120, 112, 101, 99, 116], [], false⟩, ⟨[101, 120, 112, 105, 114, 101, 115], [], false⟩, ⟨[102, 114, 111, 109], [], false⟩, ⟨[104, 111, 115, 116], [], false⟩, ⟨[105, 102, 45, 109, 97, 116, 99, 104], [], false⟩, ⟨[105, 102, 45, 109, 111, 100, 105, 102, 105, 101, 100, 45, 115, 105, 110, 99, 101], [], false⟩, ⟨[105, 102, 45, 110, 111, 110, 101, 45, 109, 97, 116, 99, 104], [], false⟩, ⟨[105, 102, 45, 114, 97, 110, 103, 101], [], false⟩, ⟨[105, 102, 45, 117, 110, 109, 111, 100, 105, 102, 105, 101, 100, 45, 115, 105, 110, 99, 101], [], false⟩, ⟨[108, 97, 115, 116, 45, 109, 111, 100, 105, 102, 105, 101, 100], [], false⟩, ⟨[108, 105, 110, 107], [], false⟩, ⟨[108, 111, 99, 97, 116, 105, 111, 110], [], false⟩, ⟨[109, 97, 120, 45, 102, 111, 114, 119, 97, 114, 100, 115], [], false⟩, ⟨[112, 114, 111, 120, 121, 45, 97, 117, 116, 104, 101, 110, 116, 105, 99, 97, 116, 101], [], false⟩, ⟨[112, 114, 111, 120, 121, 45, 97, 117, 116, 104, 111, 114, 105, 122, 97, 116, 105, 111, 110], [], false⟩, ⟨[114, 97, 110, 103, 101], [], false⟩, ⟨[114, 101, 102, 101, 114, 101, 114], [], false⟩, ⟨[114, 101, 102, 114, 101, 115, 104], [], false⟩, ⟨[114, 101, 116, 114, 121, 45, 97, 102, 116, 101, 114], [], false⟩, ⟨[115, 101, 114, 118, 101, 114], [], false⟩, ⟨[115, 101, 116, 45, 99, 111, 111, 107, 105, 101], [], false⟩, ⟨[115, 116, 114, 105, 99, 116, 45, 116, 114, 97, 110, 115, 112, 111, 114, 116, 45, 115, 101, 99, 117, 114, 105, 116, 121], [], false⟩, ⟨[116, 114, 97, 110, 115, 102, 101, 114, 45, 101, 110, 99, 111, 100, 105, 110, 103], [], false⟩, ⟨[117, 115, 101, 114, 45, 97, 103, 101, 110, 116], [], false⟩, ⟨[118, 97, 114, 121], [], false⟩, ⟨[118, 105, 97], [], false⟩, ⟨[119, 119, 119, 45, 97, 117, 116, 104, 101, 110, 116, 105, 99, 97, 116, 101], [], false⟩]
theorem G0qlen : G0.length = 61 := by kernel_rfl
abbrev GC0 : List Value := G0.flatMap (fun x : S52 => ([.string (mkS x.f0), .string (mkS x.f1), .bool x.f2] : List Value))
theorem GC0qat {b : Nat} {w0 : World} {R : Frag} (h : Rds k52 b w0 R (.slice (some ⟨0, 0, none⟩) 61 61) G0) : ∀ j u, GC0[j]? = some u → Kn b w0 R ((⟨0, 0, none⟩ : Addr).add j) u := Rds.flat_cells (by decide) (fun h_ => k52qrd h_) (fun _ => rfl) h
/-! ### louver/statics.Find -/
def statics_Find.l0 : Nat → Int → Int → (List UInt8) → (List UInt8) → Option (Int × Bool)
  | 0, _, _, _, _ => none
  | k + 1, x178q, x179q, p0, p1 => if x179q < 61 then (if 0 ≤ x179q then (if x179q < (61 : Int) then (if ((gt z52 G0 x179q).f0) = p0 then (if ((gt z52 G0 x179q).f1) = p1 then (some (IntKind.i64.wrap (x179q + 1), true)) else (if x178q = 0 then (statics_Find.l0 k (IntKind.i64.wrap (x179q + 1)) (IntKind.i64.wrap (x179q + 1)) p0 p1) else (statics_Find.l0 k x178q (IntKind.i64.wrap (x179q + 1)) p0 p1))) else (statics_Find.l0 k x178q (IntKind.i64.wrap (x179q + 1)) p0 p1)) else (none)) else (none)) else (some (x178q, false))
def statics_Find.f (k : Nat) (p0 : (List UInt8)) (p1 : (List UInt8)) : Option (Int × Bool) := statics_Find.l0 k 0 0 p0 p1
set_option maxHeartbeats 2000000 in
set_option maxRecDepth 100000 in
theorem statics_Find.calls (k : Nat) {b : Nat} {w0 W : World} {R : Frag} {Fs : List Frag} {p0 : (List UInt8)} {p1 : (List UInt8)}  {r0q : Int} {r1q : Bool} (hg0 : Rds k52 b w0 [] (.slice (some ⟨0, 0, none⟩) 61 61) G0) (H : statics_Find.f k p0 p1 = some (r0q, r1q)) (hS : St b w0 W R (Fs)) :
    Calls Tryd.prog 55 ([.string (mkS p0), .string (mkS p1)] : List Value).toArray W (fun e W' => e = .returned (.tuple #[.int .i64 r0q, .bool r1q]) ∧ St b w0 W' R (Fs)) := by
  unfold statics_Find.f at H
  refine calls_enter Tryd.func55 rfl 33 rfl (by kernel_rfl) (fun a h => ?_)
  refine wp_seq ?_
  refine WL.start ?_
  refine WL.block (c := 2) (m' := 2) h rfl [(5, .bool false), (4, .int .i64 0)] (by kernel_rfl) (fun a165q h166q => ?_)
  refine WL.done (by kernel_rfl) ?_
  refine wp_seq ?_
  refine WL.start ?_
  refine WL.block (c := 1) (m' := 1) h166q rfl [(6, .int .i64 0)] (by kernel_rfl) (fun a167q h168q => ?_)
  clear h166q a165q
  refine WL.done (by kernel_rfl) ?_
  refine wp_seq ?_
  refine wp_seq ?_
  refine WL.start ?_
  refine WL.op' (m := 0) h168q rfl rfl ?_
  refine owp_run (v := .agg GC0.toArray) h168q rfl (by kernel_rfl) (run_loadN rfl rfl Tryd.underlying106 rfl (cs := GC0) (by kernel_rfl) (fun _ _ hj_ => (fun _ _ hk_ => hS.kn hk_) _ _ ((GC0qat hg0 _ _ hj_).mono (fun _ h_ => by cases h_)))) (fun a169q h170q => ?_)
  clear h168q a167q
  refine WL.block (c := 1) (m' := 2) h170q rfl [(10, .int .i64 0)] (by kernel_rfl) (fun a171q h172q => ?_)
  clear h170q a169q
  refine WL.done (by kernel_rfl) ?_
  refine wp_block ?_
  refine wp_loop_ghost (fun kq_ a_ W_ => ∃ (x178q : Int), ∃ (x179q : Int), Hd a_ 33 [(0, .string (mkS p0)), (1, .string (mkS p1)), (6, .int .i64 x178q), (9, .agg GC0.toArray), (10, .int .i64 x179q)] ∧ Asd (statics_Find.l0 kq_ x178q x179q p0 p1 = some (r0q, r1q)) ∧ Asd (kq_ ≤ k) ∧ Asd (St b w0 W_ R (Fs))) k ⟨0, 0, h172q.keep ⟨rfl, rfl, rfl, rfl, rfl, trivial⟩, ⟨H⟩, ⟨Nat.le_refl _⟩, ⟨hS⟩⟩ ?_
  clear H hS
  rintro k177q a174q W175q ⟨x178q, x179q, h173q, ⟨H⟩, ⟨hkk177q⟩, ⟨hS176q⟩⟩
  obtain _ | k180q := k177q
  · exact absurd H (by simp [statics_Find.l0])
  simp only [statics_Find.l0] at H
  refine wp_seq ?_
  refine WL.start ?_
  refine WL.block (c := 1) (m' := 1) h173q rfl [(11, .bool (decide (x179q < 61)))] (by kernel_rfl) (fun a181q h182q => ?_)
  clear h173q a174q
  refine WL.done (by kernel_rfl) ?_
  refine wp_seq ?_
  by_cases c183q : x179q < 61
  · rw [if_pos c183q] at H
    have hb_ : (decide (x179q < 61)) = true := decide_eq_true c183q
    try rw [hb_] at h182q
    clear hb_
    refine wp_then h182q rfl ?_
    refine wp_skip ?_
    refine wp_seq ?_
    refine wp_block ?_
    refine wp_seq ?_
    refine WL.start ?_
    refine WL.block (c := 1) (m' := 1) h182q rfl [(12, .int .i64 x179q)] (by kernel_rfl) (fun a184q h185q => ?_)
    clear h182q a181q
    by_cases c186q : 0 ≤ x179q
    · rw [if_pos c186q] at H
      by_cases c187q : x179q < (61 : Int)
      · rw [if_pos c187q] at H
        have hi188q : 0 ≤ x179q := by first | assumption | omega
        have hi190q : x179q < ((61 : Nat) : Int) := by omega
        have hi189q : x179q < (G0.length : Int) := by rw [G0qlen]; exact hi190q
        refine WL.op' (m := 1) h185q rfl rfl ?_
        refine owp_run (v := .agg #[.string (mkS ((gt z52 G0 x179q).f0)), .string (mkS ((gt z52 G0 x179q).f1)), .bool ((gt z52 G0 x179q).f2)]) h185q rfl (by kernel_rfl) (run_index_st rfl rfl rfl Tryd.underlying106 Tryd.underlying52 rfl (by kernel_rfl) hi188q hi190q (sz := 3) (cs' := ([.string (mkS ((gt z52 G0 x179q).f0)), .string (mkS ((gt z52 G0 x179q).f1)), .bool ((gt z52 G0 x179q).f2)] : List Value)) (flat_at (f := (fun x : S52 => ([.string (mkS x.f0), .string (mkS x.f1), .bool x.f2] : List Value))) (sz := 3) (fun _ => rfl) G0 _ _ (gt_get (z := z52) hi188q hi189q))) (fun a191q h192q => ?_)
        clear h185q a184q
        refine WL.op' (m := 2) h192q rfl rfl ?_
        refine owp_new (fun g_ => .pointer (some ⟨g_, 0, none⟩)) (.cells ([.string (mkS ([] : List UInt8)), .string (mkS ([] : List UInt8)), .bool false] : List Value).toArray 52 (0, 0)) h192q rfl (by kernel_rfl) (by kernel_rfl) hS176q (fun a193q W195q g196q h194q hS197q => ?_)
        clear h192q a191q
        refine WL.block (c := 1) (m' := 4) h194q rfl [(7, .int .i64 x179q)] (by kernel_rfl) (fun a198q h199q => ?_)
        clear h194q a193q
        refine WL.op' (m := 4) h199q rfl rfl ?_
        refine owp_store (i := 0) (vs := ([.string (mkS ((gt z52 G0 x179q).f0)), .string (mkS ((gt z52 G0 x179q).f1)), .bool ((gt z52 G0 x179q).f2)] : List Value)) h199q rfl (by kernel_rfl) rfl rfl rfl rfl (by simp [Value.oneCell']) (by kernel_rfl) hS197q (by simp) (cs' := ([.string (mkS ((gt z52 G0 x179q).f0)), .string (mkS ((gt z52 G0 x179q).f1)), .bool ((gt z52 G0 x179q).f2)] : List Value)) rfl (fun a200q W202q h201q hS203q => ?_)
        clear h199q a198q
        refine WL.done (by kernel_rfl) ?_
        refine wp_block ?_
        refine wp_seq ?_
        refine WL.start ?_
        refine WL.block (c := 1) (m' := 1) h201q rfl [(15, .pointer (some ⟨g196q, 0, none⟩))] (by kernel_rfl) (fun a204q h205q => ?_)
        clear h201q a200q
        refine WL.op' (m := 1) h205q rfl rfl ?_
        refine owp_run (v := .string (mkS ((gt z52 G0 x179q).f0))) h205q rfl (by kernel_rfl) (run_load1 rfl rfl Tryd.underlying9 rfl (hS203q.cell (i := 0) rfl)) (fun a206q h207q => ?_)
        clear h205q a204q
        refine WL.block (c := 1) (m' := 3) h207q rfl [(17, .string (mkS p0))] (by kernel_rfl) (fun a208q h209q => ?_)
        clear h207q a206q
        refine WL.op' (m := 3) h209q rfl rfl ?_
        refine owp_run (v := .bool (!decide (((gt z52 G0 x179q).f0) = p0))) h209q rfl (by kernel_rfl) (run_strne rfl rfl rfl) (fun a210q h211q => ?_)
        clear h209q a208q
        refine WL.block (c := 1) (m' := 5) h211q rfl [(14, .bool (!decide (((gt z52 G0 x179q).f0) = p0)))] (by kernel_rfl) (fun a212q h213q => ?_)
        clear h211q a210q
        refine WL.done (by kernel_rfl) ?_
        by_cases c214q : ((gt z52 G0 x179q).f0) = p0
        · rw [if_pos c214q] at H
          have hb_ : (decide (((gt z52 G0 x179q).f0) = p0)) = true := decide_eq_true c214q
          try rw [hb_] at h213q
          clear hb_
          refine wp_else h213q rfl ?_
          refine wp_seq ?_
          refine WL.start ?_
          refine WL.block (c := 1) (m' := 1) h213q rfl [(20, .pointer (some ⟨g196q, 1, none⟩))] (by kernel_rfl) (fun a215q h216q => ?_)
          clear h213q a212q
          refine WL.op' (m := 1) h216q rfl rfl ?_
          refine owp_run (v := .string (mkS ((gt z52 G0 x179q).f1))) h216q rfl (by kernel_rfl) (run_load1 rfl rfl Tryd.underlying9 rfl (hS203q.cell (i := 1) rfl)) (fun a217q h218q => ?_)
          clear h216q a215q
          refine WL.block (c := 1) (m' := 3) h218q rfl [(22, .string (mkS p1))] (by kernel_rfl) (fun a219q h220q => ?_)
          clear h218q a217q
          refine WL.op' (m := 3) h220q rfl rfl ?_
          refine owp_run (v := .bool (decide (((gt z52 G0 x179q).f1) = p1))) h220q rfl (by kernel_rfl) (run_streq rfl rfl rfl) (fun a221q h222q => ?_)
          clear h220q a219q
          refine WL.block (c := 1) (m' := 5) h222q rfl [(19, .bool (decide (((gt z52 G0 x179q).f1) = p1)))] (by kernel_rfl) (fun a223q h224q => ?_)
          clear h222q a221q
          refine WL.done (by kernel_rfl) ?_
          by_cases c225q : ((gt z52 G0 x179q).f1) = p1
          · rw [if_pos c225q] at H
            have hb_ : (decide (((gt z52 G0 x179q).f1) = p1)) = true := decide_eq_true c225q
            try rw [hb_] at h224q
            clear hb_
            refine wp_then h224q rfl ?_
            refine wp_seq ?_
            refine WL.start ?_
            refine WL.block (c := 4) (m' := 4) h224q rfl [(5, .bool true), (4, .int .i64 (IntKind.i64.wrap (x179q + 1))), (25, .int .i64 (IntKind.i64.wrap (x179q + 1))), (24, .int .i64 x179q)] (by kernel_rfl) (fun a226q h227q => ?_)
            clear h224q a223q
            refine WL.done (by kernel_rfl) ?_
            refine wp_ret ?_
            have hS228q : St b w0 W202q R (Fs) := hS203q.drop_
            obtain ⟨rfl, rfl⟩ := ret2 H
            repeat (first | refine then_ret ?_ | refine inBlock_ret ?_ | refine inBlock_go ?_)
            refine body_ret (v := .tuple #[.int .i64 (IntKind.i64.wrap (x179q + 1)), .bool true]) h227q (by kernel_rfl) (by kernel_rfl) ?_
            exact ⟨rfl, hS228q⟩
          · rw [if_neg c225q] at H
            have hb_ : (decide (((gt z52 G0 x179q).f1) = p1)) = false := decide_eq_false c225q
            try rw [hb_] at h224q
            clear hb_
            refine wp_else h224q rfl ?_
            refine wp_seq ?_
            refine WL.start ?_
            refine WL.block (c := 3) (m' := 3) h224q rfl [(26, .bool (decide (x178q = 0))), (28, .bool (decide (x178q = 0))), (27, .int .i64 x178q)] (by kernel_rfl) (fun a229q h230q => ?_)
            clear h224q a223q
            refine WL.done (by kernel_rfl) ?_
            by_cases c231q : x178q = 0
            · rw [if_pos c231q] at H
              have hb_ : (decide (x178q = 0)) = true := decide_eq_true c231q
              try rw [hb_] at h230q
              clear hb_
              refine wp_then h230q rfl ?_
              refine WL.start ?_
              refine WL.block (c := 3) (m' := 3) h230q rfl [(6, .int .i64 (IntKind.i64.wrap (x179q + 1))), (30, .int .i64 (IntKind.i64.wrap (x179q + 1))), (29, .int .i64 x179q)] (by kernel_rfl) (fun a232q h233q => ?_)
              clear h230q a229q
              refine WL.done (by kernel_rfl) ?_
              refine WL.start ?_
              refine WL.block (c := 2) (m' := 2) h233q rfl [(10, .int .i64 (IntKind.i64.wrap (x179q + 1))), (31, .int .i64 (IntKind.i64.wrap (x179q + 1)))] (by kernel_rfl) (fun a234q h235q => ?_)
              clear h233q a232q
              refine WL.done (by kernel_rfl) ?_
              have hS236q : St b w0 W202q R (Fs) := hS203q.drop_
              exact ⟨k180q, by omega, IntKind.i64.wrap (x179q + 1), IntKind.i64.wrap (x179q + 1), h235q.keep ⟨rfl, rfl, rfl, rfl, rfl, trivial⟩, ⟨H⟩, ⟨by omega⟩, ⟨hS236q⟩⟩
            · rw [if_neg c231q] at H
              have hb_ : (decide (x178q = 0)) = false := decide_eq_false c231q
              try rw [hb_] at h230q
              clear hb_
              refine wp_else h230q rfl ?_
              refine wp_skip ?_
              refine WL.start ?_
              refine WL.block (c := 2) (m' := 2) h230q rfl [(10, .int .i64 (IntKind.i64.wrap (x179q + 1))), (31, .int .i64 (IntKind.i64.wrap (x179q + 1)))] (by kernel_rfl) (fun a237q h238q => ?_)
              clear h230q a229q
              refine WL.done (by kernel_rfl) ?_
              have hS239q : St b w0 W202q R (Fs) := hS203q.drop_
              exact ⟨k180q, by omega, x178q, IntKind.i64.wrap (x179q + 1), h238q.keep ⟨rfl, rfl, rfl, rfl, rfl, trivial⟩, ⟨H⟩, ⟨by omega⟩, ⟨hS239q⟩⟩
        · rw [if_neg c214q] at H
          have hb_ : (decide (((gt z52 G0 x179q).f0) = p0)) = false := decide_eq_false c214q
          try rw [hb_] at h213q
          clear hb_
          refine wp_then h213q rfl ?_
          refine wp_skip ?_
          refine WL.start ?_
          refine WL.block (c := 2) (m' := 2) h213q rfl [(10, .int .i64 (IntKind.i64.wrap (x179q + 1))), (31, .int .i64 (IntKind.i64.wrap (x179q + 1)))] (by kernel_rfl) (fun a240q h241q => ?_)
          clear h213q a212q
          refine WL.done (by kernel_rfl) ?_
          have hS242q : St b w0 W202q R (Fs) := hS203q.drop_
          exact ⟨k180q, by omega, x178q, IntKind.i64.wrap (x179q + 1), h241q.keep ⟨rfl, rfl, rfl, rfl, rfl, trivial⟩, ⟨H⟩, ⟨by omega⟩, ⟨hS242q⟩⟩
      · rw [if_neg c187q] at H
        cases H
    · rw [if_neg c186q] at H
      cases H
  · rw [if_neg c183q] at H
    have hb_ : (decide (x179q < 61)) = false := decide_eq_false c183q
    try rw [hb_] at h182q
    clear hb_
    refine wp_else h182q rfl ?_
    refine wp_exit ?_
    refine wp_seq ?_
    refine WL.start ?_
    refine WL.block (c := 3) (m' := 3) h182q rfl [(5, .bool false), (4, .int .i64 x178q), (32, .int .i64 x178q)] (by kernel_rfl) (fun a243q h244q => ?_)
    clear h182q a181q
    refine WL.done (by kernel_rfl) ?_
    refine wp_ret ?_
    obtain ⟨rfl, rfl⟩ := ret2 H
    repeat (first | refine then_ret ?_ | refine inBlock_ret ?_ | refine inBlock_go ?_)
    refine body_ret (v := .tuple #[.int .i64 x178q, .bool false]) h244q (by kernel_rfl) (by kernel_rfl) ?_
    exact ⟨rfl, hS176q⟩

/-! ### louver/statics.Len -/
def statics_Len.f  : Option (Int) := some 61
set_option maxHeartbeats 2000000 in
set_option maxRecDepth 100000 in
theorem statics_Len.calls {b : Nat} {w0 W : World} {R : Frag} {Fs : List Frag}   {r0q : Int}  (H : statics_Len.f = some r0q) (hS : St b w0 W R (Fs)) :
    Calls Tryd.prog 51 ([] : List Value).toArray W (fun e W' => e = .returned (.int .i64 r0q) ∧ St b w0 W' R (Fs)) := by
  unfold statics_Len.f at H
  refine calls_enter Tryd.func51 rfl 1 rfl (by kernel_rfl) (fun a h => ?_)
  refine wp_seq ?_
  refine WL.start ?_
  refine WL.block (c := 1) (m' := 1) h rfl [(0, .int .i64 0)] (by kernel_rfl) (fun a5q h6q => ?_)
  refine WL.done (by kernel_rfl) ?_
  refine wp_seq ?_
  refine WL.start ?_
  refine WL.block (c := 1) (m' := 1) h6q rfl [(0, .int .i64 61)] (by kernel_rfl) (fun a7q h8q => ?_)
  clear h6q a5q
  refine WL.done (by kernel_rfl) ?_
  refine wp_ret ?_
  obtain rfl := Option.some.inj H
  repeat (first | refine then_ret ?_ | refine inBlock_ret ?_ | refine inBlock_go ?_)
  refine body_ret (v := .int .i64 61) h8q (by kernel_rfl) (by kernel_rfl) ?_
  exact ⟨rfl, hS⟩

/-! ### (*louver/dyntable.Table).Find -/
def dyntable_Table_Find.l0 : Nat → Int → Int → S79 → (List UInt8) → (List UInt8) → Option (Int × Bool)
  | 0, _, _, _, _, _ => none
  | k + 1, x694q, x695q, p0, p1, p2 => if x695q < (p0.f0.length : Int) then (if 0 ≤ (IntKind.i64.wrap ((IntKind.i64.wrap ((p0.f0.length : Int) - 1)) - x695q)) then (if (IntKind.i64.wrap ((IntKind.i64.wrap ((p0.f0.length : Int) - 1)) - x695q)) < (p0.f0.length : Int) then (bnd1 (statics_Len.f) fun r858q => (if ((gt z52 p0.f0 (IntKind.i64.wrap ((IntKind.i64.wrap ((p0.f0.length : Int) - 1)) - x695q))).f0) = p1 then (if ((gt z52 p0.f0 (IntKind.i64.wrap ((IntKind.i64.wrap ((p0.f0.length : Int) - 1)) - x695q))).f1) = p2 then (some (IntKind.i64.wrap ((IntKind.i64.wrap (r858q + 1)) + x695q), true)) else (if x694q = 0 then (dyntable_Table_Find.l0 k (IntKind.i64.wrap ((IntKind.i64.wrap (r858q + 1)) + x695q)) (IntKind.i64.wrap (x695q + 1)) p0 p1 p2) else (dyntable_Table_Find.l0 k x694q (IntKind.i64.wrap (x695q + 1)) p0 p1 p2))) else (dyntable_Table_Find.l0 k x694q (IntKind.i64.wrap (x695q + 1)) p0 p1 p2))) else (none)) else (none)) else (some (x694q, false))
def dyntable_Table_Find.f (k : Nat) (p0 : S79) (p1 : (List UInt8)) (p2 : (List UInt8)) : Option (Int × Bool) := bnd2 (statics_Find.f k p1 p2) fun r636q r637q => (if r637q = true then (some (r636q, true)) else (dyntable_Table_Find.l0 k r636q 0 p0 p1 p2))
set_option maxHeartbeats 2000000 in
set_option maxRecDepth 100000 in
theorem dyntable_Table_Find.calls (k : Nat) {b : Nat} {w0 W : World} {R : Frag} {Fs : List Frag} {p0 : S79} {p1 : (List UInt8)} {p2 : (List UInt8)}  {v0 : Value} {M0 : Frag} {r0q : Int} {r1q : Bool} (hp0 : Ptr k79 79 b w0 R v0 p0 M0) (hg0 : Rds k52 b w0 [] (.slice (some ⟨0, 0, none⟩) 61 61) G0) (H : dyntable_Table_Find.f k p0 p1 p2 = some (r0q, r1q)) (hS : St b w0 W R (M0 :: Fs)) :
    Calls Tryd.prog 42 ([v0, .string (mkS p1), .string (mkS p2)] : List Value).toArray W (fun e W' => ∃ (O0q : Frag), e = .returned (.tuple #[.int .i64 r0q, .bool r1q]) ∧ Ptr k79 79 b w0 R v0 p0 O0q ∧ St b w0 W' R (O0q :: Fs)) := by
  unfold dyntable_Table_Find.f at H
  refine calls_enter Tryd.func42 rfl 69 rfl (by kernel_rfl) (fun a h => ?_)
  refine wp_seq ?_
  refine WL.start ?_
  refine WL.block (c := 2) (m' := 2) h rfl [(7, .bool false), (6, .int .i64 0)] (by kernel_rfl) (fun a631q h632q => ?_)
  refine WL.done (by kernel_rfl) ?_
  refine wp_seq ?_
  refine WL.start ?_
  refine WL.block (c := 2) (m' := 2) h632q rfl [(15, .string (mkS p2)), (14, .string (mkS p1))] (by kernel_rfl) (fun a633q h634q => ?_)
  clear h632q a631q
  obtain ⟨r636q, r637q, A635q, H⟩ := bind2 H
  refine WL.op' (m := 2) h634q rfl rfl ?_
  refine owp_call [.string (mkS p1), .string (mkS p2)] h634q rfl (by kernel_rfl) rfl Tryd.func55 (by kernel_rfl) rfl (by kernel_rfl) (statics_Find.calls k hg0 A635q hS) (fun e639q W638q hp640q => ?_)
  obtain ⟨rfl, hS643q⟩ := hp640q
  refine ⟨_, rfl, fun a641q h642q => ?_⟩
  clear h634q a633q
  refine WL.block (c := 5) (m' := 8) h642q rfl [(9, .bool r637q), (8, .int .i64 r636q), (18, .bool r637q), (17, .int .i64 r636q), (13, .tuple #[.int .i64 r636q, .bool r637q])] (by kernel_rfl) (fun a644q h645q => ?_)
  clear h642q a641q
  refine WL.done (by kernel_rfl) ?_
  refine wp_seq ?_
  refine wp_seq ?_
  refine WL.start ?_
  refine WL.block (c := 2) (m' := 2) h645q rfl [(20, .bool r637q), (19, .bool r637q)] (by kernel_rfl) (fun a646q h647q => ?_)
  clear h645q a644q
  by_cases c648q : r637q = true
  · rw [if_pos c648q] at H
    have hb_ : r637q = true := c648q
    try rw [hb_] at h647q
    clear hb_
    refine WL.skipped (m := 2) h647q rfl rfl (by kernel_rfl) rfl (fun a649q h650q => ?_)
    clear h647q a646q
    refine WL.skipped (m := 3) h650q rfl rfl (by kernel_rfl) rfl (fun a651q h652q => ?_)
    clear h650q a649q
    refine WL.block (c := 1) (m' := 5) h652q rfl [(23, .bool true)] (by kernel_rfl) (fun a653q h654q => ?_)
    clear h652q a651q
    refine WL.done (by kernel_rfl) ?_
    refine wp_then h654q rfl ?_
    refine wp_seq ?_
    refine WL.start ?_
    refine WL.block (c := 4) (m' := 4) h654q rfl [(7, .bool true), (6, .int .i64 r636q), (25, .bool true), (24, .int .i64 r636q)] (by kernel_rfl) (fun a655q h656q => ?_)
    clear h654q a653q
    refine WL.done (by kernel_rfl) ?_
    refine wp_ret ?_
    obtain ⟨rfl, rfl⟩ := ret2 H
    repeat (first | refine then_ret ?_ | refine inBlock_ret ?_ | refine inBlock_go ?_)
    refine body_ret (v := .tuple #[.int .i64 r636q, .bool true]) h656q (by kernel_rfl) (by kernel_rfl) ?_
    exact ⟨M0, rfl, hp0, hS643q⟩
  · rw [if_neg c648q] at H
    have hb_ : r637q = false := (Bool.eq_false_iff.2 c648q)
    try rw [hb_] at h647q
    clear hb_
    refine WL.op' (m := 2) h647q rfl rfl (owp_run h647q rfl (by kernel_rfl) (v := v0) (by kernel_rfl) (fun a657q h658q => ?_))
    clear h647q a646q
    obtain ⟨g659q, cs660q, M661q, hv_, hM_, hr662q⟩ := hp0
    obtain ⟨v663q, M664q, rfl, hM2q, hr665q⟩ := k79qrep hr662q
    subst hM2q
    subst hM_
    subst hv_
    replace hr665q : Row k52 52 b w0 R v663q p0.f0 M661q := hr665q
    obtain ⟨A666q, c667q, rfl⟩ := hr665q.form
    have hS668q : St b w0 W638q R ([(g659q, .cells ([.slice A666q p0.f0.length c667q, .int .i64 p0.f1, .int .i64 p0.f2] : List Value).toArray 79 (0, 0))] :: M661q :: Fs) := hS643q.assoc (by simp only [List.flatten_cons, List.append_assoc, List.cons_append, List.nil_append, List.append_nil])
    refine WL.op' (m := 3) h658q rfl rfl (owp_run h658q rfl (by kernel_rfl) (v := .bool false) (by kernel_rfl) (fun a669q h670q => ?_))
    clear h658q a657q
    refine WL.block (c := 1) (m' := 5) h670q rfl [(23, .bool false)] (by kernel_rfl) (fun a671q h672q => ?_)
    clear h670q a669q
    refine WL.done (by kernel_rfl) ?_
    refine wp_else h672q rfl ?_
    refine wp_skip ?_
    refine wp_seq ?_
    refine wp_seq ?_
    refine WL.start ?_
    refine WL.block (c := 3) (m' := 3) h672q rfl [(28, .pointer (some ⟨g659q, 0, none⟩)), (27, .pointer (some ⟨g659q, 0, none⟩)), (26, .pointer (some ⟨g659q, 0, none⟩))] (by kernel_rfl) (fun a673q h674q => ?_)
    clear h672q a671q
    refine WL.op' (m := 3) h674q rfl rfl ?_
    refine owp_run (v := .slice A666q p0.f0.length c667q) h674q rfl (by kernel_rfl) (run_load1 rfl rfl Tryd.underlying23 rfl (hS668q.cell (i := 0) rfl)) (fun a675q h676q => ?_)
    clear h674q a673q
    refine WL.block (c := 2) (m' := 6) h676q rfl [(31, .int .i64 0), (30, .int .i64 (p0.f0.length : Int))] (by kernel_rfl) (fun a677q h678q => ?_)
    clear h676q a675q
    refine WL.done (by kernel_rfl) ?_
    refine wp_block ?_
    have hS679q : St b w0 W638q R (M661q :: [(g659q, .cells ([.slice A666q p0.f0.length c667q, .int .i64 p0.f1, .int .i64 p0.f2] : List Value).toArray 79 (0, 0))] :: Fs) := hS668q.bring 1 rfl rfl
    have hS680q : St b w0 W638q R ([(g659q, .cells ([.slice A666q p0.f0.length c667q, .int .i64 p0.f1, .int .i64 p0.f2] : List Value).toArray 79 (0, 0))] :: M661q :: Fs) := hS679q.bring 1 rfl rfl
    obtain ⟨M682q, hr681q, hM_⟩ := k79qmk (b := b) (w0 := w0) (R := R) (x := p0) (gvf0 := hr665q)
    have hp683q : Ptr k79 79 b w0 R (.pointer (some ⟨g659q, 0, none⟩)) p0 ((g659q, .cells ([.slice A666q p0.f0.length c667q, .int .i64 p0.f1, .int .i64 p0.f2] : List Value).toArray 79 (0, 0)) :: M682q) := ⟨_, _, _, rfl, rfl, hr681q⟩
    rw [hM_] at hp683q
    have hS685q : St b w0 W638q R (((g659q, .cells ([.slice A666q p0.f0.length c667q, .int .i64 p0.f1, .int .i64 p0.f2] : List Value).toArray 79 (0, 0)) :: (M661q)) :: Fs) := hS680q.assoc (by simp only [List.flatten_cons, List.append_assoc, List.cons_append, List.nil_append, List.append_nil])
    obtain ⟨M686q, hM_⟩ : ∃ y : Frag, y = ((g659q, .cells ([.slice A666q p0.f0.length c667q, .int .i64 p0.f1, .int .i64 p0.f2] : List Value).toArray 79 (0, 0)) :: (M661q)) := ⟨_, rfl⟩
    rw [← hM_] at hp683q hS685q
    clear hM_
    refine wp_loop_ghost (fun kq_ a_ W_ => ∃ (M692q : Frag), ∃ (x694q : Int), ∃ (x695q : Int), Hd a_ 69 [(0, .pointer (some ⟨g659q, 0, none⟩)), (1, .string (mkS p1)), (2, .string (mkS p2)), (8, .int .i64 x694q), (30, .int .i64 (p0.f0.length : Int)), (31, .int .i64 x695q)] ∧ Asd (dyntable_Table_Find.l0 kq_ x694q x695q p0 p1 p2 = some (r0q, r1q)) ∧ Asd (kq_ ≤ k) ∧ Asd (St b w0 W_ R (M692q :: Fs)) ∧ Asd (Ptr k79 79 b w0 R (.pointer (some ⟨g659q, 0, none⟩)) p0 M692q)) k ⟨M686q, r636q, 0, h678q.keep ⟨rfl, rfl, rfl, rfl, rfl, rfl, trivial⟩, ⟨H⟩, ⟨Nat.le_refl _⟩, ⟨hS685q⟩, ⟨hp683q⟩⟩ ?_
    clear H hS685q
    rintro k691q a688q W689q ⟨M692q, x694q, x695q, h687q, ⟨H⟩, ⟨hkk691q⟩, ⟨hS690q⟩, ⟨hr693q⟩⟩
    obtain _ | k696q := k691q
    · exact absurd H (by simp [dyntable_Table_Find.l0])
    simp only [dyntable_Table_Find.l0] at H
    refine wp_seq ?_
    refine WL.start ?_
    refine WL.block (c := 1) (m' := 1) h687q rfl [(32, .bool (decide (x695q < (p0.f0.length : Int))))] (by kernel_rfl) (fun a697q h698q => ?_)
    clear h687q a688q
    refine WL.done (by kernel_rfl) ?_
    refine wp_seq ?_
    by_cases c699q : x695q < (p0.f0.length : Int)
    · rw [if_pos c699q] at H
      have hb_ : (decide (x695q < (p0.f0.length : Int))) = true := decide_eq_true c699q
      try rw [hb_] at h698q
      clear hb_
      refine wp_then h698q rfl ?_
      refine wp_skip ?_
      refine wp_seq ?_
      refine wp_block ?_
      refine wp_seq ?_
      refine WL.start ?_
      refine WL.block (c := 2) (m' := 2) h698q rfl [(10, .int .i64 x695q), (33, .int .i64 x695q)] (by kernel_rfl) (fun a700q h701q => ?_)
      clear h698q a697q
      refine WL.done (by kernel_rfl) ?_
      refine wp_seq ?_
      obtain ⟨g702q, cs703q, M704q, hv_, hM_, hr705q⟩ := hr693q
      obtain ⟨v706q, M707q, rfl, hM2q, hr708q⟩ := k79qrep hr705q
      subst hM2q
      subst hM_
      have hg_ : g659q = g702q := by simpa using hv_
      subst hg_
      clear hv_
      replace hr708q : Row k52 52 b w0 R v706q p0.f0 M704q := hr708q
      obtain ⟨A709q, c710q, rfl⟩ := hr708q.form
      have hS711q : St b w0 W689q R ([(g659q, .cells ([.slice A709q p0.f0.length c710q, .int .i64 p0.f1, .int .i64 p0.f2] : List Value).toArray 79 (0, 0))] :: M704q :: Fs) := hS690q.assoc (by simp only [List.flatten_cons, List.append_assoc, List.cons_append, List.nil_append, List.append_nil])
      refine WT.start 15 (fun w_ => (w_.cell? ⟨g659q, 0, none⟩ = some (.slice A709q p0.f0.length c710q)) ∧ (∀ a_ u_, Kn b w0 (M704q ++ R) a_ u_ → w_.cell? a_ = some u_) ∧ True) (by kernel_rfl) #[false, false, false, false, false, false, false, false, false, false, false, false, false, false, false, false] 16 rfl rfl ?_
      have hS808q := hS711q.drew
      refine WT.take 0 (listed' := #[true, false, false, false, false, false, false, false, false, false, false, false, false, false, false, false]) h701q rfl rfl (by kernel_rfl) rfl rfl (.pointer (some ⟨g659q, 0, none⟩)) (fun _ _ => by kernel_rfl) ⟨(hS808q.cell (i := 0) rfl), (fun _ _ hk_ => (hS808q.bring 1 rfl rfl).pool.kn hk_), trivial⟩ (fun _ _ _ h_ => h_) (fun a809q h810q => ?_)
      clear h701q a700q
      refine WT.take 1 (listed' := #[true, true, false, false, false, false, false, false, false, false, false, false, false, false, false, false]) h810q rfl rfl (by kernel_rfl) rfl rfl (.pointer (some ⟨g659q, 0, none⟩)) (fun _ _ => by kernel_rfl) ⟨(hS808q.cell (i := 0) rfl), (fun _ _ hk_ => (hS808q.bring 1 rfl rfl).pool.kn hk_), trivial⟩ (fun _ _ _ h_ => h_) (fun a811q h812q => ?_)
      clear h810q a809q
      refine WT.take 2 (listed' := #[true, true, true, false, false, false, false, false, false, false, false, false, false, false, false, false]) h812q rfl rfl (by kernel_rfl) rfl rfl (.pointer (some ⟨g659q, 0, none⟩)) (fun _ _ => by kernel_rfl) ⟨(hS808q.cell (i := 0) rfl), (fun _ _ hk_ => (hS808q.bring 1 rfl rfl).pool.kn hk_), trivial⟩ (fun _ _ _ h_ => h_) (fun a813q h814q => ?_)
      clear h812q a811q
      refine WT.take 4 (listed' := #[true, true, true, false, true, false, false, false, false, false, false, false, false, false, false, false]) h814q rfl rfl (by kernel_rfl) rfl rfl (.pointer (some ⟨g659q, 0, none⟩)) (fun _ _ => by kernel_rfl) ⟨(hS808q.cell (i := 0) rfl), (fun _ _ hk_ => (hS808q.bring 1 rfl rfl).pool.kn hk_), trivial⟩ (fun _ _ _ h_ => h_) (fun a815q h816q => ?_)
      clear h814q a813q
      refine WT.take 5 (listed' := #[true, true, true, false, true, true, false, false, false, false, false, false, false, false, false, false]) h816q rfl rfl (by kernel_rfl) rfl rfl (.pointer (some ⟨g659q, 0, none⟩)) (fun _ _ => by kernel_rfl) ⟨(hS808q.cell (i := 0) rfl), (fun _ _ hk_ => (hS808q.bring 1 rfl rfl).pool.kn hk_), trivial⟩ (fun _ _ _ h_ => h_) (fun a817q h818q => ?_)
      clear h816q a815q
      refine WT.take 6 (listed' := #[true, true, true, false, true, true, true, false, false, false, false, false, false, false, false, false]) h818q rfl rfl (by kernel_rfl) rfl rfl (.pointer (some ⟨g659q, 0, none⟩)) (fun _ _ => by kernel_rfl) ⟨(hS808q.cell (i := 0) rfl), (fun _ _ hk_ => (hS808q.bring 1 rfl rfl).pool.kn hk_), trivial⟩ (fun _ _ _ h_ => h_) (fun a819q h820q => ?_)
      clear h818q a817q
      refine WT.take 10 (listed' := #[true, true, true, false, true, true, true, false, false, false, true, false, false, false, false, false]) h820q rfl rfl (by kernel_rfl) rfl rfl (.int .i64 x695q) (fun _ _ => by kernel_rfl) ⟨(hS808q.cell (i := 0) rfl), (fun _ _ hk_ => (hS808q.bring 1 rfl rfl).pool.kn hk_), trivial⟩ (fun _ _ _ h_ => h_) (fun a821q h822q => ?_)
      clear h820q a819q
      refine WT.take 3 (listed' := #[true, true, true, true, true, true, true, false, false, false, true, false, false, false, false, false]) h822q rfl rfl (by kernel_rfl) rfl rfl (.slice A709q p0.f0.length c710q) (fun w_ hs_ => (run_load1 rfl rfl Tryd.underlying23 rfl hs_.1)) ⟨(hS808q.cell (i := 0) rfl), (fun _ _ hk_ => (hS808q.bring 1 rfl rfl).pool.kn hk_), trivial⟩ (fun _ _ _ h_ => h_) (fun a823q h824q => ?_)
      clear h822q a821q
      refine WT.take 7 (listed' := #[true, true, true, true, true, true, true, true, false, false, true, false, false, false, false, false]) h824q rfl rfl (by kernel_rfl) rfl rfl (.slice A709q p0.f0.length c710q) (fun w_ hs_ => (run_load1 rfl rfl Tryd.underlying23 rfl hs_.1)) ⟨(hS808q.cell (i := 0) rfl), (fun _ _ hk_ => (hS808q.bring 1 rfl rfl).pool.kn hk_), trivial⟩ (fun _ _ _ h_ => h_) (fun a825q h826q => ?_)
      clear h824q a823q
      refine WT.take 8 (listed' := #[true, true, true, true, true, true, true, true, true, false, true, false, false, false, false, false]) h826q rfl rfl (by kernel_rfl) rfl rfl (.int .i64 (p0.f0.length : Int)) (fun _ _ => by kernel_rfl) ⟨(hS808q.cell (i := 0) rfl), (fun _ _ hk_ => (hS808q.bring 1 rfl rfl).pool.kn hk_), trivial⟩ (fun _ _ _ h_ => h_) (fun a827q h828q => ?_)
      clear h826q a825q
      refine WT.take 9 (listed' := #[true, true, true, true, true, true, true, true, true, true, true, false, false, false, false, false]) h828q rfl rfl (by kernel_rfl) rfl rfl (.int .i64 (IntKind.i64.wrap ((p0.f0.length : Int) - 1))) (fun _ _ => by kernel_rfl) ⟨(hS808q.cell (i := 0) rfl), (fun _ _ hk_ => (hS808q.bring 1 rfl rfl).pool.kn hk_), trivial⟩ (fun _ _ _ h_ => h_) (fun a829q h830q => ?_)
      clear h828q a827q
      refine WT.take 11 (listed' := #[true, true, true, true, true, true, true, true, true, true, true, true, false, false, false, false]) h830q rfl rfl (by kernel_rfl) rfl rfl (.int .i64 (IntKind.i64.wrap ((IntKind.i64.wrap ((p0.f0.length : Int) - 1)) - x695q))) (fun _ _ => by kernel_rfl) ⟨(hS808q.cell (i := 0) rfl), (fun _ _ hk_ => (hS808q.bring 1 rfl rfl).pool.kn hk_), trivial⟩ (fun _ _ _ h_ => h_) (fun a831q h832q => ?_)
      clear h830q a829q
      by_cases c833q : 0 ≤ (IntKind.i64.wrap ((IntKind.i64.wrap ((p0.f0.length : Int) - 1)) - x695q))
      · rw [if_pos c833q] at H
        by_cases c834q : (IntKind.i64.wrap ((IntKind.i64.wrap ((p0.f0.length : Int) - 1)) - x695q)) < (p0.f0.length : Int)
        · rw [if_pos c834q] at H
          have hi837q : 0 ≤ IntKind.i64.wrap ((IntKind.i64.wrap ((p0.f0.length : Int) - 1)) - x695q) := by first | assumption | omega
          have hi838q : (IntKind.i64.wrap ((IntKind.i64.wrap ((p0.f0.length : Int) - 1)) - x695q)) < (p0.f0.length : Int) := by first | assumption | omega
          obtain ⟨ad835q, _, ha836q, -, -⟩ := Rds.elemAny hr708q.rds hi837q (gt_get (z := z52) hi837q hi838q)
          refine WT.take 12 (listed' := #[true, true, true, true, true, true, true, true, true, true, true, true, true, false, false, false]) h832q rfl rfl (by kernel_rfl) rfl rfl (.pointer (some (ad835q.add ((IntKind.i64.wrap ((IntKind.i64.wrap ((p0.f0.length : Int) - 1)) - x695q)).toNat * 3)))) (fun w_ hs_ => (run_idx (ad := ad835q) (sz := 3) rfl (by rw [← ha836q]; rfl) rfl Tryd.underlying23 (by kernel_rfl) hi837q hi838q)) ⟨(hS808q.cell (i := 0) rfl), (fun _ _ hk_ => (hS808q.bring 1 rfl rfl).pool.kn hk_), trivial⟩ (fun _ _ _ h_ => h_) (fun a839q h840q => ?_)
          clear h832q a831q
          obtain ⟨ad841q, cs842q, ha843q, hr845q, hc844q⟩ := Rds.elemAny hr708q.rds hi837q (gt_get (z := z52) hi837q hi838q)
          rw [ha836q] at ha843q; obtain rfl := Option.some.inj ha843q
          obtain rfl := k52qrd hr845q
          refine WT.take 13 (listed' := #[true, true, true, true, true, true, true, true, true, true, true, true, true, true, false, false]) h840q rfl rfl (by kernel_rfl) rfl rfl (.agg #[.string (mkS ((gt z52 p0.f0 (IntKind.i64.wrap ((IntKind.i64.wrap ((p0.f0.length : Int) - 1)) - x695q))).f0)), .string (mkS ((gt z52 p0.f0 (IntKind.i64.wrap ((IntKind.i64.wrap ((p0.f0.length : Int) - 1)) - x695q))).f1)), .bool ((gt z52 p0.f0 (IntKind.i64.wrap ((IntKind.i64.wrap ((p0.f0.length : Int) - 1)) - x695q))).f2)]) (fun w_ hs_ => (run_loadN rfl rfl Tryd.underlying52 rfl (cs := ([.string (mkS ((gt z52 p0.f0 (IntKind.i64.wrap ((IntKind.i64.wrap ((p0.f0.length : Int) - 1)) - x695q))).f0)), .string (mkS ((gt z52 p0.f0 (IntKind.i64.wrap ((IntKind.i64.wrap ((p0.f0.length : Int) - 1)) - x695q))).f1)), .bool ((gt z52 p0.f0 (IntKind.i64.wrap ((IntKind.i64.wrap ((p0.f0.length : Int) - 1)) - x695q))).f2)] : List Value)) (by kernel_rfl) (hc844q _ hs_.2.1))) ⟨(hS808q.cell (i := 0) rfl), (fun _ _ hk_ => (hS808q.bring 1 rfl rfl).pool.kn hk_), trivial⟩ (fun _ _ _ h_ => h_) (fun a846q h847q => ?_)
          clear h840q a839q
          refine WT.op 14 (listed' := #[true, true, true, true, true, true, true, true, true, true, true, true, true, true, true, false]) h847q rfl (by kernel_rfl) rfl rfl ?_
          refine owp_new (fun g_ => .pointer (some ⟨g_, 0, none⟩)) (.cells ([.string (mkS ([] : List UInt8)), .string (mkS ([] : List UInt8)), .bool false] : List Value).toArray 52 (0, 0)) h847q rfl (by kernel_rfl) (by kernel_rfl) hS808q (fun a848q W850q g851q h849q hS852q => ?_)
          clear h847q a846q
          refine ⟨.inr ⟨((hS852q.bring 1 rfl rfl).cell (i := 0) rfl), (fun _ _ hk_ => (hS852q.bring 2 rfl rfl).pool.kn hk_), trivial⟩, ?_⟩
          refine WT.op 15 (listed' := #[true, true, true, true, true, true, true, true, true, true, true, true, true, true, true, true]) h849q rfl (by kernel_rfl) rfl rfl ?_
          refine owp_store (i := 0) (vs := ([.string (mkS ((gt z52 p0.f0 (IntKind.i64.wrap ((IntKind.i64.wrap ((p0.f0.length : Int) - 1)) - x695q))).f0)), .string (mkS ((gt z52 p0.f0 (IntKind.i64.wrap ((IntKind.i64.wrap ((p0.f0.length : Int) - 1)) - x695q))).f1)), .bool ((gt z52 p0.f0 (IntKind.i64.wrap ((IntKind.i64.wrap ((p0.f0.length : Int) - 1)) - x695q))).f2)] : List Value)) h849q rfl (by kernel_rfl) rfl rfl rfl rfl (by simp [Value.oneCell']) (by kernel_rfl) hS852q (by simp) (cs' := ([.string (mkS ((gt z52 p0.f0 (IntKind.i64.wrap ((IntKind.i64.wrap ((p0.f0.length : Int) - 1)) - x695q))).f0)), .string (mkS ((gt z52 p0.f0 (IntKind.i64.wrap ((IntKind.i64.wrap ((p0.f0.length : Int) - 1)) - x695q))).f1)), .bool ((gt z52 p0.f0 (IntKind.i64.wrap ((IntKind.i64.wrap ((p0.f0.length : Int) - 1)) - x695q))).f2)] : List Value)) rfl (fun a853q W855q h854q hS856q => ?_)
          clear h849q a848q
          refine ⟨.inl (by decide), ?_⟩
          refine WT.done (by kernel_rfl) ?_
          refine wp_seq ?_
          refine WL.start ?_
          obtain ⟨r858q, A857q, H⟩ := bind1 H
          refine WL.op' (m := 0) h854q rfl rfl ?_
          refine owp_call [] h854q rfl (by kernel_rfl) rfl Tryd.func51 (by kernel_rfl) rfl (by kernel_rfl) (statics_Len.calls  A857q hS856q) (fun e860q W859q hp861q => ?_)
          obtain ⟨rfl, hS864q⟩ := hp861q
          refine ⟨_, rfl, fun a862q h863q => ?_⟩
          clear h854q a853q
          refine WL.block (c := 4) (m' := 5) h863q rfl [(12, .int .i64 (IntKind.i64.wrap ((IntKind.i64.wrap (r858q + 1)) + x695q))), (51, .int .i64 (IntKind.i64.wrap ((IntKind.i64.wrap (r858q + 1)) + x695q))), (50, .int .i64 x695q), (49, .int .i64 (IntKind.i64.wrap (r858q + 1)))] (by kernel_rfl) (fun a865q h866q => ?_)
          clear h863q a862q
          refine WL.done (by kernel_rfl) ?_
          refine wp_block ?_
          refine wp_seq ?_
          refine WL.start ?_
          refine WL.block (c := 1) (m' := 1) h866q rfl [(53, .pointer (some ⟨g851q, 0, none⟩))] (by kernel_rfl) (fun a867q h868q => ?_)
          clear h866q a865q
          refine WL.op' (m := 1) h868q rfl rfl ?_
          refine owp_run (v := .string (mkS ((gt z52 p0.f0 (IntKind.i64.wrap ((IntKind.i64.wrap ((p0.f0.length : Int) - 1)) - x695q))).f0))) h868q rfl (by kernel_rfl) (run_load1 rfl rfl Tryd.underlying9 rfl (hS864q.cell (i := 0) rfl)) (fun a869q h870q => ?_)
          clear h868q a867q
          refine WL.block (c := 1) (m' := 3) h870q rfl [(55, .string (mkS p1))] (by kernel_rfl) (fun a871q h872q => ?_)
          clear h870q a869q
          refine WL.op' (m := 3) h872q rfl rfl ?_
          refine owp_run (v := .bool (!decide (((gt z52 p0.f0 (IntKind.i64.wrap ((IntKind.i64.wrap ((p0.f0.length : Int) - 1)) - x695q))).f0) = p1))) h872q rfl (by kernel_rfl) (run_strne rfl rfl rfl) (fun a873q h874q => ?_)
          clear h872q a871q
          refine WL.block (c := 1) (m' := 5) h874q rfl [(52, .bool (!decide (((gt z52 p0.f0 (IntKind.i64.wrap ((IntKind.i64.wrap ((p0.f0.length : Int) - 1)) - x695q))).f0) = p1)))] (by kernel_rfl) (fun a875q h876q => ?_)
          clear h874q a873q
          refine WL.done (by kernel_rfl) ?_
          by_cases c877q : ((gt z52 p0.f0 (IntKind.i64.wrap ((IntKind.i64.wrap ((p0.f0.length : Int) - 1)) - x695q))).f0) = p1
          · rw [if_pos c877q] at H
            have hb_ : (decide (((gt z52 p0.f0 (IntKind.i64.wrap ((IntKind.i64.wrap ((p0.f0.length : Int) - 1)) - x695q))).f0) = p1)) = true := decide_eq_true c877q
            try rw [hb_] at h876q
            clear hb_
            refine wp_else h876q rfl ?_
            refine wp_seq ?_
            refine WL.start ?_
            refine WL.block (c := 1) (m' := 1) h876q rfl [(58, .pointer (some ⟨g851q, 1, none⟩))] (by kernel_rfl) (fun a878q h879q => ?_)
            clear h876q a875q
            refine WL.op' (m := 1) h879q rfl rfl ?_
            refine owp_run (v := .string (mkS ((gt z52 p0.f0 (IntKind.i64.wrap ((IntKind.i64.wrap ((p0.f0.length : Int) - 1)) - x695q))).f1))) h879q rfl (by kernel_rfl) (run_load1 rfl rfl Tryd.underlying9 rfl (hS864q.cell (i := 1) rfl)) (fun a880q h881q => ?_)
            clear h879q a878q
            refine WL.block (c := 1) (m' := 3) h881q rfl [(60, .string (mkS p2))] (by kernel_rfl) (fun a882q h883q => ?_)
            clear h881q a880q
            refine WL.op' (m := 3) h883q rfl rfl ?_
            refine owp_run (v := .bool (decide (((gt z52 p0.f0 (IntKind.i64.wrap ((IntKind.i64.wrap ((p0.f0.length : Int) - 1)) - x695q))).f1) = p2))) h883q rfl (by kernel_rfl) (run_streq rfl rfl rfl) (fun a884q h885q => ?_)
            clear h883q a882q
            refine WL.block (c := 1) (m' := 5) h885q rfl [(57, .bool (decide (((gt z52 p0.f0 (IntKind.i64.wrap ((IntKind.i64.wrap ((p0.f0.length : Int) - 1)) - x695q))).f1) = p2)))] (by kernel_rfl) (fun a886q h887q => ?_)
            clear h885q a884q
            refine WL.done (by kernel_rfl) ?_
            by_cases c888q : ((gt z52 p0.f0 (IntKind.i64.wrap ((IntKind.i64.wrap ((p0.f0.length : Int) - 1)) - x695q))).f1) = p2
            · rw [if_pos c888q] at H
              have hb_ : (decide (((gt z52 p0.f0 (IntKind.i64.wrap ((IntKind.i64.wrap ((p0.f0.length : Int) - 1)) - x695q))).f1) = p2)) = true := decide_eq_true c888q
              try rw [hb_] at h887q
              clear hb_
              refine wp_then h887q rfl ?_
              refine wp_seq ?_
              refine WL.start ?_
              refine WL.block (c := 3) (m' := 3) h887q rfl [(7, .bool true), (6, .int .i64 (IntKind.i64.wrap ((IntKind.i64.wrap (r858q + 1)) + x695q))), (62, .int .i64 (IntKind.i64.wrap ((IntKind.i64.wrap (r858q + 1)) + x695q)))] (by kernel_rfl) (fun a889q h890q => ?_)
              clear h887q a886q
              refine WL.done (by kernel_rfl) ?_
              refine wp_ret ?_
              have hS891q : St b w0 W859q R (M704q :: [(g851q, .cells ([.string (mkS ((gt z52 p0.f0 (IntKind.i64.wrap ((IntKind.i64.wrap ((p0.f0.length : Int) - 1)) - x695q))).f0)), .string (mkS ((gt z52 p0.f0 (IntKind.i64.wrap ((IntKind.i64.wrap ((p0.f0.length : Int) - 1)) - x695q))).f1)), .bool ((gt z52 p0.f0 (IntKind.i64.wrap ((IntKind.i64.wrap ((p0.f0.length : Int) - 1)) - x695q))).f2)] : List Value).toArray 52 (0, 0))] :: [(g659q, .cells ([.slice A709q p0.f0.length c710q, .int .i64 p0.f1, .int .i64 p0.f2] : List Value).toArray 79 (0, 0))] :: Fs) := hS864q.bring 2 rfl rfl
              have hS892q : St b w0 W859q R ([(g659q, .cells ([.slice A709q p0.f0.length c710q, .int .i64 p0.f1, .int .i64 p0.f2] : List Value).toArray 79 (0, 0))] :: M704q :: [(g851q, .cells ([.string (mkS ((gt z52 p0.f0 (IntKind.i64.wrap ((IntKind.i64.wrap ((p0.f0.length : Int) - 1)) - x695q))).f0)), .string (mkS ((gt z52 p0.f0 (IntKind.i64.wrap ((IntKind.i64.wrap ((p0.f0.length : Int) - 1)) - x695q))).f1)), .bool ((gt z52 p0.f0 (IntKind.i64.wrap ((IntKind.i64.wrap ((p0.f0.length : Int) - 1)) - x695q))).f2)] : List Value).toArray 52 (0, 0))] :: Fs) := hS891q.bring 2 rfl rfl
              obtain ⟨M894q, hr893q, hM_⟩ := k79qmk (b := b) (w0 := w0) (R := R) (x := p0) (gvf0 := hr708q)
              have hp895q : Ptr k79 79 b w0 R (.pointer (some ⟨g659q, 0, none⟩)) p0 ((g659q, .cells ([.slice A709q p0.f0.length c710q, .int .i64 p0.f1, .int .i64 p0.f2] : List Value).toArray 79 (0, 0)) :: M894q) := ⟨_, _, _, rfl, rfl, hr893q⟩
              rw [hM_] at hp895q
              have hS897q : St b w0 W859q R (((g659q, .cells ([.slice A709q p0.f0.length c710q, .int .i64 p0.f1, .int .i64 p0.f2] : List Value).toArray 79 (0, 0)) :: (M704q)) :: [(g851q, .cells ([.string (mkS ((gt z52 p0.f0 (IntKind.i64.wrap ((IntKind.i64.wrap ((p0.f0.length : Int) - 1)) - x695q))).f0)), .string (mkS ((gt z52 p0.f0 (IntKind.i64.wrap ((IntKind.i64.wrap ((p0.f0.length : Int) - 1)) - x695q))).f1)), .bool ((gt z52 p0.f0 (IntKind.i64.wrap ((IntKind.i64.wrap ((p0.f0.length : Int) - 1)) - x695q))).f2)] : List Value).toArray 52 (0, 0))] :: Fs) := hS892q.assoc (by simp only [List.flatten_cons, List.append_assoc, List.cons_append, List.nil_append, List.append_nil])
              obtain ⟨M898q, hM_⟩ : ∃ y : Frag, y = ((g659q, .cells ([.slice A709q p0.f0.length c710q, .int .i64 p0.f1, .int .i64 p0.f2] : List Value).toArray 79 (0, 0)) :: (M704q)) := ⟨_, rfl⟩
              rw [← hM_] at hp895q hS897q
              clear hM_
              have hS899q : St b w0 W859q R ([(g851q, .cells ([.string (mkS ((gt z52 p0.f0 (IntKind.i64.wrap ((IntKind.i64.wrap ((p0.f0.length : Int) - 1)) - x695q))).f0)), .string (mkS ((gt z52 p0.f0 (IntKind.i64.wrap ((IntKind.i64.wrap ((p0.f0.length : Int) - 1)) - x695q))).f1)), .bool ((gt z52 p0.f0 (IntKind.i64.wrap ((IntKind.i64.wrap ((p0.f0.length : Int) - 1)) - x695q))).f2)] : List Value).toArray 52 (0, 0))] :: M898q :: Fs) := hS897q.bring 1 rfl rfl
              have hS900q : St b w0 W859q R (M898q :: Fs) := hS899q.drop_
              obtain ⟨rfl, rfl⟩ := ret2 H
              repeat (first | refine then_ret ?_ | refine inBlock_ret ?_ | refine inBlock_go ?_)
              refine body_ret (v := .tuple #[.int .i64 (IntKind.i64.wrap ((IntKind.i64.wrap (r858q + 1)) + x695q)), .bool true]) h890q (by kernel_rfl) (by kernel_rfl) ?_
              exact ⟨M898q, rfl, hp895q, hS900q⟩
            · rw [if_neg c888q] at H
              have hb_ : (decide (((gt z52 p0.f0 (IntKind.i64.wrap ((IntKind.i64.wrap ((p0.f0.length : Int) - 1)) - x695q))).f1) = p2)) = false := decide_eq_false c888q
              try rw [hb_] at h887q
              clear hb_
              refine wp_else h887q rfl ?_
              refine wp_seq ?_
              refine WL.start ?_
              refine WL.block (c := 3) (m' := 3) h887q rfl [(63, .bool (decide (x694q = 0))), (65, .bool (decide (x694q = 0))), (64, .int .i64 x694q)] (by kernel_rfl) (fun a901q h902q => ?_)
              clear h887q a886q
              refine WL.done (by kernel_rfl) ?_
              by_cases c903q : x694q = 0
              · rw [if_pos c903q] at H
                have hb_ : (decide (x694q = 0)) = true := decide_eq_true c903q
                try rw [hb_] at h902q
                clear hb_
                refine wp_then h902q rfl ?_
                refine WL.start ?_
                refine WL.block (c := 2) (m' := 2) h902q rfl [(8, .int .i64 (IntKind.i64.wrap ((IntKind.i64.wrap (r858q + 1)) + x695q))), (66, .int .i64 (IntKind.i64.wrap ((IntKind.i64.wrap (r858q + 1)) + x695q)))] (by kernel_rfl) (fun a904q h905q => ?_)
                clear h902q a901q
                refine WL.done (by kernel_rfl) ?_
                refine WL.start ?_
                refine WL.block (c := 2) (m' := 2) h905q rfl [(31, .int .i64 (IntKind.i64.wrap (x695q + 1))), (67, .int .i64 (IntKind.i64.wrap (x695q + 1)))] (by kernel_rfl) (fun a906q h907q => ?_)
                clear h905q a904q
                refine WL.done (by kernel_rfl) ?_
                have hS908q : St b w0 W859q R (M704q :: [(g851q, .cells ([.string (mkS ((gt z52 p0.f0 (IntKind.i64.wrap ((IntKind.i64.wrap ((p0.f0.length : Int) - 1)) - x695q))).f0)), .string (mkS ((gt z52 p0.f0 (IntKind.i64.wrap ((IntKind.i64.wrap ((p0.f0.length : Int) - 1)) - x695q))).f1)), .bool ((gt z52 p0.f0 (IntKind.i64.wrap ((IntKind.i64.wrap ((p0.f0.length : Int) - 1)) - x695q))).f2)] : List Value).toArray 52 (0, 0))] :: [(g659q, .cells ([.slice A709q p0.f0.length c710q, .int .i64 p0.f1, .int .i64 p0.f2] : List Value).toArray 79 (0, 0))] :: Fs) := hS864q.bring 2 rfl rfl
                have hS909q : St b w0 W859q R ([(g659q, .cells ([.slice A709q p0.f0.length c710q, .int .i64 p0.f1, .int .i64 p0.f2] : List Value).toArray 79 (0, 0))] :: M704q :: [(g851q, .cells ([.string (mkS ((gt z52 p0.f0 (IntKind.i64.wrap ((IntKind.i64.wrap ((p0.f0.length : Int) - 1)) - x695q))).f0)), .string (mkS ((gt z52 p0.f0 (IntKind.i64.wrap ((IntKind.i64.wrap ((p0.f0.length : Int) - 1)) - x695q))).f1)), .bool ((gt z52 p0.f0 (IntKind.i64.wrap ((IntKind.i64.wrap ((p0.f0.length : Int) - 1)) - x695q))).f2)] : List Value).toArray 52 (0, 0))] :: Fs) := hS908q.bring 2 rfl rfl
                obtain ⟨M911q, hr910q, hM_⟩ := k79qmk (b := b) (w0 := w0) (R := R) (x := p0) (gvf0 := hr708q)
                have hp912q : Ptr k79 79 b w0 R (.pointer (some ⟨g659q, 0, none⟩)) p0 ((g659q, .cells ([.slice A709q p0.f0.length c710q, .int .i64 p0.f1, .int .i64 p0.f2] : List Value).toArray 79 (0, 0)) :: M911q) := ⟨_, _, _, rfl, rfl, hr910q⟩
                rw [hM_] at hp912q
                have hS914q : St b w0 W859q R (((g659q, .cells ([.slice A709q p0.f0.length c710q, .int .i64 p0.f1, .int .i64 p0.f2] : List Value).toArray 79 (0, 0)) :: (M704q)) :: [(g851q, .cells ([.string (mkS ((gt z52 p0.f0 (IntKind.i64.wrap ((IntKind.i64.wrap ((p0.f0.length : Int) - 1)) - x695q))).f0)), .string (mkS ((gt z52 p0.f0 (IntKind.i64.wrap ((IntKind.i64.wrap ((p0.f0.length : Int) - 1)) - x695q))).f1)), .bool ((gt z52 p0.f0 (IntKind.i64.wrap ((IntKind.i64.wrap ((p0.f0.length : Int) - 1)) - x695q))).f2)] : List Value).toArray 52 (0, 0))] :: Fs) := hS909q.assoc (by simp only [List.flatten_cons, List.append_assoc, List.cons_append, List.nil_append, List.append_nil])
                obtain ⟨M915q, hM_⟩ : ∃ y : Frag, y = ((g659q, .cells ([.slice A709q p0.f0.length c710q, .int .i64 p0.f1, .int .i64 p0.f2] : List Value).toArray 79 (0, 0)) :: (M704q)) := ⟨_, rfl⟩
                rw [← hM_] at hp912q hS914q
                clear hM_
                have hS916q : St b w0 W859q R ([(g851q, .cells ([.string (mkS ((gt z52 p0.f0 (IntKind.i64.wrap ((IntKind.i64.wrap ((p0.f0.length : Int) - 1)) - x695q))).f0)), .string (mkS ((gt z52 p0.f0 (IntKind.i64.wrap ((IntKind.i64.wrap ((p0.f0.length : Int) - 1)) - x695q))).f1)), .bool ((gt z52 p0.f0 (IntKind.i64.wrap ((IntKind.i64.wrap ((p0.f0.length : Int) - 1)) - x695q))).f2)] : List Value).toArray 52 (0, 0))] :: M915q :: Fs) := hS914q.bring 1 rfl rfl
                have hS917q : St b w0 W859q R (M915q :: Fs) := hS916q.drop_
                exact ⟨k696q, by omega, M915q, IntKind.i64.wrap ((IntKind.i64.wrap (r858q + 1)) + x695q), IntKind.i64.wrap (x695q + 1), h907q.keep ⟨rfl, rfl, rfl, rfl, rfl, rfl, trivial⟩, ⟨H⟩, ⟨by omega⟩, ⟨hS917q⟩, ⟨hp912q⟩⟩
              · rw [if_neg c903q] at H
                have hb_ : (decide (x694q = 0)) = false := decide_eq_false c903q
                try rw [hb_] at h902q
                clear hb_
                refine wp_else h902q rfl ?_
                refine wp_skip ?_
                refine WL.start ?_
                refine WL.block (c := 2) (m' := 2) h902q rfl [(31, .int .i64 (IntKind.i64.wrap (x695q + 1))), (67, .int .i64 (IntKind.i64.wrap (x695q + 1)))] (by kernel_rfl) (fun a918q h919q => ?_)
                clear h902q a901q
                refine WL.done (by kernel_rfl) ?_
                have hS920q : St b w0 W859q R (M704q :: [(g851q, .cells ([.string (mkS ((gt z52 p0.f0 (IntKind.i64.wrap ((IntKind.i64.wrap ((p0.f0.length : Int) - 1)) - x695q))).f0)), .string (mkS ((gt z52 p0.f0 (IntKind.i64.wrap ((IntKind.i64.wrap ((p0.f0.length : Int) - 1)) - x695q))).f1)), .bool ((gt z52 p0.f0 (IntKind.i64.wrap ((IntKind.i64.wrap ((p0.f0.length : Int) - 1)) - x695q))).f2)] : List Value).toArray 52 (0, 0))] :: [(g659q, .cells ([.slice A709q p0.f0.length c710q, .int .i64 p0.f1, .int .i64 p0.f2] : List Value).toArray 79 (0, 0))] :: Fs) := hS864q.bring 2 rfl rfl
                have hS921q : St b w0 W859q R ([(g659q, .cells ([.slice A709q p0.f0.length c710q, .int .i64 p0.f1, .int .i64 p0.f2] : List Value).toArray 79 (0, 0))] :: M704q :: [(g851q, .cells ([.string (mkS ((gt z52 p0.f0 (IntKind.i64.wrap ((IntKind.i64.wrap ((p0.f0.length : Int) - 1)) - x695q))).f0)), .string (mkS ((gt z52 p0.f0 (IntKind.i64.wrap ((IntKind.i64.wrap ((p0.f0.length : Int) - 1)) - x695q))).f1)), .bool ((gt z52 p0.f0 (IntKind.i64.wrap ((IntKind.i64.wrap ((p0.f0.length : Int) - 1)) - x695q))).f2)] : List Value).toArray 52 (0, 0))] :: Fs) := hS920q.bring 2 rfl rfl
                obtain ⟨M923q, hr922q, hM_⟩ := k79qmk (b := b) (w0 := w0) (R := R) (x := p0) (gvf0 := hr708q)
                have hp924q : Ptr k79 79 b w0 R (.pointer (some ⟨g659q, 0, none⟩)) p0 ((g659q, .cells ([.slice A709q p0.f0.length c710q, .int .i64 p0.f1, .int .i64 p0.f2] : List Value).toArray 79 (0, 0)) :: M923q) := ⟨_, _, _, rfl, rfl, hr922q⟩
                rw [hM_] at hp924q
                have hS926q : St b w0 W859q R (((g659q, .cells ([.slice A709q p0.f0.length c710q, .int .i64 p0.f1, .int .i64 p0.f2] : List Value).toArray 79 (0, 0)) :: (M704q)) :: [(g851q, .cells ([.string (mkS ((gt z52 p0.f0 (IntKind.i64.wrap ((IntKind.i64.wrap ((p0.f0.length : Int) - 1)) - x695q))).f0)), .string (mkS ((gt z52 p0.f0 (IntKind.i64.wrap ((IntKind.i64.wrap ((p0.f0.length : Int) - 1)) - x695q))).f1)), .bool ((gt z52 p0.f0 (IntKind.i64.wrap ((IntKind.i64.wrap ((p0.f0.length : Int) - 1)) - x695q))).f2)] : List Value).toArray 52 (0, 0))] :: Fs) := hS921q.assoc (by simp only [List.flatten_cons, List.append_assoc, List.cons_append, List.nil_append, List.append_nil])
                obtain ⟨M927q, hM_⟩ : ∃ y : Frag, y = ((g659q, .cells ([.slice A709q p0.f0.length c710q, .int .i64 p0.f1, .int .i64 p0.f2] : List Value).toArray 79 (0, 0)) :: (M704q)) := ⟨_, rfl⟩
                rw [← hM_] at hp924q hS926q
                clear hM_
                have hS928q : St b w0 W859q R ([(g851q, .cells ([.string (mkS ((gt z52 p0.f0 (IntKind.i64.wrap ((IntKind.i64.wrap ((p0.f0.length : Int) - 1)) - x695q))).f0)), .string (mkS ((gt z52 p0.f0 (IntKind.i64.wrap ((IntKind.i64.wrap ((p0.f0.length : Int) - 1)) - x695q))).f1)), .bool ((gt z52 p0.f0 (IntKind.i64.wrap ((IntKind.i64.wrap ((p0.f0.length : Int) - 1)) - x695q))).f2)] : List Value).toArray 52 (0, 0))] :: M927q :: Fs) := hS926q.bring 1 rfl rfl
                have hS929q : St b w0 W859q R (M927q :: Fs) := hS928q.drop_
                exact ⟨k696q, by omega, M927q, x694q, IntKind.i64.wrap (x695q + 1), h919q.keep ⟨rfl, rfl, rfl, rfl, rfl, rfl, trivial⟩, ⟨H⟩, ⟨by omega⟩, ⟨hS929q⟩, ⟨hp924q⟩⟩
          · rw [if_neg c877q] at H
            have hb_ : (decide (((gt z52 p0.f0 (IntKind.i64.wrap ((IntKind.i64.wrap ((p0.f0.length : Int) - 1)) - x695q))).f0) = p1)) = false := decide_eq_false c877q
            try rw [hb_] at h876q
            clear hb_
            refine wp_then h876q rfl ?_
            refine wp_skip ?_
            refine WL.start ?_
            refine WL.block (c := 2) (m' := 2) h876q rfl [(31, .int .i64 (IntKind.i64.wrap (x695q + 1))), (67, .int .i64 (IntKind.i64.wrap (x695q + 1)))] (by kernel_rfl) (fun a930q h931q => ?_)
            clear h876q a875q
            refine WL.done (by kernel_rfl) ?_
            have hS932q : St b w0 W859q R (M704q :: [(g851q, .cells ([.string (mkS ((gt z52 p0.f0 (IntKind.i64.wrap ((IntKind.i64.wrap ((p0.f0.length : Int) - 1)) - x695q))).f0)), .string (mkS ((gt z52 p0.f0 (IntKind.i64.wrap ((IntKind.i64.wrap ((p0.f0.length : Int) - 1)) - x695q))).f1)), .bool ((gt z52 p0.f0 (IntKind.i64.wrap ((IntKind.i64.wrap ((p0.f0.length : Int) - 1)) - x695q))).f2)] : List Value).toArray 52 (0, 0))] :: [(g659q, .cells ([.slice A709q p0.f0.length c710q, .int .i64 p0.f1, .int .i64 p0.f2] : List Value).toArray 79 (0, 0))] :: Fs) := hS864q.bring 2 rfl rfl
            have hS933q : St b w0 W859q R ([(g659q, .cells ([.slice A709q p0.f0.length c710q, .int .i64 p0.f1, .int .i64 p0.f2] : List Value).toArray 79 (0, 0))] :: M704q :: [(g851q, .cells ([.string (mkS ((gt z52 p0.f0 (IntKind.i64.wrap ((IntKind.i64.wrap ((p0.f0.length : Int) - 1)) - x695q))).f0)), .string (mkS ((gt z52 p0.f0 (IntKind.i64.wrap ((IntKind.i64.wrap ((p0.f0.length : Int) - 1)) - x695q))).f1)), .bool ((gt z52 p0.f0 (IntKind.i64.wrap ((IntKind.i64.wrap ((p0.f0.length : Int) - 1)) - x695q))).f2)] : List Value).toArray 52 (0, 0))] :: Fs) := hS932q.bring 2 rfl rfl
            obtain ⟨M935q, hr934q, hM_⟩ := k79qmk (b := b) (w0 := w0) (R := R) (x := p0) (gvf0 := hr708q)
            have hp936q : Ptr k79 79 b w0 R (.pointer (some ⟨g659q, 0, none⟩)) p0 ((g659q, .cells ([.slice A709q p0.f0.length c710q, .int .i64 p0.f1, .int .i64 p0.f2] : List Value).toArray 79 (0, 0)) :: M935q) := ⟨_, _, _, rfl, rfl, hr934q⟩
            rw [hM_] at hp936q
            have hS938q : St b w0 W859q R (((g659q, .cells ([.slice A709q p0.f0.length c710q, .int .i64 p0.f1, .int .i64 p0.f2] : List Value).toArray 79 (0, 0)) :: (M704q)) :: [(g851q, .cells ([.string (mkS ((gt z52 p0.f0 (IntKind.i64.wrap ((IntKind.i64.wrap ((p0.f0.length : Int) - 1)) - x695q))).f0)), .string (mkS ((gt z52 p0.f0 (IntKind.i64.wrap ((IntKind.i64.wrap ((p0.f0.length : Int) - 1)) - x695q))).f1)), .bool ((gt z52 p0.f0 (IntKind.i64.wrap ((IntKind.i64.wrap ((p0.f0.length : Int) - 1)) - x695q))).f2)] : List Value).toArray 52 (0, 0))] :: Fs) := hS933q.assoc (by simp only [List.flatten_cons, List.append_assoc, List.cons_append, List.nil_append, List.append_nil])
            obtain ⟨M939q, hM_⟩ : ∃ y : Frag, y = ((g659q, .cells ([.slice A709q p0.f0.length c710q, .int .i64 p0.f1, .int .i64 p0.f2] : List Value).toArray 79 (0, 0)) :: (M704q)) := ⟨_, rfl⟩
            rw [← hM_] at hp936q hS938q
            clear hM_
            have hS940q : St b w0 W859q R ([(g851q, .cells ([.string (mkS ((gt z52 p0.f0 (IntKind.i64.wrap ((IntKind.i64.wrap ((p0.f0.length : Int) - 1)) - x695q))).f0)), .string (mkS ((gt z52 p0.f0 (IntKind.i64.wrap ((IntKind.i64.wrap ((p0.f0.length : Int) - 1)) - x695q))).f1)), .bool ((gt z52 p0.f0 (IntKind.i64.wrap ((IntKind.i64.wrap ((p0.f0.length : Int) - 1)) - x695q))).f2)] : List Value).toArray 52 (0, 0))] :: M939q :: Fs) := hS938q.bring 1 rfl rfl
            have hS941q : St b w0 W859q R (M939q :: Fs) := hS940q.drop_
            exact ⟨k696q, by omega, M939q, x694q, IntKind.i64.wrap (x695q + 1), h931q.keep ⟨rfl, rfl, rfl, rfl, rfl, rfl, trivial⟩, ⟨H⟩, ⟨by omega⟩, ⟨hS941q⟩, ⟨hp936q⟩⟩
        · rw [if_neg c834q] at H
          cases H
      · rw [if_neg c833q] at H
        cases H
    · rw [if_neg c699q] at H
      have hb_ : (decide (x695q < (p0.f0.length : Int))) = false := decide_eq_false c699q
      try rw [hb_] at h698q
      clear hb_
      refine wp_else h698q rfl ?_
      refine wp_exit ?_
      refine wp_seq ?_
      refine WL.start ?_
      refine WL.block (c := 3) (m' := 3) h698q rfl [(7, .bool false), (6, .int .i64 x694q), (68, .int .i64 x694q)] (by kernel_rfl) (fun a942q h943q => ?_)
      clear h698q a697q
      refine WL.done (by kernel_rfl) ?_
      refine wp_ret ?_
      obtain ⟨rfl, rfl⟩ := ret2 H
      repeat (first | refine then_ret ?_ | refine inBlock_ret ?_ | refine inBlock_go ?_)
      refine body_ret (v := .tuple #[.int .i64 x694q, .bool false]) h943q (by kernel_rfl) (by kernel_rfl) ?_
      exact ⟨M692q, rfl, hr693q, hS690q⟩

def G1 : List Int := [13, 23, 28, 28, 28, 28, 28, 28, 28, 24, 30, 28, 28, 30, 28, 28, 28, 28, 28, 28, 28, 28, 30, 28, 28, 28, 28, 28, 28, 28, 28, 28, 6, 10, 10, 12, 13, 6, 8, 11, 10, 10, 8, 11, 8, 6, 6, 6, 5, 5, 5, 6, 6, 6, 6, 6, 6, 6, 7, 8, 15, 6, 12, 10, 13, 6, 7, 7, 7, 7, 7, 7, 7, 7, 7, 7, 7, 7, 7, 7, 7, 7, 7, 7, 7, 7, 7, 7, 8, 7, 8, 13, 19, 13, 14, 6, 15, 5, 6, 5, 6, 5, 6, 6, 6, 5, 7, 7, 6, 6, 6, 5, 6, 7, 6, 5, 5, 6, 7, 7, 7, 7, 7, 15, 11, 14, 13, 28, 20, 22, 20, 20, 22, 22, 22, 23, 22, 23, 23, 23, 23, 23, 24, 23, 24, 24, 22, 23, 24, 23, 23, 23, 23, 21, 22, 23, 22, 23, 23, 24, 22, 21, 20, 22, 22, 23, 23, 21, 23, 22, 22, 24, 21, 22, 23, 23, 21, 21, 22, 21, 23, 22, 23, 23, 20, 22, 22, 22, 23, 22, 22, 23, 26, 26, 20, 19, 22, 23, 22, 25, 26, 26, 26, 27, 27, 26, 24, 25, 19, 21, 26, 27, 27, 26, 27, 24, 21, 21, 26, 26, 28, 27, 27, 27, 20, 24, 20, 21, 22, 21, 21, 23, 22, 22, 25, 25, 24, 24, 26, 23, 26, 27, 26, 26, 27, 27, 27, 27, 27, 28, 27, 27, 27, 27, 27, 26, 30]
theorem G1qlen : G1.length = 257 := by kernel_rfl
abbrev GC1 : List Value := G1.flatMap (fun x : Int => ([.int .u8 x] : List Value))
theorem GC1qat {b : Nat} {w0 : World} {R : Frag} (h : Rds (kInt .u8) b w0 R (.slice (some ⟨1, 0, none⟩) 257 257) G1) : ∀ j u, GC1[j]? = some u → Kn b w0 R ((⟨1, 0, none⟩ : Addr).add j) u := Rds.flat_cells (by decide) (fun h_ => h_) (fun _ => rfl) h
structure S116 where
  f0 : Int
  f1 : Int
  deriving DecidableEq
def z116 : S116 := ⟨(0 : Int), (0 : Int)⟩
def k116 : Kd S116 := kIso (kPair (kInt .u32) (kInt .u8)) (fun x : S116 => (x.f0, x.f1))
theorem k116qflat : k116.Flat := kIso_flat (kPair_flat (kInt_flat _) (kInt_flat _))
theorem k116qind : k116.Ind := kIso_ind (kPair_ind (kInt_ind _) (kInt_ind _))
theorem k116qrd {b : Nat} {w0 : World} {R : Frag} {x : S116} {cs : List Value} (h : k116.rd b w0 R x cs) : cs = [.int .u32 x.f0, .int .u8 x.f1] := by
  obtain ⟨c1q, c2q, rfl, h3q, h4q⟩ := h
  obtain rfl := h3q
  obtain rfl := h4q
  exact rfl
theorem k116qrep {b : Nat} {w0 : World} {R : Frag} {x : S116} {cs : List Value} {M : Frag} (h : k116.rep b w0 R x cs M) : cs = [.int .u32 x.f0, .int .u8 x.f1] ∧ M = [] := by
  obtain ⟨c5q, c6q, M9q, M10q, rfl, rfl, h7q, h8q⟩ := h
  obtain ⟨rfl, rfl⟩ := h7q
  obtain ⟨rfl, rfl⟩ := h8q
  exact ⟨rfl, by simp⟩
theorem k116qno {b : Nat} {w0 : World} {R : Frag} {x : S116} {cs : List Value} {M : Frag} (h : k116.rep b w0 R x cs M) : M = [] := by
  obtain ⟨_, hM_⟩ := k116qrep h
  exact hM_
theorem k116qmk {b : Nat} {w0 : World} {R : Frag} {x : S116}  : ∃ M, k116.rep b w0 R x [.int .u32 x.f0, .int .u8 x.f1] M ∧ M = [] := ⟨_, ⟨_, _, _, _, rfl, rfl, ⟨rfl, rfl⟩, ⟨rfl, rfl⟩⟩, by simp⟩
/-! ### louver/huffman.codes -/
mutual
def huffman_codes.l0 : Nat → (List S116) → Int → Int → Option ((List S116))
  | 0, _, _, _ => none
  | k + 1, x550q, x554q, x555q => if x555q ≤ 30 then (huffman_codes.l1 k x550q (shlI .u32 x554q 1) 0 x555q) else (some x550q)
def huffman_codes.l1 : Nat → (List S116) → Int → Int → Int → Option ((List S116))
  | 0, _, _, _, _ => none
  | k + 1, x572q, x576q, x577q, x555q => if x577q < 257 then (if 0 ≤ x577q then (if x577q < (257 : Int) then (if (gt (0 : Int) G1 x577q) = x555q then (lt1 (x572q.set x577q.toNat (⟨x576q, x555q⟩ : S116) : List S116) fun y611q => (huffman_codes.l1 k y611q (IntKind.u32.wrap (x576q + 1)) (IntKind.i64.wrap (x577q + 1)) x555q)) else (huffman_codes.l1 k x572q x576q (IntKind.i64.wrap (x577q + 1)) x555q)) else (none)) else (none)) else (huffman_codes.l0 k x572q x576q (IntKind.u8.wrap (x555q + 1)))
end
def huffman_codes.f (k : Nat)  : Option ((List S116)) := huffman_codes.l0 k (List.replicate 257 z116 : List S116) 0 1
set_option maxHeartbeats 2000000 in
set_option maxRecDepth 100000 in
theorem huffman_codes.calls (k : Nat) {b : Nat} {w0 W : World} {R : Frag} {Fs : List Frag}   {r0q : (List S116)} (hg1 : Rds (kInt .u8) b w0 [] (.slice (some ⟨1, 0, none⟩) 257 257) G1) (H : huffman_codes.f k = some r0q) (hS : St b w0 W R (Fs)) :
    Calls Tryd.prog 63 ([] : List Value).toArray W (fun e W' => e = .returned (.agg (r0q.flatMap (fun x : S116 => ([.int .u32 x.f0, .int .u8 x.f1] : List Value))).toArray) ∧ r0q.length = 257 ∧ St b w0 W' R (Fs)) := by
  unfold huffman_codes.f at H
  refine calls_enter Tryd.func63 rfl 29 rfl (by kernel_rfl) (fun a h => ?_)
  refine wp_seq ?_
  refine WL.start ?_
  refine WL.op' (m := 0) h rfl rfl ?_
  refine owp_new (fun g_ => .pointer (some ⟨g_, 0, none⟩)) (.cells ((List.replicate 257 z116 : List S116).flatMap (fun x : S116 => ([.int .u32 x.f0, .int .u8 x.f1] : List Value))).toArray 117 (0, 0)) h rfl (by kernel_rfl) (by kernel_rfl) hS (fun a525q W527q g528q h526q hS529q => ?_)
  have hl531q : (List.replicate 257 z116 : List S116).length = 257 := by simp
  have hr530q : Row k116 117 b w0 R (.slice (some ⟨g528q, 0, none⟩) 257 257) (List.replicate 257 z116 : List S116) [(g528q, .cells ((List.replicate 257 z116 : List S116).flatMap (fun x : S116 => ([.int .u32 x.f0, .int .u8 x.f1] : List Value))).toArray 117 (0, 0))] := Row.arr (reps_flat (fun x_ => by obtain ⟨_, hk_, rfl⟩ := k116qmk (b := b) (w0 := w0) (R := R) (x := x_); exact hk_) _) hl531q (by decide)
  obtain ⟨M532q, hM_⟩ : ∃ y : Frag, y = [(g528q, .cells ((List.replicate 257 z116 : List S116).flatMap (fun x : S116 => ([.int .u32 x.f0, .int .u8 x.f1] : List Value))).toArray 117 (0, 0))] := ⟨_, rfl⟩
  rw [← hM_] at hr530q hS529q
  clear hM_
  refine WL.done (by kernel_rfl) ?_
  refine wp_seq ?_
  refine WL.start ?_
  refine WL.op' (m := 0) h526q rfl rfl ?_
  refine owp_new (fun g_ => .pointer (some ⟨g_, 0, none⟩)) (.cells ((List.replicate 257 z116 : List S116).flatMap (fun x : S116 => ([.int .u32 x.f0, .int .u8 x.f1] : List Value))).toArray 117 (0, 0)) h526q rfl (by kernel_rfl) (by kernel_rfl) hS529q (fun a533q W535q g536q h534q hS537q => ?_)
  clear h526q a525q
  have hl539q : (List.replicate 257 z116 : List S116).length = 257 := by simp
  have hr538q : Row k116 117 b w0 R (.slice (some ⟨g536q, 0, none⟩) 257 257) (List.replicate 257 z116 : List S116) [(g536q, .cells ((List.replicate 257 z116 : List S116).flatMap (fun x : S116 => ([.int .u32 x.f0, .int .u8 x.f1] : List Value))).toArray 117 (0, 0))] := Row.arr (reps_flat (fun x_ => by obtain ⟨_, hk_, rfl⟩ := k116qmk (b := b) (w0 := w0) (R := R) (x := x_); exact hk_) _) hl539q (by decide)
  obtain ⟨M540q, hM_⟩ : ∃ y : Frag, y = [(g536q, .cells ((List.replicate 257 z116 : List S116).flatMap (fun x : S116 => ([.int .u32 x.f0, .int .u8 x.f1] : List Value))).toArray 117 (0, 0))] := ⟨_, rfl⟩
  rw [← hM_] at hr538q hS537q
  clear hM_
  refine WL.done (by kernel_rfl) ?_
  refine wp_seq ?_
  refine WL.start ?_
  refine WL.block (c := 1) (m' := 1) h534q rfl [(2, .int .u32 0)] (by kernel_rfl) (fun a541q h542q => ?_)
  clear h534q a533q
  refine WL.done (by kernel_rfl) ?_
  refine wp_seq ?_
  refine wp_seq ?_
  refine WL.start ?_
  refine WL.block (c := 1) (m' := 1) h542q rfl [(3, .int .u8 1)] (by kernel_rfl) (fun a543q h544q => ?_)
  clear h542q a541q
  refine WL.done (by kernel_rfl) ?_
  refine wp_block ?_
  have hS556q : St b w0 W535q R (M532q :: M540q :: Fs) := hS537q.bring 1 rfl rfl
  refine wp_loop_ghost (fun kq_ a_ W_ => ∃ (x550q : (List S116)), ∃ (M551q : Frag), ∃ (x554q : Int), ∃ (x555q : Int), Hd a_ 29 [(0, .pointer (some ⟨g528q, 0, none⟩)), (1, .pointer (some ⟨g536q, 0, none⟩)), (2, .int .u32 x554q), (3, .int .u8 x555q)] ∧ Asd (huffman_codes.l0 kq_ x550q x554q x555q = some r0q) ∧ Asd (kq_ ≤ k) ∧ Asd (St b w0 W_ R (M532q :: M551q :: Fs)) ∧ Asd (Row k116 117 b w0 R (.slice (some ⟨g536q, 0, none⟩) 257 257) x550q M551q) ∧ Asd (x550q.length = 257)) k ⟨(List.replicate 257 z116 : List S116), M540q, 0, 1, h544q.keep ⟨rfl, rfl, rfl, rfl, trivial⟩, ⟨H⟩, ⟨Nat.le_refl _⟩, ⟨hS556q⟩, ⟨hr538q⟩, ⟨hl539q⟩⟩ ?_
  clear H hS556q
  rintro k549q a546q W547q ⟨x550q, M551q, x554q, x555q, h545q, ⟨H⟩, ⟨hkk549q⟩, ⟨hS548q⟩, ⟨hr552q⟩, ⟨hl553q⟩⟩
  obtain _ | k557q := k549q
  · exact absurd H (by simp [huffman_codes.l0])
  simp only [huffman_codes.l0] at H
  refine wp_seq ?_
  refine wp_seq ?_
  refine WL.start ?_
  refine WL.block (c := 2) (m' := 2) h545q rfl [(7, .bool (decide (x555q ≤ 30))), (6, .int .u8 x555q)] (by kernel_rfl) (fun a558q h559q => ?_)
  clear h545q a546q
  refine WL.done (by kernel_rfl) ?_
  by_cases c560q : x555q ≤ 30
  · rw [if_pos c560q] at H
    have hb_ : (decide (x555q ≤ 30)) = true := decide_eq_true c560q
    try rw [hb_] at h559q
    clear hb_
    refine wp_then h559q rfl ?_
    refine wp_skip ?_
    refine wp_seq ?_
    refine wp_block ?_
    refine wp_seq ?_
    refine WL.start ?_
    refine WL.block (c := 3) (m' := 3) h559q rfl [(2, .int .u32 (shlI .u32 x554q 1)), (11, .int .u32 (shlI .u32 x554q 1)), (10, .int .u32 x554q)] (by kernel_rfl) (fun a561q h562q => ?_)
    clear h559q a558q
    refine WL.done (by kernel_rfl) ?_
    refine wp_seq ?_
    refine WL.start ?_
    refine WL.op' (m := 0) h562q rfl rfl ?_
    refine owp_run (v := .agg GC1.toArray) h562q rfl (by kernel_rfl) (run_loadN rfl rfl Tryd.underlying122 rfl (cs := GC1) (by kernel_rfl) (fun _ _ hj_ => (fun _ _ hk_ => hS548q.kn hk_) _ _ ((GC1qat hg1 _ _ hj_).mono (fun _ h_ => by cases h_)))) (fun a563q h564q => ?_)
    clear h562q a561q
    refine WL.block (c := 1) (m' := 2) h564q rfl [(13, .int .i64 0)] (by kernel_rfl) (fun a565q h566q => ?_)
    clear h564q a563q
    refine WL.done (by kernel_rfl) ?_
    refine wp_block ?_
    refine wp_loop_ghost (fun kq_ a_ W_ => ∃ (x572q : (List S116)), ∃ (M573q : Frag), ∃ (x576q : Int), ∃ (x577q : Int), Hd a_ 29 [(0, .pointer (some ⟨g528q, 0, none⟩)), (1, .pointer (some ⟨g536q, 0, none⟩)), (2, .int .u32 x576q), (3, .int .u8 x555q), (12, .agg GC1.toArray), (13, .int .i64 x577q)] ∧ Asd (huffman_codes.l1 kq_ x572q x576q x577q x555q = some r0q) ∧ Asd (kq_ ≤ k557q) ∧ Asd (St b w0 W_ R (M532q :: M573q :: Fs)) ∧ Asd (Row k116 117 b w0 R (.slice (some ⟨g536q, 0, none⟩) 257 257) x572q M573q) ∧ Asd (x572q.length = 257)) k557q ⟨x550q, M551q, shlI .u32 x554q 1, 0, h566q.keep ⟨rfl, rfl, rfl, rfl, rfl, rfl, trivial⟩, ⟨H⟩, ⟨Nat.le_refl _⟩, ⟨hS548q⟩, ⟨hr552q⟩, ⟨hl553q⟩⟩ ?_
    clear H hS548q
    rintro k571q a568q W569q ⟨x572q, M573q, x576q, x577q, h567q, ⟨H⟩, ⟨hkk571q⟩, ⟨hS570q⟩, ⟨hr574q⟩, ⟨hl575q⟩⟩
    obtain _ | k578q := k571q
    · exact absurd H (by simp [huffman_codes.l1])
    simp only [huffman_codes.l1] at H
    refine wp_seq ?_
    refine WL.start ?_
    refine WL.block (c := 1) (m' := 1) h567q rfl [(14, .bool (decide (x577q < 257)))] (by kernel_rfl) (fun a579q h580q => ?_)
    clear h567q a568q
    refine WL.done (by kernel_rfl) ?_
    refine wp_seq ?_
    by_cases c581q : x577q < 257
    · rw [if_pos c581q] at H
      have hb_ : (decide (x577q < 257)) = true := decide_eq_true c581q
      try rw [hb_] at h580q
      clear hb_
      refine wp_then h580q rfl ?_
      refine wp_skip ?_
      refine wp_seq ?_
      refine wp_block ?_
      refine wp_seq ?_
      refine WL.start ?_
      refine WL.block (c := 1) (m' := 1) h580q rfl [(15, .int .i64 x577q)] (by kernel_rfl) (fun a582q h583q => ?_)
      clear h580q a579q
      by_cases c584q : 0 ≤ x577q
      · rw [if_pos c584q] at H
        by_cases c585q : x577q < (257 : Int)
        · rw [if_pos c585q] at H
          have hi586q : 0 ≤ x577q := by first | assumption | omega
          have hi588q : x577q < ((257 : Nat) : Int) := by omega
          have hi587q : x577q < (G1.length : Int) := by rw [G1qlen]; exact hi588q
          refine WL.op' (m := 1) h583q rfl rfl ?_
          refine owp_run (v := .int .u8 (gt (0 : Int) G1 x577q)) h583q rfl (by kernel_rfl) (run_index_one rfl rfl rfl Tryd.underlying122 Tryd.underlying5 rfl (by kernel_rfl) hi586q hi588q (flat_one G1 (gt_get (z := (0 : Int)) hi586q hi587q))) (fun a589q h590q => ?_)
          clear h583q a582q
          refine WL.block (c := 2) (m' := 4) h590q rfl [(5, .int .u8 (gt (0 : Int) G1 x577q)), (4, .int .i64 x577q)] (by kernel_rfl) (fun a591q h592q => ?_)
          clear h590q a589q
          refine WL.done (by kernel_rfl) ?_
          refine wp_seq ?_
          refine WL.start ?_
          refine WL.block (c := 3) (m' := 3) h592q rfl [(19, .bool (decide ((gt (0 : Int) G1 x577q) = x555q))), (18, .int .u8 x555q), (17, .int .u8 (gt (0 : Int) G1 x577q))] (by kernel_rfl) (fun a593q h594q => ?_)
          clear h592q a591q
          refine WL.done (by kernel_rfl) ?_
          by_cases c595q : (gt (0 : Int) G1 x577q) = x555q
          · rw [if_pos c595q] at H
            have hb_ : (decide ((gt (0 : Int) G1 x577q) = x555q)) = true := decide_eq_true c595q
            try rw [hb_] at h594q
            clear hb_
            refine wp_then h594q rfl ?_
            refine wp_seq ?_
            refine WL.start ?_
            refine WL.block (c := 4) (m' := 4) h594q rfl [(23, .agg #[.int .u32 x576q, .int .u8 x555q]), (22, .int .u8 x555q), (21, .int .u32 x576q), (20, .int .i64 x577q)] (by kernel_rfl) (fun a596q h597q => ?_)
            clear h594q a593q
            have hi598q : 0 ≤ x577q := by first | assumption | omega
            have hi600q : x577q < ((257 : Nat) : Int) := by omega
            have hi599q : x577q < (x572q.length : Int) := by rw [hl575q]; exact hi600q
            refine WL.op' (m := 4) h597q rfl rfl ?_
            refine owp_run (v := .pointer (some ((⟨g536q, 0, none⟩ : Addr).add (x577q.toNat * 2)))) h597q rfl (by kernel_rfl) (run_idxarr (ad := ⟨g536q, 0, none⟩) (sz := 2) rfl rfl rfl Tryd.underlying117 (by kernel_rfl) hi598q hi600q) (fun a602q h603q => ?_)
            clear h597q a596q
            have hS604q : St b w0 W569q R (M573q :: M532q :: Fs) := hS570q.bring 1 rfl rfl
            refine WL.op' (m := 5) h603q rfl rfl ?_
            refine owp_setelem (j := 0) (vs := ([.int .u32 x576q, .int .u8 x555q] : List Value)) (x' := (⟨x576q, x555q⟩ : S116)) h603q rfl (by kernel_rfl) rfl rfl rfl rfl (by simp [Value.oneCell']) (by kernel_rfl) rfl hr574q hS604q hi598q (gt_get (z := z116) hi598q hi599q) (Nat.le_refl _) (by intro cs_ Mx_ hr_; obtain ⟨rfl, rfl⟩ := k116qrep hr_; obtain ⟨_, hk_, rfl⟩ := k116qmk (b := b) (w0 := w0) (R := R) (x := (⟨x576q, x555q⟩ : S116)); exact hk_) (fun a605q W607q M608q h606q hr609q hS610q => ?_)
            clear h603q a602q
            obtain ⟨y611q, hy612q, H⟩ := lete H
            have hl613q : y611q.length = 257 := by rw [hy612q]; simpa using hl575q
            have hr614q : Row k116 117 b w0 R (.slice (some ⟨g536q, 0, none⟩) 257 257) y611q M608q := by rw [hy612q]; exact hr609q
            refine WL.done (by kernel_rfl) ?_
            refine WL.start ?_
            refine WL.block (c := 3) (m' := 3) h606q rfl [(2, .int .u32 (IntKind.u32.wrap (x576q + 1))), (26, .int .u32 (IntKind.u32.wrap (x576q + 1))), (25, .int .u32 x576q)] (by kernel_rfl) (fun a615q h616q => ?_)
            clear h606q a605q
            refine WL.done (by kernel_rfl) ?_
            refine WL.start ?_
            refine WL.block (c := 2) (m' := 2) h616q rfl [(13, .int .i64 (IntKind.i64.wrap (x577q + 1))), (27, .int .i64 (IntKind.i64.wrap (x577q + 1)))] (by kernel_rfl) (fun a617q h618q => ?_)
            clear h616q a615q
            refine WL.done (by kernel_rfl) ?_
            have hS619q : St b w0 W607q R (M532q :: M608q :: Fs) := hS610q.bring 1 rfl rfl
            exact ⟨k578q, by omega, y611q, M608q, IntKind.u32.wrap (x576q + 1), IntKind.i64.wrap (x577q + 1), h618q.keep ⟨rfl, rfl, rfl, rfl, rfl, rfl, trivial⟩, ⟨H⟩, ⟨by omega⟩, ⟨hS619q⟩, ⟨hr614q⟩, ⟨hl613q⟩⟩
          · rw [if_neg c595q] at H
            have hb_ : (decide ((gt (0 : Int) G1 x577q) = x555q)) = false := decide_eq_false c595q
            try rw [hb_] at h594q
            clear hb_
            refine wp_else h594q rfl ?_
            refine wp_skip ?_
            refine WL.start ?_
            refine WL.block (c := 2) (m' := 2) h594q rfl [(13, .int .i64 (IntKind.i64.wrap (x577q + 1))), (27, .int .i64 (IntKind.i64.wrap (x577q + 1)))] (by kernel_rfl) (fun a620q h621q => ?_)
            clear h594q a593q
            refine WL.done (by kernel_rfl) ?_
            exact ⟨k578q, by omega, x572q, M573q, x576q, IntKind.i64.wrap (x577q + 1), h621q.keep ⟨rfl, rfl, rfl, rfl, rfl, rfl, trivial⟩, ⟨H⟩, ⟨by omega⟩, ⟨hS570q⟩, ⟨hr574q⟩, ⟨hl575q⟩⟩
        · rw [if_neg c585q] at H
          cases H
      · rw [if_neg c584q] at H
        cases H
    · rw [if_neg c581q] at H
      have hb_ : (decide (x577q < 257)) = false := decide_eq_false c581q
      try rw [hb_] at h580q
      clear hb_
      refine wp_else h580q rfl ?_
      refine wp_exit ?_
      refine WL.start ?_
      refine WL.block (c := 3) (m' := 3) h580q rfl [(3, .int .u8 (IntKind.u8.wrap (x555q + 1))), (9, .int .u8 (IntKind.u8.wrap (x555q + 1))), (8, .int .u8 x555q)] (by kernel_rfl) (fun a622q h623q => ?_)
      clear h580q a579q
      refine WL.done (by kernel_rfl) ?_
      exact ⟨k578q, by omega, x572q, M573q, x576q, IntKind.u8.wrap (x555q + 1), h623q.keep ⟨rfl, rfl, rfl, rfl, trivial⟩, ⟨H⟩, ⟨by omega⟩, ⟨hS570q⟩, ⟨hr574q⟩, ⟨hl575q⟩⟩
  · rw [if_neg c560q] at H
    have hb_ : (decide (x555q ≤ 30)) = false := decide_eq_false c560q
    try rw [hb_] at h559q
    clear hb_
    refine wp_else h559q rfl ?_
    refine wp_exit ?_
    refine wp_seq ?_
    refine WL.start ?_
    have hS624q : St b w0 W547q R (M551q :: M532q :: Fs) := hS548q.bring 1 rfl rfl
    refine WL.op' (m := 0) h559q rfl rfl ?_
    refine owp_run (v := .agg (x550q.flatMap (fun x : S116 => ([.int .u32 x.f0, .int .u8 x.f1] : List Value))).toArray) h559q rfl (by kernel_rfl) (run_loadN rfl rfl Tryd.underlying117 rfl (cs := x550q.flatMap (fun x : S116 => ([.int .u32 x.f0, .int .u8 x.f1] : List Value))) (by rw [flat_len (sz := 2) (fun _ => rfl), hl553q]; kernel_rfl) (Row.arr_cells (by decide) (fun h_ => k116qrd h_) (fun _ => rfl) hr552q hS624q)) (fun a625q h626q => ?_)
    clear h559q a558q
    have hS627q : St b w0 W547q R (M532q :: M551q :: Fs) := hS624q.bring 1 rfl rfl
    refine WL.op' (m := 1) h626q rfl rfl ?_
    refine owp_storearr (f := (fun x : S116 => ([.int .u32 x.f0, .int .u8 x.f1] : List Value))) (ys := x550q) (N := 257) h626q rfl (by kernel_rfl) rfl rfl rfl (by kernel_rfl) (fun x_ => by obtain ⟨_, hk_, rfl⟩ := k116qmk (b := b) (w0 := w0) (R := R) (x := x_); exact hk_) hl531q hl553q (by decide) hr530q hS627q (fun a628q W630q M631q h629q hr632q hS633q => ?_)
    clear h626q a625q
    refine WL.done (by kernel_rfl) ?_
    refine wp_ret ?_
    have hS634q : St b w0 W630q R (M551q :: Fs) := hS633q.drop_
    have hS635q : St b w0 W630q R (Fs) := hS634q.drop_
    obtain rfl := Option.some.inj H
    repeat (first | refine then_ret ?_ | refine inBlock_ret ?_ | refine inBlock_go ?_)
    refine body_ret (v := .agg (x550q.flatMap (fun x : S116 => ([.int .u32 x.f0, .int .u8 x.f1] : List Value))).toArray) h629q (by kernel_rfl) (res_one rfl ⟨_, rfl, loadVarN Tryd.underlying117 rfl (cs := x550q.flatMap (fun x : S116 => ([.int .u32 x.f0, .int .u8 x.f1] : List Value))) (by rw [flat_len (sz := 2) (fun _ => rfl), hl553q]; kernel_rfl) (Row.arr_cells (by decide) (fun h_ => k116qrd h_) (fun _ => rfl) hr632q hS633q)⟩) ?_
    exact ⟨rfl, hl553q, hS635q⟩

/-! ### louver/huffman.Size -/
def huffman_Size.l0 : Nat → Int → Int → (List UInt8) → Option (Int)
  | 0, _, _, _ => none
  | k + 1, x102q, x103q, p0 => if x103q < (p0.length : Int) then (if 0 ≤ x103q then (if 0 ≤ (btI p0 x103q) then (if (btI p0 x103q) < (257 : Int) then (huffman_Size.l0 k (IntKind.i64.wrap (x102q + (IntKind.i64.wrap (gt (0 : Int) G1 (btI p0 x103q))))) (IntKind.i64.wrap (x103q + 1)) p0) else (none)) else (none)) else (none)) else (some (IntKind.i64.wrap (Int.tdiv (IntKind.i64.wrap (x102q + 7)) 8)))
def huffman_Size.f (k : Nat) (p0 : (List UInt8)) : Option (Int) := huffman_Size.l0 k 0 0 p0
set_option maxHeartbeats 2000000 in
set_option maxRecDepth 100000 in
theorem huffman_Size.calls (k : Nat) {b : Nat} {w0 W : World} {R : Frag} {Fs : List Frag} {p0 : (List UInt8)}  {r0q : Int} (hg1 : Rds (kInt .u8) b w0 [] (.slice (some ⟨1, 0, none⟩) 257 257) G1) (H : huffman_Size.f k p0 = some r0q) (hS : St b w0 W R (Fs)) :
    Calls Tryd.prog 64 ([.string (mkS p0)] : List Value).toArray W (fun e W' => e = .returned (.int .i64 r0q) ∧ St b w0 W' R (Fs)) := by
  unfold huffman_Size.f at H
  refine calls_enter Tryd.func64 rfl 22 rfl (by kernel_rfl) (fun a h => ?_)
  refine wp_seq ?_
  refine WL.start ?_
  refine WL.block (c := 1) (m' := 1) h rfl [(2, .int .i64 0)] (by kernel_rfl) (fun a91q h92q => ?_)
  refine WL.done (by kernel_rfl) ?_
  refine wp_seq ?_
  refine WL.start ?_
  refine WL.block (c := 1) (m' := 1) h92q rfl [(3, .int .i64 0)] (by kernel_rfl) (fun a93q h94q => ?_)
  clear h92q a91q
  refine WL.done (by kernel_rfl) ?_
  refine wp_seq ?_
  refine wp_seq ?_
  refine WL.start ?_
  refine WL.block (c := 3) (m' := 3) h94q rfl [(7, .int .i64 0), (6, .int .i64 (p0.length : Int)), (5, .string (mkS p0))] (by kernel_rfl) (fun a95q h96q => ?_)
  clear h94q a93q
  refine WL.done (by kernel_rfl) ?_
  refine wp_block ?_
  refine wp_loop_ghost (fun kq_ a_ W_ => ∃ (x102q : Int), ∃ (x103q : Int), Hd a_ 22 [(0, .string (mkS p0)), (3, .int .i64 x102q), (6, .int .i64 (p0.length : Int)), (7, .int .i64 x103q)] ∧ Asd (huffman_Size.l0 kq_ x102q x103q p0 = some r0q) ∧ Asd (kq_ ≤ k) ∧ Asd (St b w0 W_ R (Fs))) k ⟨0, 0, h96q.keep ⟨rfl, rfl, rfl, rfl, trivial⟩, ⟨H⟩, ⟨Nat.le_refl _⟩, ⟨hS⟩⟩ ?_
  clear H hS
  rintro k101q a98q W99q ⟨x102q, x103q, h97q, ⟨H⟩, ⟨hkk101q⟩, ⟨hS100q⟩⟩
  obtain _ | k104q := k101q
  · exact absurd H (by simp [huffman_Size.l0])
  simp only [huffman_Size.l0] at H
  refine wp_seq ?_
  refine WL.start ?_
  refine WL.block (c := 1) (m' := 1) h97q rfl [(8, .bool (decide (x103q < (p0.length : Int))))] (by kernel_rfl) (fun a105q h106q => ?_)
  clear h97q a98q
  refine WL.done (by kernel_rfl) ?_
  refine wp_seq ?_
  by_cases c107q : x103q < (p0.length : Int)
  · rw [if_pos c107q] at H
    have hb_ : (decide (x103q < (p0.length : Int))) = true := decide_eq_true c107q
    try rw [hb_] at h106q
    clear hb_
    refine wp_then h106q rfl ?_
    refine wp_skip ?_
    refine wp_seq ?_
    refine wp_block ?_
    refine wp_seq ?_
    refine WL.start ?_
    refine WL.block (c := 2) (m' := 2) h106q rfl [(4, .int .i64 x103q), (9, .int .i64 x103q)] (by kernel_rfl) (fun a108q h109q => ?_)
    clear h106q a105q
    refine WL.done (by kernel_rfl) ?_
    refine WL.start ?_
    refine WL.block (c := 3) (m' := 3) h109q rfl [(12, .int .i64 x103q), (11, .string (mkS p0)), (10, .int .i64 x102q)] (by kernel_rfl) (fun a110q h111q => ?_)
    clear h109q a108q
    by_cases c112q : 0 ≤ x103q
    · rw [if_pos c112q] at H
      refine WL.op' (m := 3) h111q rfl rfl ?_
      refine owp_run (v := .int .u8 (btI p0 x103q)) h111q rfl (by kernel_rfl) (run_stridx rfl rfl rfl Tryd.underlying9 (by first | assumption | omega) (by first | assumption | omega)) (fun a113q h114q => ?_)
      clear h111q a110q
      by_cases c115q : 0 ≤ (btI p0 x103q)
      · rw [if_pos c115q] at H
        by_cases c116q : (btI p0 x103q) < (257 : Int)
        · rw [if_pos c116q] at H
          have hx117q : Rds (kInt .u8) b w0 R (.slice (some ⟨1, 0, none⟩) 257 257) G1 := Rds.mono (fun _ h_ => by cases h_) hg1
          have hi118q : 0 ≤ (btI p0 x103q) := by first | assumption | omega
          have hi120q : (btI p0 x103q) < ((257 : Nat) : Int) := by omega
          have hi119q : (btI p0 x103q) < (G1.length : Int) := by rw [G1qlen]; exact hi120q
          refine WL.op' (m := 4) h114q rfl rfl ?_
          refine owp_run (v := .pointer (some ((⟨1, 0, none⟩ : Addr).add ((btI p0 x103q).toNat * 1)))) h114q rfl (by kernel_rfl) (run_idxarr (ad := ⟨1, 0, none⟩) (sz := 1) rfl rfl rfl Tryd.underlying122 (by kernel_rfl) hi118q hi120q) (fun a121q h122q => ?_)
          clear h114q a113q
          obtain ⟨ad123q, cs124q, ha125q, hr127q, hc126q⟩ := Rds.elemAny hx117q hi118q (gt_get (z := (0 : Int)) hi118q hi119q)
          obtain rfl := Option.some.inj ha125q
          obtain rfl : cs124q = [.int .u8 (gt (0 : Int) G1 (btI p0 x103q))] := hr127q
          refine WL.op' (m := 5) h122q rfl rfl ?_
          refine owp_run (v := .int .u8 (gt (0 : Int) G1 (btI p0 x103q))) h122q rfl (by kernel_rfl) (run_load1 rfl rfl Tryd.underlying5 rfl (cell0 (hc126q _ (fun _ _ hk_ => hS100q.kn hk_)))) (fun a128q h129q => ?_)
          clear h122q a121q
          refine WL.block (c := 3) (m' := 9) h129q rfl [(3, .int .i64 (IntKind.i64.wrap (x102q + (IntKind.i64.wrap (gt (0 : Int) G1 (btI p0 x103q)))))), (17, .int .i64 (IntKind.i64.wrap (x102q + (IntKind.i64.wrap (gt (0 : Int) G1 (btI p0 x103q)))))), (16, .int .i64 (IntKind.i64.wrap (gt (0 : Int) G1 (btI p0 x103q))))] (by kernel_rfl) (fun a130q h131q => ?_)
          clear h129q a128q
          refine WL.done (by kernel_rfl) ?_
          refine WL.start ?_
          refine WL.block (c := 2) (m' := 2) h131q rfl [(7, .int .i64 (IntKind.i64.wrap (x103q + 1))), (18, .int .i64 (IntKind.i64.wrap (x103q + 1)))] (by kernel_rfl) (fun a132q h133q => ?_)
          clear h131q a130q
          refine WL.done (by kernel_rfl) ?_
          exact ⟨k104q, by omega, IntKind.i64.wrap (x102q + (IntKind.i64.wrap (gt (0 : Int) G1 (btI p0 x103q)))), IntKind.i64.wrap (x103q + 1), h133q.keep ⟨rfl, rfl, rfl, rfl, trivial⟩, ⟨H⟩, ⟨by omega⟩, ⟨hS100q⟩⟩
        · rw [if_neg c116q] at H
          cases H
      · rw [if_neg c115q] at H
        cases H
    · rw [if_neg c112q] at H
      cases H
  · rw [if_neg c107q] at H
    have hb_ : (decide (x103q < (p0.length : Int))) = false := decide_eq_false c107q
    try rw [hb_] at h106q
    clear hb_
    refine wp_else h106q rfl ?_
    refine wp_exit ?_
    refine wp_seq ?_
    refine WL.start ?_
    refine WL.block (c := 4) (m' := 4) h106q rfl [(2, .int .i64 (IntKind.i64.wrap (Int.tdiv (IntKind.i64.wrap (x102q + 7)) 8))), (21, .int .i64 (IntKind.i64.wrap (Int.tdiv (IntKind.i64.wrap (x102q + 7)) 8))), (20, .int .i64 (IntKind.i64.wrap (x102q + 7))), (19, .int .i64 x102q)] (by kernel_rfl) (fun a134q h135q => ?_)
    clear h106q a105q
    refine WL.done (by kernel_rfl) ?_
    refine wp_ret ?_
    obtain rfl := Option.some.inj H
    repeat (first | refine then_ret ?_ | refine inBlock_ret ?_ | refine inBlock_go ?_)
    refine body_ret (v := .int .i64 (IntKind.i64.wrap (Int.tdiv (IntKind.i64.wrap (x102q + 7)) 8))) h135q (by kernel_rfl) (by kernel_rfl) ?_
    exact ⟨rfl, hS100q⟩

/-! ### louver/huffman.Encode -/
mutual
def huffman_Encode.l0 : Nat → (List Int) → Int → Int → Int → (List UInt8) → (List S116) → Option ((List Int))
  | 0, _, _, _, _, _, _ => none
  | k + 1, x1140q, x1145q, x1146q, x1147q, p0, r1083q => if x1147q < (p0.length : Int) then (if 0 ≤ x1147q then (if 0 ≤ (btI p0 x1147q) then (if (btI p0 x1147q) < (257 : Int) then (if 0 ≤ ((gt z116 r1083q (btI p0 x1147q)).f1) then (huffman_Encode.l1 k x1140q (bOr .u64 (shlI .u64 x1145q ((gt z116 r1083q (btI p0 x1147q)).f1)) (IntKind.u64.wrap ((gt z116 r1083q (btI p0 x1147q)).f0))) (IntKind.i64.wrap (x1146q + (IntKind.i64.wrap ((gt z116 r1083q (btI p0 x1147q)).f1)))) p0 r1083q x1147q) else (none)) else (none)) else (none)) else (none)) else (if x1146q > 0 then (if 0 ≤ (IntKind.i64.wrap (8 - x1146q)) then (if x1140q.length + 1 ≤ 140737488355328 then (lt1 (x1140q ++ ([IntKind.u8.wrap (bOr .u64 (shlI .u64 x1145q (IntKind.i64.wrap (8 - x1146q))) (IntKind.u64.wrap ((shlI .u64 1 (IntKind.i64.wrap (8 - x1146q))) - 1)))] : List Int) : List Int) fun y1341q => (some y1341q)) else (none)) else (none)) else (some x1140q))
def huffman_Encode.l1 : Nat → (List Int) → Int → Int → (List UInt8) → (List S116) → Int → Option ((List Int))
  | 0, _, _, _, _, _, _ => none
  | k + 1, x1208q, x1213q, x1214q, p0, r1083q, x1147q => if x1214q ≥ 8 then (if 0 ≤ (IntKind.i64.wrap (x1214q - 8)) then (if x1208q.length + 1 ≤ 140737488355328 then (lt1 (x1208q ++ ([IntKind.u8.wrap (shrI .u64 x1213q (IntKind.i64.wrap (x1214q - 8)))] : List Int) : List Int) fun y1244q => (huffman_Encode.l1 k y1244q (bAnd .u64 x1213q (IntKind.u64.wrap ((shlI .u64 1 (IntKind.i64.wrap (x1214q - 8))) - 1))) (IntKind.i64.wrap (x1214q - 8)) p0 r1083q x1147q)) else (none)) else (none)) else (huffman_Encode.l0 k x1208q x1213q x1214q (IntKind.i64.wrap (x1147q + 1)) p0 r1083q)
end
def huffman_Encode.f (k : Nat) (p0 : (List UInt8)) : Option ((List Int)) := bnd1 (huffman_codes.f k) fun r1083q => (bnd1 (huffman_Size.f k p0) fun r1108q => (if (0 : Int) ≤ r1108q then (if r1108q * 1 ≤ 140737488355328 then (lt1 (List.replicate (0 : Int).toNat (0 : Int) : List Int) fun y1124q => (huffman_Encode.l0 k y1124q 0 0 0 p0 r1083q)) else (none)) else (none)))
set_option maxHeartbeats 2000000 in
set_option maxRecDepth 100000 in
theorem huffman_Encode.calls (k : Nat) {b : Nat} {w0 W : World} {R : Frag} {Fs : List Frag} {p0 : (List UInt8)}  {r0q : (List Int)} (hg1 : Rds (kInt .u8) b w0 [] (.slice (some ⟨1, 0, none⟩) 257 257) G1) (H : huffman_Encode.f k p0 = some r0q) (hS : St b w0 W R (Fs)) :
    Calls Tryd.prog 60 ([.string (mkS p0)] : List Value).toArray W (fun e W' => ∃ (u0q : Value) (N0q : Frag), e = .returned (u0q) ∧ Row (kInt .u8) 5 b w0 R u0q r0q N0q ∧ St b w0 W' R (N0q :: Fs)) := by
  unfold huffman_Encode.f at H
  refine calls_enter Tryd.func60 rfl 70 rfl (by kernel_rfl) (fun a h => ?_)
  refine wp_seq ?_
  refine WL.start ?_
  refine WL.block (c := 1) (m' := 1) h rfl [(2, .slice none 0 0)] (by kernel_rfl) (fun a1080q h1081q => ?_)
  refine WL.done (by kernel_rfl) ?_
  refine wp_seq ?_
  refine WL.start ?_
  obtain ⟨r1083q, A1082q, H⟩ := bind1 H
  refine WL.op' (m := 0) h1081q rfl rfl ?_
  refine owp_call [] h1081q rfl (by kernel_rfl) rfl Tryd.func63 (by kernel_rfl) rfl (by kernel_rfl) (huffman_codes.calls k hg1 A1082q hS) (fun e1085q W1084q hp1086q => ?_)
  obtain ⟨rfl, hl1089q, hS1090q⟩ := hp1086q
  refine ⟨_, rfl, fun a1087q h1088q => ?_⟩
  clear h1081q a1080q
  refine WL.op' (m := 1) h1088q rfl rfl ?_
  refine owp_new (fun g_ => .pointer (some ⟨g_, 0, none⟩)) (.cells ((List.replicate 257 z116 : List S116).flatMap (fun x : S116 => ([.int .u32 x.f0, .int .u8 x.f1] : List Value))).toArray 117 (0, 0)) h1088q rfl (by kernel_rfl) (by kernel_rfl) hS1090q (fun a1091q W1093q g1094q h1092q hS1095q => ?_)
  clear h1088q a1087q
  have hl1097q : (List.replicate 257 z116 : List S116).length = 257 := by simp
  have hr1096q : Row k116 117 b w0 R (.slice (some ⟨g1094q, 0, none⟩) 257 257) (List.replicate 257 z116 : List S116) [(g1094q, .cells ((List.replicate 257 z116 : List S116).flatMap (fun x : S116 => ([.int .u32 x.f0, .int .u8 x.f1] : List Value))).toArray 117 (0, 0))] := Row.arr (reps_flat (fun x_ => by obtain ⟨_, hk_, rfl⟩ := k116qmk (b := b) (w0 := w0) (R := R) (x := x_); exact hk_) _) hl1097q (by decide)
  obtain ⟨M1098q, hM_⟩ : ∃ y : Frag, y = [(g1094q, .cells ((List.replicate 257 z116 : List S116).flatMap (fun x : S116 => ([.int .u32 x.f0, .int .u8 x.f1] : List Value))).toArray 117 (0, 0))] := ⟨_, rfl⟩
  rw [← hM_] at hr1096q hS1095q
  clear hM_
  refine WL.op' (m := 2) h1092q rfl rfl ?_
  refine owp_storearr (f := (fun x : S116 => ([.int .u32 x.f0, .int .u8 x.f1] : List Value))) (ys := r1083q) (N := 257) h1092q rfl (by kernel_rfl) rfl rfl rfl (by kernel_rfl) (fun x_ => by obtain ⟨_, hk_, rfl⟩ := k116qmk (b := b) (w0 := w0) (R := R) (x := x_); exact hk_) hl1097q hl1089q (by decide) hr1096q hS1095q (fun a1099q W1101q M1102q h1100q hr1103q hS1104q => ?_)
  clear h1092q a1091q
  refine WL.done (by kernel_rfl) ?_
  refine wp_seq ?_
  refine WL.start ?_
  refine WL.block (c := 1) (m' := 1) h1100q rfl [(11, .string (mkS p0))] (by kernel_rfl) (fun a1105q h1106q => ?_)
  clear h1100q a1099q
  obtain ⟨r1108q, A1107q, H⟩ := bind1 H
  refine WL.op' (m := 1) h1106q rfl rfl ?_
  refine owp_call [.string (mkS p0)] h1106q rfl (by kernel_rfl) rfl Tryd.func64 (by kernel_rfl) rfl (by kernel_rfl) (huffman_Size.calls k hg1 A1107q hS1104q) (fun e1110q W1109q hp1111q => ?_)
  obtain ⟨rfl, hS1114q⟩ := hp1111q
  refine ⟨_, rfl, fun a1112q h1113q => ?_⟩
  clear h1106q a1105q
  by_cases c1115q : (0 : Int) ≤ r1108q
  · rw [if_pos c1115q] at H
    by_cases c1116q : r1108q * 1 ≤ 140737488355328
    · rw [if_pos c1116q] at H
      refine WL.op' (m := 2) h1113q rfl rfl ?_
      refine owp_make' (z := .int .u8 0) (z0 := (0 : Int)) (bytes := 1) (dk := (kInt .u8)) h1113q rfl (by kernel_rfl) rfl rfl rfl Tryd.underlying22 (by kernel_rfl) rfl (by decide) ⟨rfl, rfl⟩ hS1114q (by first | assumption | omega) (by first | assumption | omega) (by omega) (fun a1117q W1119q v1120q M1121q h1118q hr1122q hS1123q => ?_)
      clear h1113q a1112q
      obtain ⟨y1124q, hy1125q, H⟩ := lete H
      have hr1126q : Row (kInt .u8) 5 b w0 R v1120q y1124q M1121q := by rw [hy1125q]; exact hr1122q
      clear hr1122q
      obtain ⟨A1127q, c1128q, rfl⟩ := hr1126q.form
      refine WL.block (c := 1) (m' := 4) h1118q rfl [(4, .slice A1127q y1124q.length c1128q)] (by kernel_rfl) (fun a1129q h1130q => ?_)
      clear h1118q a1117q
      refine WL.done (by kernel_rfl) ?_
      refine wp_seq ?_
      refine WL.start ?_
      refine WL.block (c := 2) (m' := 2) h1130q rfl [(6, .int .i64 0), (5, .int .u64 0)] (by kernel_rfl) (fun a1131q h1132q => ?_)
      clear h1130q a1129q
      refine WL.done (by kernel_rfl) ?_
      refine wp_seq ?_
      refine wp_seq ?_
      refine WL.start ?_
      refine WL.block (c := 3) (m' := 3) h1132q rfl [(16, .int .i64 0), (15, .int .i64 (p0.length : Int)), (14, .string (mkS p0))] (by kernel_rfl) (fun a1133q h1134q => ?_)
      clear h1132q a1131q
      refine WL.done (by kernel_rfl) ?_
      refine wp_block ?_
      have hS1148q : St b w0 W1119q R (M1102q :: M1121q :: Fs) := hS1123q.bring 1 rfl rfl
      refine wp_loop_ghost (fun kq_ a_ W_ => ∃ (x1140q : (List Int)), ∃ (A1141q : Option Addr), ∃ (c1142q : Nat), ∃ (M1143q : Frag), ∃ (x1145q : Int), ∃ (x1146q : Int), ∃ (x1147q : Int), Hd a_ 70 [(0, .string (mkS p0)), (3, .pointer (some ⟨g1094q, 0, none⟩)), (4, .slice A1141q x1140q.length c1142q), (5, .int .u64 x1145q), (6, .int .i64 x1146q), (15, .int .i64 (p0.length : Int)), (16, .int .i64 x1147q)] ∧ Asd (huffman_Encode.l0 kq_ x1140q x1145q x1146q x1147q p0 r1083q = some r0q) ∧ Asd (kq_ ≤ k) ∧ Asd (St b w0 W_ R (M1102q :: M1143q :: Fs)) ∧ Asd (Row (kInt .u8) 5 b w0 R (.slice A1141q x1140q.length c1142q) x1140q M1143q)) k ⟨y1124q, A1127q, c1128q, M1121q, 0, 0, 0, h1134q.keep ⟨rfl, rfl, rfl, rfl, rfl, rfl, rfl, trivial⟩, ⟨H⟩, ⟨Nat.le_refl _⟩, ⟨hS1148q⟩, ⟨hr1126q⟩⟩ ?_
      clear H hS1148q
      rintro k1139q a1136q W1137q ⟨x1140q, A1141q, c1142q, M1143q, x1145q, x1146q, x1147q, h1135q, ⟨H⟩, ⟨hkk1139q⟩, ⟨hS1138q⟩, ⟨hr1144q⟩⟩
      obtain _ | k1149q := k1139q
      · exact absurd H (by simp [huffman_Encode.l0])
      simp only [huffman_Encode.l0] at H
      refine wp_seq ?_
      refine WL.start ?_
      refine WL.block (c := 1) (m' := 1) h1135q rfl [(17, .bool (decide (x1147q < (p0.length : Int))))] (by kernel_rfl) (fun a1150q h1151q => ?_)
      clear h1135q a1136q
      refine WL.done (by kernel_rfl) ?_
      refine wp_seq ?_
      by_cases c1152q : x1147q < (p0.length : Int)
      · rw [if_pos c1152q] at H
        have hb_ : (decide (x1147q < (p0.length : Int))) = true := decide_eq_true c1152q
        try rw [hb_] at h1151q
        clear hb_
        refine wp_then h1151q rfl ?_
        refine wp_skip ?_
        refine wp_seq ?_
        refine wp_block ?_
        refine wp_seq ?_
        refine WL.start ?_
        refine WL.block (c := 2) (m' := 2) h1151q rfl [(7, .int .i64 x1147q), (18, .int .i64 x1147q)] (by kernel_rfl) (fun a1153q h1154q => ?_)
        clear h1151q a1150q
        refine WL.done (by kernel_rfl) ?_
        refine wp_seq ?_
        refine WL.start ?_
        refine WL.block (c := 2) (m' := 2) h1154q rfl [(20, .int .i64 x1147q), (19, .string (mkS p0))] (by kernel_rfl) (fun a1155q h1156q => ?_)
        clear h1154q a1153q
        by_cases c1157q : 0 ≤ x1147q
        · rw [if_pos c1157q] at H
          refine WL.op' (m := 2) h1156q rfl rfl ?_
          refine owp_run (v := .int .u8 (btI p0 x1147q)) h1156q rfl (by kernel_rfl) (run_stridx rfl rfl rfl Tryd.underlying9 (by first | assumption | omega) (by first | assumption | omega)) (fun a1158q h1159q => ?_)
          clear h1156q a1155q
          by_cases c1160q : 0 ≤ (btI p0 x1147q)
          · rw [if_pos c1160q] at H
            by_cases c1161q : (btI p0 x1147q) < (257 : Int)
            · rw [if_pos c1161q] at H
              have hi1162q : 0 ≤ (btI p0 x1147q) := by first | assumption | omega
              have hi1164q : (btI p0 x1147q) < ((257 : Nat) : Int) := by omega
              have hi1163q : (btI p0 x1147q) < (r1083q.length : Int) := by rw [hl1089q]; exact hi1164q
              refine WL.op' (m := 3) h1159q rfl rfl ?_
              refine owp_run (v := .pointer (some ((⟨g1094q, 0, none⟩ : Addr).add ((btI p0 x1147q).toNat * 2)))) h1159q rfl (by kernel_rfl) (run_idxarr (ad := ⟨g1094q, 0, none⟩) (sz := 2) rfl rfl rfl Tryd.underlying117 (by kernel_rfl) hi1162q hi1164q) (fun a1166q h1167q => ?_)
              clear h1159q a1158q
              obtain ⟨ad1168q, cs1169q, ha1170q, hr1172q, hc1171q⟩ := Rds.elemAny hr1103q.rds hi1162q (gt_get (z := z116) hi1162q hi1163q)
              obtain rfl := Option.some.inj ha1170q
              obtain rfl := k116qrd hr1172q
              refine WL.op' (m := 4) h1167q rfl rfl ?_
              refine owp_run (v := .agg #[.int .u32 ((gt z116 r1083q (btI p0 x1147q)).f0), .int .u8 ((gt z116 r1083q (btI p0 x1147q)).f1)]) h1167q rfl (by kernel_rfl) (run_loadN rfl rfl Tryd.underlying116 rfl (cs := ([.int .u32 ((gt z116 r1083q (btI p0 x1147q)).f0), .int .u8 ((gt z116 r1083q (btI p0 x1147q)).f1)] : List Value)) (by kernel_rfl) (hc1171q _ (fun _ _ hk_ => (hS1138q).pool.kn hk_))) (fun a1173q h1174q => ?_)
              clear h1167q a1166q
              refine WL.op' (m := 5) h1174q rfl rfl ?_
              refine owp_new (fun g_ => .pointer (some ⟨g_, 0, none⟩)) (.cells ([.int .u32 0, .int .u8 0] : List Value).toArray 116 (0, 0)) h1174q rfl (by kernel_rfl) (by kernel_rfl) hS1138q (fun a1175q W1177q g1178q h1176q hS1179q => ?_)
              clear h1174q a1173q
              refine WL.op' (m := 6) h1176q rfl rfl ?_
              refine owp_store (i := 0) (vs := ([.int .u32 ((gt z116 r1083q (btI p0 x1147q)).f0), .int .u8 ((gt z116 r1083q (btI p0 x1147q)).f1)] : List Value)) h1176q rfl (by kernel_rfl) rfl rfl rfl rfl (by simp [Value.oneCell']) (by kernel_rfl) hS1179q (by simp) (cs' := ([.int .u32 ((gt z116 r1083q (btI p0 x1147q)).f0), .int .u8 ((gt z116 r1083q (btI p0 x1147q)).f1)] : List Value)) rfl (fun a1180q W1182q h1181q hS1183q => ?_)
              clear h1176q a1175q
              refine WL.done (by kernel_rfl) ?_
              refine wp_seq ?_
              refine WL.start ?_
              refine WL.block (c := 2) (m' := 2) h1181q rfl [(25, .pointer (some ⟨g1178q, 1, none⟩)), (24, .int .u64 x1145q)] (by kernel_rfl) (fun a1184q h1185q => ?_)
              clear h1181q a1180q
              refine WL.op' (m := 2) h1185q rfl rfl ?_
              refine owp_run (v := .int .u8 ((gt z116 r1083q (btI p0 x1147q)).f1)) h1185q rfl (by kernel_rfl) (run_load1 rfl rfl Tryd.underlying5 rfl (hS1183q.cell (i := 1) rfl)) (fun a1186q h1187q => ?_)
              clear h1185q a1184q
              by_cases c1188q : 0 ≤ ((gt z116 r1083q (btI p0 x1147q)).f1)
              · rw [if_pos c1188q] at H
                refine WL.op' (m := 3) h1187q rfl rfl ?_
                refine owp_run (v := .int .u64 (shlI .u64 x1145q ((gt z116 r1083q (btI p0 x1147q)).f1))) h1187q rfl (by kernel_rfl) (run_shl rfl rfl rfl (by assumption)) (fun a1189q h1190q => ?_)
                clear h1187q a1186q
                refine WL.block (c := 1) (m' := 5) h1190q rfl [(28, .pointer (some ⟨g1178q, 0, none⟩))] (by kernel_rfl) (fun a1191q h1192q => ?_)
                clear h1190q a1189q
                refine WL.op' (m := 5) h1192q rfl rfl ?_
                refine owp_run (v := .int .u32 ((gt z116 r1083q (btI p0 x1147q)).f0)) h1192q rfl (by kernel_rfl) (run_load1 rfl rfl Tryd.underlying29 rfl (hS1183q.cell (i := 0) rfl)) (fun a1193q h1194q => ?_)
                clear h1192q a1191q
                refine WL.block (c := 3) (m' := 9) h1194q rfl [(5, .int .u64 (bOr .u64 (shlI .u64 x1145q ((gt z116 r1083q (btI p0 x1147q)).f1)) (IntKind.u64.wrap ((gt z116 r1083q (btI p0 x1147q)).f0)))), (31, .int .u64 (bOr .u64 (shlI .u64 x1145q ((gt z116 r1083q (btI p0 x1147q)).f1)) (IntKind.u64.wrap ((gt z116 r1083q (btI p0 x1147q)).f0)))), (30, .int .u64 (IntKind.u64.wrap ((gt z116 r1083q (btI p0 x1147q)).f0)))] (by kernel_rfl) (fun a1195q h1196q => ?_)
                clear h1194q a1193q
                refine WL.done (by kernel_rfl) ?_
                refine wp_seq ?_
                refine WL.start ?_
                refine WL.block (c := 2) (m' := 2) h1196q rfl [(33, .pointer (some ⟨g1178q, 1, none⟩)), (32, .int .i64 x1146q)] (by kernel_rfl) (fun a1197q h1198q => ?_)
                clear h1196q a1195q
                refine WL.op' (m := 2) h1198q rfl rfl ?_
                refine owp_run (v := .int .u8 ((gt z116 r1083q (btI p0 x1147q)).f1)) h1198q rfl (by kernel_rfl) (run_load1 rfl rfl Tryd.underlying5 rfl (hS1183q.cell (i := 1) rfl)) (fun a1199q h1200q => ?_)
                clear h1198q a1197q
                refine WL.block (c := 3) (m' := 6) h1200q rfl [(6, .int .i64 (IntKind.i64.wrap (x1146q + (IntKind.i64.wrap ((gt z116 r1083q (btI p0 x1147q)).f1))))), (36, .int .i64 (IntKind.i64.wrap (x1146q + (IntKind.i64.wrap ((gt z116 r1083q (btI p0 x1147q)).f1))))), (35, .int .i64 (IntKind.i64.wrap ((gt z116 r1083q (btI p0 x1147q)).f1)))] (by kernel_rfl) (fun a1201q h1202q => ?_)
                clear h1200q a1199q
                refine WL.done (by kernel_rfl) ?_
                refine wp_block ?_
                have hS1215q : St b w0 W1182q R (M1102q :: M1143q :: Fs) := hS1183q.drop_
                refine wp_loop_ghost (fun kq_ a_ W_ => ∃ (x1208q : (List Int)), ∃ (A1209q : Option Addr), ∃ (c1210q : Nat), ∃ (M1211q : Frag), ∃ (x1213q : Int), ∃ (x1214q : Int), Hd a_ 70 [(0, .string (mkS p0)), (3, .pointer (some ⟨g1094q, 0, none⟩)), (4, .slice A1209q x1208q.length c1210q), (5, .int .u64 x1213q), (6, .int .i64 x1214q), (15, .int .i64 (p0.length : Int)), (16, .int .i64 x1147q)] ∧ Asd (huffman_Encode.l1 kq_ x1208q x1213q x1214q p0 r1083q x1147q = some r0q) ∧ Asd (kq_ ≤ k1149q) ∧ Asd (St b w0 W_ R (M1102q :: M1211q :: Fs)) ∧ Asd (Row (kInt .u8) 5 b w0 R (.slice A1209q x1208q.length c1210q) x1208q M1211q)) k1149q ⟨x1140q, A1141q, c1142q, M1143q, bOr .u64 (shlI .u64 x1145q ((gt z116 r1083q (btI p0 x1147q)).f1)) (IntKind.u64.wrap ((gt z116 r1083q (btI p0 x1147q)).f0)), IntKind.i64.wrap (x1146q + (IntKind.i64.wrap ((gt z116 r1083q (btI p0 x1147q)).f1))), h1202q.keep ⟨rfl, rfl, rfl, rfl, rfl, rfl, rfl, trivial⟩, ⟨H⟩, ⟨Nat.le_refl _⟩, ⟨hS1215q⟩, ⟨hr1144q⟩⟩ ?_
                clear H hS1215q
                rintro k1207q a1204q W1205q ⟨x1208q, A1209q, c1210q, M1211q, x1213q, x1214q, h1203q, ⟨H⟩, ⟨hkk1207q⟩, ⟨hS1206q⟩, ⟨hr1212q⟩⟩
                obtain _ | k1216q := k1207q
                · exact absurd H (by simp [huffman_Encode.l1])
                simp only [huffman_Encode.l1] at H
                refine wp_seq ?_
                refine wp_seq ?_
                refine WL.start ?_
                refine WL.block (c := 2) (m' := 2) h1203q rfl [(38, .bool (decide (x1214q ≥ 8))), (37, .int .i64 x1214q)] (by kernel_rfl) (fun a1217q h1218q => ?_)
                clear h1203q a1204q
                refine WL.done (by kernel_rfl) ?_
                by_cases c1219q : x1214q ≥ 8
                · rw [if_pos c1219q] at H
                  have hb_ : (decide (x1214q ≥ 8)) = true := decide_eq_true c1219q
                  try rw [hb_] at h1218q
                  clear hb_
                  refine wp_then h1218q rfl ?_
                  refine wp_skip ?_
                  refine wp_block ?_
                  refine wp_seq ?_
                  refine WL.start ?_
                  refine WL.block (c := 3) (m' := 3) h1218q rfl [(6, .int .i64 (IntKind.i64.wrap (x1214q - 8))), (40, .int .i64 (IntKind.i64.wrap (x1214q - 8))), (39, .int .i64 x1214q)] (by kernel_rfl) (fun a1220q h1221q => ?_)
                  clear h1218q a1217q
                  refine WL.done (by kernel_rfl) ?_
                  refine wp_seq ?_
                  refine WL.start ?_
                  refine WL.block (c := 3) (m' := 3) h1221q rfl [(43, .int .i64 (IntKind.i64.wrap (x1214q - 8))), (42, .int .u64 x1213q), (41, .slice A1209q x1208q.length c1210q)] (by kernel_rfl) (fun a1222q h1223q => ?_)
                  clear h1221q a1220q
                  by_cases c1224q : 0 ≤ (IntKind.i64.wrap (x1214q - 8))
                  · rw [if_pos c1224q] at H
                    refine WL.op' (m := 3) h1223q rfl rfl ?_
                    refine owp_run (v := .int .u64 (shrI .u64 x1213q (IntKind.i64.wrap (x1214q - 8)))) h1223q rfl (by kernel_rfl) (run_shr rfl rfl rfl (by assumption)) (fun a1225q h1226q => ?_)
                    clear h1223q a1222q
                    refine WL.block (c := 1) (m' := 5) h1226q rfl [(45, .int .u8 (IntKind.u8.wrap (shrI .u64 x1213q (IntKind.i64.wrap (x1214q - 8)))))] (by kernel_rfl) (fun a1227q h1228q => ?_)
                    clear h1226q a1225q
                    refine WL.op' (m := 5) h1228q rfl rfl ?_
                    refine owp_new (fun g_ => .slice (some ⟨g_, 0, none⟩) 1 1) (.cells ([.int .u8 (IntKind.u8.wrap (shrI .u64 x1213q (IntKind.i64.wrap (x1214q - 8))))] : List Value).toArray 5 (0, 0)) h1228q rfl (by kernel_rfl) (by kernel_rfl) hS1206q (fun a1229q W1231q g1232q h1230q hS1233q => ?_)
                    clear h1228q a1227q
                    have hr1234q : Row (kInt .u8) 5 b w0 R (.slice (some ⟨g1232q, 0, none⟩) 1 1) ([IntKind.u8.wrap (shrI .u64 x1213q (IntKind.i64.wrap (x1214q - 8)))] : List Int) [(g1232q, .cells ([.int .u8 (IntKind.u8.wrap (shrI .u64 x1213q (IntKind.i64.wrap (x1214q - 8))))] : List Value).toArray 5 (0, 0))] := Row.lit (xs := ([IntKind.u8.wrap (shrI .u64 x1213q (IntKind.i64.wrap (x1214q - 8)))] : List Int)) (Mi := []) ⟨_, _, [], _, rfl, rfl, ⟨rfl, rfl⟩, ⟨rfl, rfl⟩⟩ (by simp [maxLen])
                    by_cases c1235q : x1208q.length + 1 ≤ 140737488355328
                    · rw [if_pos c1235q] at H
                      have hS1236q : St b w0 W1231q R (M1211q :: [(g1232q, .cells ([.int .u8 (IntKind.u8.wrap (shrI .u64 x1213q (IntKind.i64.wrap (x1214q - 8))))] : List Value).toArray 5 (0, 0))] :: M1102q :: Fs) := hS1233q.bring 2 rfl rfl
                      refine WL.op' (m := 6) h1230q rfl rfl ?_
                      refine owp_app_take (z := .int .u8 0) (bytes := 1) (dk := (kInt .u8)) h1230q rfl (by kernel_rfl) rfl rfl rfl hr1212q hr1234q hS1236q Tryd.underlying22 (by kernel_rfl) rfl (by decide) (by decide) (by first | omega | (simp only [List.length_cons, List.length_nil] at *; omega)) (fun a1237q W1239q v1240q M1241q h1238q hr1242q hS1243q => ?_)
                      clear h1230q a1229q
                      obtain ⟨y1244q, hy1245q, H⟩ := lete H
                      have hr1246q : Row (kInt .u8) 5 b w0 R v1240q y1244q M1241q := by rw [hy1245q]; exact hr1242q
                      clear hr1242q
                      obtain ⟨A1247q, c1248q, rfl⟩ := hr1246q.form
                      refine WL.block (c := 1) (m' := 8) h1238q rfl [(4, .slice A1247q y1244q.length c1248q)] (by kernel_rfl) (fun a1249q h1250q => ?_)
                      clear h1238q a1237q
                      refine WL.done (by kernel_rfl) ?_
                      refine WL.start ?_
                      refine WL.block (c := 2) (m' := 2) h1250q rfl [(49, .int .i64 (IntKind.i64.wrap (x1214q - 8))), (48, .int .u64 x1213q)] (by kernel_rfl) (fun a1251q h1252q => ?_)
                      clear h1250q a1249q
                      refine WL.op' (m := 2) h1252q rfl rfl ?_
                      refine owp_run (v := .int .u64 (shlI .u64 1 (IntKind.i64.wrap (x1214q - 8)))) h1252q rfl (by kernel_rfl) (run_shl rfl rfl rfl (by assumption)) (fun a1253q h1254q => ?_)
                      clear h1252q a1251q
                      refine WL.block (c := 3) (m' := 6) h1254q rfl [(5, .int .u64 (bAnd .u64 x1213q (IntKind.u64.wrap ((shlI .u64 1 (IntKind.i64.wrap (x1214q - 8))) - 1)))), (52, .int .u64 (bAnd .u64 x1213q (IntKind.u64.wrap ((shlI .u64 1 (IntKind.i64.wrap (x1214q - 8))) - 1)))), (51, .int .u64 (IntKind.u64.wrap ((shlI .u64 1 (IntKind.i64.wrap (x1214q - 8))) - 1)))] (by kernel_rfl) (fun a1255q h1256q => ?_)
                      clear h1254q a1253q
                      refine WL.done (by kernel_rfl) ?_
                      have hS1257q : St b w0 W1239q R (M1102q :: M1241q :: Fs) := hS1243q.bring 1 rfl rfl
                      exact ⟨k1216q, by omega, y1244q, A1247q, c1248q, M1241q, bAnd .u64 x1213q (IntKind.u64.wrap ((shlI .u64 1 (IntKind.i64.wrap (x1214q - 8))) - 1)), IntKind.i64.wrap (x1214q - 8), h1256q.keep ⟨rfl, rfl, rfl, rfl, rfl, rfl, rfl, trivial⟩, ⟨H⟩, ⟨by omega⟩, ⟨hS1257q⟩, ⟨hr1246q⟩⟩
                    · rw [if_neg c1235q] at H
                      cases H
                  · rw [if_neg c1224q] at H
                    cases H
                · rw [if_neg c1219q] at H
                  have hb_ : (decide (x1214q ≥ 8)) = false := decide_eq_false c1219q
                  try rw [hb_] at h1218q
                  clear hb_
                  refine wp_else h1218q rfl ?_
                  refine wp_exit ?_
                  refine WL.start ?_
                  refine WL.block (c := 2) (m' := 2) h1218q rfl [(16, .int .i64 (IntKind.i64.wrap (x1147q + 1))), (53, .int .i64 (IntKind.i64.wrap (x1147q + 1)))] (by kernel_rfl) (fun a1258q h1259q => ?_)
                  clear h1218q a1217q
                  refine WL.done (by kernel_rfl) ?_
                  exact ⟨k1216q, by omega, x1208q, A1209q, c1210q, M1211q, x1213q, x1214q, IntKind.i64.wrap (x1147q + 1), h1259q.keep ⟨rfl, rfl, rfl, rfl, rfl, rfl, rfl, trivial⟩, ⟨H⟩, ⟨by omega⟩, ⟨hS1206q⟩, ⟨hr1212q⟩⟩
              · rw [if_neg c1188q] at H
                cases H
            · rw [if_neg c1161q] at H
              cases H
          · rw [if_neg c1160q] at H
            cases H
        · rw [if_neg c1157q] at H
          cases H
      · rw [if_neg c1152q] at H
        have hb_ : (decide (x1147q < (p0.length : Int))) = false := decide_eq_false c1152q
        try rw [hb_] at h1151q
        clear hb_
        refine wp_else h1151q rfl ?_
        refine wp_exit ?_
        refine wp_seq ?_
        refine wp_seq ?_
        refine WL.start ?_
        refine WL.block (c := 2) (m' := 2) h1151q rfl [(55, .bool (decide (x1146q > 0))), (54, .int .i64 x1146q)] (by kernel_rfl) (fun a1260q h1261q => ?_)
        clear h1151q a1150q
        refine WL.done (by kernel_rfl) ?_
        by_cases c1262q : x1146q > 0
        · rw [if_pos c1262q] at H
          have hb_ : (decide (x1146q > 0)) = true := decide_eq_true c1262q
          try rw [hb_] at h1261q
          clear hb_
          refine wp_then h1261q rfl ?_
          refine wp_seq ?_
          refine WL.start ?_
          refine WL.block (c := 3) (m' := 3) h1261q rfl [(9, .int .i64 (IntKind.i64.wrap (8 - x1146q))), (57, .int .i64 (IntKind.i64.wrap (8 - x1146q))), (56, .int .i64 x1146q)] (by kernel_rfl) (fun a1263q h1264q => ?_)
          clear h1261q a1260q
          refine WL.done (by kernel_rfl) ?_
          refine WT.start 12 (fun w_ => True) (by kernel_rfl) #[false, false, false, false, false, false, false, false, false, false, false, false] 12 rfl rfl ?_
          have hS1306q := hS1138q.drew
          refine WT.take 0 (listed' := #[true, false, false, false, false, false, false, false, false, false, false, false]) h1264q rfl rfl (by kernel_rfl) rfl rfl (.slice A1141q x1140q.length c1142q) (fun _ _ => by kernel_rfl) trivial (fun _ _ _ h_ => h_) (fun a1307q h1308q => ?_)
          clear h1264q a1263q
          refine WT.take 1 (listed' := #[true, true, false, false, false, false, false, false, false, false, false, false]) h1308q rfl rfl (by kernel_rfl) rfl rfl (.int .u64 x1145q) (fun _ _ => by kernel_rfl) trivial (fun _ _ _ h_ => h_) (fun a1309q h1310q => ?_)
          clear h1308q a1307q
          refine WT.take 2 (listed' := #[true, true, true, false, false, false, false, false, false, false, false, false]) h1310q rfl rfl (by kernel_rfl) rfl rfl (.int .i64 (IntKind.i64.wrap (8 - x1146q))) (fun _ _ => by kernel_rfl) trivial (fun _ _ _ h_ => h_) (fun a1311q h1312q => ?_)
          clear h1310q a1309q
          refine WT.take 4 (listed' := #[true, true, true, false, true, false, false, false, false, false, false, false]) h1312q rfl rfl (by kernel_rfl) rfl rfl (.int .i64 (IntKind.i64.wrap (8 - x1146q))) (fun _ _ => by kernel_rfl) trivial (fun _ _ _ h_ => h_) (fun a1313q h1314q => ?_)
          clear h1312q a1311q
          by_cases c1315q : 0 ≤ (IntKind.i64.wrap (8 - x1146q))
          · rw [if_pos c1315q] at H
            refine WT.take 3 (listed' := #[true, true, true, true, true, false, false, false, false, false, false, false]) h1314q rfl rfl (by kernel_rfl) rfl rfl (.int .u64 (shlI .u64 x1145q (IntKind.i64.wrap (8 - x1146q)))) (fun w_ hs_ => (run_shl rfl rfl rfl (by assumption))) trivial (fun _ _ _ h_ => h_) (fun a1316q h1317q => ?_)
            clear h1314q a1313q
            refine WT.take 5 (listed' := #[true, true, true, true, true, true, false, false, false, false, false, false]) h1317q rfl rfl (by kernel_rfl) rfl rfl (.int .u64 (shlI .u64 1 (IntKind.i64.wrap (8 - x1146q)))) (fun w_ hs_ => (run_shl rfl rfl rfl (by assumption))) trivial (fun _ _ _ h_ => h_) (fun a1318q h1319q => ?_)
            clear h1317q a1316q
            refine WT.take 6 (listed' := #[true, true, true, true, true, true, true, false, false, false, false, false]) h1319q rfl rfl (by kernel_rfl) rfl rfl (.int .u64 (IntKind.u64.wrap ((shlI .u64 1 (IntKind.i64.wrap (8 - x1146q))) - 1))) (fun _ _ => by kernel_rfl) trivial (fun _ _ _ h_ => h_) (fun a1320q h1321q => ?_)
            clear h1319q a1318q
            refine WT.take 7 (listed' := #[true, true, true, true, true, true, true, true, false, false, false, false]) h1321q rfl rfl (by kernel_rfl) rfl rfl (.int .u64 (bOr .u64 (shlI .u64 x1145q (IntKind.i64.wrap (8 - x1146q))) (IntKind.u64.wrap ((shlI .u64 1 (IntKind.i64.wrap (8 - x1146q))) - 1)))) (fun _ _ => by kernel_rfl) trivial (fun _ _ _ h_ => h_) (fun a1322q h1323q => ?_)
            clear h1321q a1320q
            refine WT.take 8 (listed' := #[true, true, true, true, true, true, true, true, true, false, false, false]) h1323q rfl rfl (by kernel_rfl) rfl rfl (.int .u8 (IntKind.u8.wrap (bOr .u64 (shlI .u64 x1145q (IntKind.i64.wrap (8 - x1146q))) (IntKind.u64.wrap ((shlI .u64 1 (IntKind.i64.wrap (8 - x1146q))) - 1))))) (fun _ _ => by kernel_rfl) trivial (fun _ _ _ h_ => h_) (fun a1324q h1325q => ?_)
            clear h1323q a1322q
            refine WT.op 9 (listed' := #[true, true, true, true, true, true, true, true, true, true, false, false]) h1325q rfl (by kernel_rfl) rfl rfl ?_
            refine owp_new (fun g_ => .slice (some ⟨g_, 0, none⟩) 1 1) (.cells ([.int .u8 (IntKind.u8.wrap (bOr .u64 (shlI .u64 x1145q (IntKind.i64.wrap (8 - x1146q))) (IntKind.u64.wrap ((shlI .u64 1 (IntKind.i64.wrap (8 - x1146q))) - 1))))] : List Value).toArray 5 (0, 0)) h1325q rfl (by kernel_rfl) (by kernel_rfl) hS1306q (fun a1326q W1328q g1329q h1327q hS1330q => ?_)
            clear h1325q a1324q
            have hr1331q : Row (kInt .u8) 5 b w0 R (.slice (some ⟨g1329q, 0, none⟩) 1 1) ([IntKind.u8.wrap (bOr .u64 (shlI .u64 x1145q (IntKind.i64.wrap (8 - x1146q))) (IntKind.u64.wrap ((shlI .u64 1 (IntKind.i64.wrap (8 - x1146q))) - 1)))] : List Int) [(g1329q, .cells ([.int .u8 (IntKind.u8.wrap (bOr .u64 (shlI .u64 x1145q (IntKind.i64.wrap (8 - x1146q))) (IntKind.u64.wrap ((shlI .u64 1 (IntKind.i64.wrap (8 - x1146q))) - 1))))] : List Value).toArray 5 (0, 0))] := Row.lit (xs := ([IntKind.u8.wrap (bOr .u64 (shlI .u64 x1145q (IntKind.i64.wrap (8 - x1146q))) (IntKind.u64.wrap ((shlI .u64 1 (IntKind.i64.wrap (8 - x1146q))) - 1)))] : List Int)) (Mi := []) ⟨_, _, [], _, rfl, rfl, ⟨rfl, rfl⟩, ⟨rfl, rfl⟩⟩ (by simp [maxLen])
            refine ⟨.inr trivial, ?_⟩
            by_cases c1332q : x1140q.length + 1 ≤ 140737488355328
            · rw [if_pos c1332q] at H
              have hS1333q : St b w0 W1328q R (M1143q :: [(g1329q, .cells ([.int .u8 (IntKind.u8.wrap (bOr .u64 (shlI .u64 x1145q (IntKind.i64.wrap (8 - x1146q))) (IntKind.u64.wrap ((shlI .u64 1 (IntKind.i64.wrap (8 - x1146q))) - 1))))] : List Value).toArray 5 (0, 0))] :: M1102q :: Fs) := hS1330q.bring 2 rfl rfl
              refine WT.op 10 (listed' := #[true, true, true, true, true, true, true, true, true, true, true, false]) h1327q rfl (by kernel_rfl) rfl rfl ?_
              refine owp_app_take (z := .int .u8 0) (bytes := 1) (dk := (kInt .u8)) h1327q rfl (by kernel_rfl) rfl rfl rfl hr1144q hr1331q hS1333q Tryd.underlying22 (by kernel_rfl) rfl (by decide) (by decide) (by first | omega | (simp only [List.length_cons, List.length_nil] at *; omega)) (fun a1334q W1336q v1337q M1338q h1335q hr1339q hS1340q => ?_)
              clear h1327q a1326q
              obtain ⟨y1341q, hy1342q, H⟩ := lete H
              have hr1343q : Row (kInt .u8) 5 b w0 R v1337q y1341q M1338q := by rw [hy1342q]; exact hr1339q
              clear hr1339q
              obtain ⟨A1344q, c1345q, rfl⟩ := hr1343q.form
              refine ⟨.inr trivial, ?_⟩
              refine WT.take 11 (listed' := #[true, true, true, true, true, true, true, true, true, true, true, true]) h1335q rfl rfl (by kernel_rfl) rfl rfl (.slice A1344q y1341q.length c1345q) (fun _ _ => by kernel_rfl) trivial (fun _ _ _ h_ => h_) (fun a1346q h1347q => ?_)
              clear h1335q a1334q
              refine WT.done (by kernel_rfl) ?_
              refine wp_seq ?_
              refine WL.start ?_
              refine WL.block (c := 2) (m' := 2) h1347q rfl [(2, .slice A1344q y1341q.length c1345q), (69, .slice A1344q y1341q.length c1345q)] (by kernel_rfl) (fun a1348q h1349q => ?_)
              clear h1347q a1346q
              refine WL.done (by kernel_rfl) ?_
              refine wp_ret ?_
              have hS1350q : St b w0 W1336q R (M1102q :: M1338q :: Fs) := hS1340q.bring 1 rfl rfl
              have hS1351q : St b w0 W1336q R (M1338q :: Fs) := hS1350q.drop_
              obtain rfl := Option.some.inj H
              repeat (first | refine then_ret ?_ | refine inBlock_ret ?_ | refine inBlock_go ?_)
              refine body_ret (v := .slice A1344q y1341q.length c1345q) h1349q (by kernel_rfl) (by kernel_rfl) ?_
              exact ⟨.slice A1344q y1341q.length c1345q, M1338q, rfl, hr1343q, hS1351q⟩
            · rw [if_neg c1332q] at H
              cases H
          · rw [if_neg c1315q] at H
            cases H
        · rw [if_neg c1262q] at H
          have hb_ : (decide (x1146q > 0)) = false := decide_eq_false c1262q
          try rw [hb_] at h1261q
          clear hb_
          refine wp_else h1261q rfl ?_
          refine wp_skip ?_
          refine wp_seq ?_
          refine WL.start ?_
          refine WL.block (c := 2) (m' := 2) h1261q rfl [(2, .slice A1141q x1140q.length c1142q), (69, .slice A1141q x1140q.length c1142q)] (by kernel_rfl) (fun a1352q h1353q => ?_)
          clear h1261q a1260q
          refine WL.done (by kernel_rfl) ?_
          refine wp_ret ?_
          have hS1354q : St b w0 W1137q R (M1143q :: Fs) := hS1138q.drop_
          obtain rfl := Option.some.inj H
          repeat (first | refine then_ret ?_ | refine inBlock_ret ?_ | refine inBlock_go ?_)
          refine body_ret (v := .slice A1141q x1140q.length c1142q) h1353q (by kernel_rfl) (by kernel_rfl) ?_
          exact ⟨.slice A1141q x1140q.length c1142q, M1143q, rfl, hr1144q, hS1354q⟩
    · rw [if_neg c1116q] at H
      cases H
  · rw [if_neg c1115q] at H
    cases H

/-! ### louver/hpack.text -/
def hpack_text.f (k : Nat) (p0 : (List Int)) (p1 : (List UInt8)) : Option ((List Int)) := bnd1 (huffman_Encode.f k p1) fun r98q => (if (r98q.length : Int) < (p1.length : Int) then (bnd1 (prefix_Put.f k p0 7 128 (IntKind.u32.wrap (r98q.length : Int))) fun r118q => (if r118q.length + r98q.length ≤ 140737488355328 then (lt1 (r118q ++ r98q : List Int) fun y142q => (some y142q)) else (none))) else (bnd1 (prefix_Put.f k p0 7 0 (IntKind.u32.wrap (p1.length : Int))) fun r154q => (if r154q.length + p1.length ≤ 140737488355328 then (lt1 (r154q ++ ofS p1 : List Int) fun y176q => (some y176q)) else (none))))
set_option maxHeartbeats 2000000 in
set_option maxRecDepth 100000 in
theorem hpack_text.calls (k : Nat) {b : Nat} {w0 W : World} {R : Frag} {Fs : List Frag} {p0 : (List Int)} {p1 : (List UInt8)} {v0 : Value} {r0q : (List Int)} (hp0 : Rds (kInt .u8) b w0 R v0 p0) (hg1 : Rds (kInt .u8) b w0 [] (.slice (some ⟨1, 0, none⟩) 257 257) G1) (H : hpack_text.f k p0 p1 = some r0q) (hS : St b w0 W R (Fs)) :
    Calls Tryd.prog 56 ([v0, .string (mkS p1)] : List Value).toArray W (fun e W' => ∃ (u0q : Value) (N0q : Frag), e = .returned (u0q) ∧ Row (kInt .u8) 5 b w0 R u0q r0q N0q ∧ St b w0 W' R (N0q :: Fs)) := by
  obtain ⟨A0, c0, rfl⟩ := hp0.form
  unfold hpack_text.f at H
  refine calls_enter Tryd.func56 rfl 27 rfl (by kernel_rfl) (fun a h => ?_)
  refine wp_seq ?_
  refine WL.start ?_
  refine WL.block (c := 1) (m' := 1) h rfl [(4, .slice none 0 0)] (by kernel_rfl) (fun a93q h94q => ?_)
  refine WL.done (by kernel_rfl) ?_
  refine wp_seq ?_
  refine wp_seq ?_
  refine WL.start ?_
  refine WL.block (c := 1) (m' := 1) h94q rfl [(6, .string (mkS p1))] (by kernel_rfl) (fun a95q h96q => ?_)
  clear h94q a93q
  obtain ⟨r98q, A97q, H⟩ := bind1 H
  refine WL.op' (m := 1) h96q rfl rfl ?_
  refine owp_call [.string (mkS p1)] h96q rfl (by kernel_rfl) rfl Tryd.func60 (by kernel_rfl) rfl (by kernel_rfl) (huffman_Encode.calls k hg1 A97q hS) (fun e100q W99q hp101q => ?_)
  obtain ⟨v104q, M105q, rfl, hr106q, hS107q⟩ := hp101q
  refine ⟨_, rfl, fun a102q h103q => ?_⟩
  clear h96q a95q
  obtain ⟨A108q, c109q, rfl⟩ := hr106q.form
  refine WL.block (c := 1) (m' := 3) h103q rfl [(5, .slice A108q r98q.length c109q)] (by kernel_rfl) (fun a110q h111q => ?_)
  clear h103q a102q
  refine WL.done (by kernel_rfl) ?_
  refine wp_seq ?_
  refine WL.start ?_
  refine WL.block (c := 5) (m' := 5) h111q rfl [(12, .bool (decide ((r98q.length : Int) < (p1.length : Int)))), (11, .int .i64 (p1.length : Int)), (10, .string (mkS p1)), (9, .int .i64 (r98q.length : Int)), (8, .slice A108q r98q.length c109q)] (by kernel_rfl) (fun a112q h113q => ?_)
  clear h111q a110q
  refine WL.done (by kernel_rfl) ?_
  by_cases c114q : (r98q.length : Int) < (p1.length : Int)
  · rw [if_pos c114q] at H
    have hb_ : (decide ((r98q.length : Int) < (p1.length : Int))) = true := decide_eq_true c114q
    try rw [hb_] at h113q
    clear hb_
    refine wp_then h113q rfl ?_
    refine wp_seq ?_
    refine WL.start ?_
    refine WL.block (c := 4) (m' := 4) h113q rfl [(16, .int .u32 (IntKind.u32.wrap (r98q.length : Int))), (15, .int .i64 (r98q.length : Int)), (14, .slice A108q r98q.length c109q), (13, .slice A0 p0.length c0)] (by kernel_rfl) (fun a115q h116q => ?_)
    clear h113q a112q
    obtain ⟨r118q, A117q, H⟩ := bind1 H
    refine WL.op' (m := 4) h116q rfl rfl ?_
    refine owp_call [.slice A0 p0.length c0, .int .i64 7, .int .u8 128, .int .u32 (IntKind.u32.wrap (r98q.length : Int))] h116q rfl (by kernel_rfl) rfl Tryd.func27 (by kernel_rfl) rfl (by kernel_rfl) (prefix_Put.calls k hp0 A117q hS107q) (fun e120q W119q hp121q => ?_)
    obtain ⟨v124q, M125q, rfl, hr126q, hS127q⟩ := hp121q
    refine ⟨_, rfl, fun a122q h123q => ?_⟩
    clear h116q a115q
    obtain ⟨A128q, c129q, rfl⟩ := hr126q.form
    refine WL.block (c := 1) (m' := 6) h123q rfl [(18, .slice A108q r98q.length c109q)] (by kernel_rfl) (fun a130q h131q => ?_)
    clear h123q a122q
    by_cases c132q : r118q.length + r98q.length ≤ 140737488355328
    · rw [if_pos c132q] at H
      have hS133q : St b w0 W119q R (M105q :: M125q :: Fs) := hS127q.bring 1 rfl rfl
      have hS134q : St b w0 W119q R (M125q :: M105q :: Fs) := hS133q.bring 1 rfl rfl
      refine WL.op' (m := 6) h131q rfl rfl ?_
      refine owp_app_keep (z := .int .u8 0) (bytes := 1) (dk := (kInt .u8)) h131q rfl (by kernel_rfl) rfl rfl rfl (fun hr_ => hr_.2) hr126q hr106q hS134q Tryd.underlying22 (by kernel_rfl) rfl (by decide) (by decide) (by first | omega | (simp only [List.length_cons, List.length_nil] at *; omega)) (fun a135q W137q v138q M139q h136q hr140q hS141q => ?_)
      clear h131q a130q
      obtain ⟨y142q, hy143q, H⟩ := lete H
      have hr144q : Row (kInt .u8) 5 b w0 R v138q y142q M139q := by rw [hy143q]; exact hr140q
      clear hr140q
      obtain ⟨A145q, c146q, rfl⟩ := hr144q.form
      refine WL.block (c := 1) (m' := 8) h136q rfl [(4, .slice A145q y142q.length c146q)] (by kernel_rfl) (fun a147q h148q => ?_)
      clear h136q a135q
      refine WL.done (by kernel_rfl) ?_
      refine wp_ret ?_
      have hS149q : St b w0 W137q R (M105q :: M139q :: Fs) := hS141q.bring 1 rfl rfl
      have hS150q : St b w0 W137q R (M139q :: Fs) := hS149q.drop_
      obtain rfl := Option.some.inj H
      repeat (first | refine then_ret ?_ | refine inBlock_ret ?_ | refine inBlock_go ?_)
      refine body_ret (v := .slice A145q y142q.length c146q) h148q (by kernel_rfl) (by kernel_rfl) ?_
      exact ⟨.slice A145q y142q.length c146q, M139q, rfl, hr144q, hS150q⟩
    · rw [if_neg c132q] at H
      cases H
  · rw [if_neg c114q] at H
    have hb_ : (decide ((r98q.length : Int) < (p1.length : Int))) = false := decide_eq_false c114q
    try rw [hb_] at h113q
    clear hb_
    refine wp_else h113q rfl ?_
    refine wp_skip ?_
    refine wp_seq ?_
    refine WL.start ?_
    refine WL.block (c := 4) (m' := 4) h113q rfl [(23, .int .u32 (IntKind.u32.wrap (p1.length : Int))), (22, .int .i64 (p1.length : Int)), (21, .string (mkS p1)), (20, .slice A0 p0.length c0)] (by kernel_rfl) (fun a151q h152q => ?_)
    clear h113q a112q
    obtain ⟨r154q, A153q, H⟩ := bind1 H
    refine WL.op' (m := 4) h152q rfl rfl ?_
    refine owp_call [.slice A0 p0.length c0, .int .i64 7, .int .u8 0, .int .u32 (IntKind.u32.wrap (p1.length : Int))] h152q rfl (by kernel_rfl) rfl Tryd.func27 (by kernel_rfl) rfl (by kernel_rfl) (prefix_Put.calls k hp0 A153q hS107q) (fun e156q W155q hp157q => ?_)
    obtain ⟨v160q, M161q, rfl, hr162q, hS163q⟩ := hp157q
    refine ⟨_, rfl, fun a158q h159q => ?_⟩
    clear h152q a151q
    obtain ⟨A164q, c165q, rfl⟩ := hr162q.form
    refine WL.block (c := 1) (m' := 6) h159q rfl [(25, .string (mkS p1))] (by kernel_rfl) (fun a166q h167q => ?_)
    clear h159q a158q
    by_cases c168q : r154q.length + p1.length ≤ 140737488355328
    · rw [if_pos c168q] at H
      refine WL.op' (m := 6) h167q rfl rfl ?_
      refine owp_app_str h167q rfl (by kernel_rfl) rfl rfl rfl hr162q hS163q Tryd.underlying22 Tryd.underlying9 (by kernel_rfl) (by simpa [ofS] using ‹r154q.length + p1.length ≤ 140737488355328›) (fun a169q W171q v172q M173q h170q hr174q hS175q => ?_)
      clear h167q a166q
      obtain ⟨y176q, hy177q, H⟩ := lete H
      have hr178q : Row (kInt .u8) 5 b w0 R v172q y176q M173q := by rw [hy177q]; exact hr174q
      clear hr174q
      obtain ⟨A179q, c180q, rfl⟩ := hr178q.form
      refine WL.block (c := 1) (m' := 8) h170q rfl [(4, .slice A179q y176q.length c180q)] (by kernel_rfl) (fun a181q h182q => ?_)
      clear h170q a169q
      refine WL.done (by kernel_rfl) ?_
      refine wp_ret ?_
      have hS183q : St b w0 W171q R (M105q :: M173q :: Fs) := hS175q.bring 1 rfl rfl
      have hS184q : St b w0 W171q R (M173q :: Fs) := hS183q.drop_
      obtain rfl := Option.some.inj H
      repeat (first | refine then_ret ?_ | refine inBlock_ret ?_ | refine inBlock_go ?_)
      refine body_ret (v := .slice A179q y176q.length c180q) h182q (by kernel_rfl) (by kernel_rfl) ?_
      exact ⟨.slice A179q y176q.length c180q, M173q, rfl, hr178q, hS184q⟩
    · rw [if_neg c168q] at H
      cases H

/-! ### louver/hpack.literal -/
def hpack_literal.f (k : Nat) (p0 : (List Int)) (p1 : Int) (p2 : Int) (p3 : Int) (p4 : S52) : Option ((List Int)) := bnd1 (prefix_Put.f k p0 p1 p2 (IntKind.u32.wrap p3)) fun r112q => (if p3 = 0 then (bnd1 (hpack_text.f k r112q p4.f0) fun r136q => (bnd1 (hpack_text.f k r136q p4.f1) fun r158q => (some r158q))) else (bnd1 (hpack_text.f k r112q p4.f1) fun r185q => (some r185q)))
set_option maxHeartbeats 2000000 in
set_option maxRecDepth 100000 in
theorem hpack_literal.calls (k : Nat) {b : Nat} {w0 W : World} {R : Frag} {Fs : List Frag} {p0 : (List Int)} {p1 : Int} {p2 : Int} {p3 : Int} {p4 : S52} {v0 : Value} {r0q : (List Int)} (hp0 : Rds (kInt .u8) b w0 R v0 p0) (hg1 : Rds (kInt .u8) b w0 [] (.slice (some ⟨1, 0, none⟩) 257 257) G1) (H : hpack_literal.f k p0 p1 p2 p3 p4 = some r0q) (hS : St b w0 W R (Fs)) :
    Calls Tryd.prog 43 ([v0, .int .i64 p1, .int .u8 p2, .int .i64 p3, .agg #[.string (mkS p4.f0), .string (mkS p4.f1), .bool p4.f2]] : List Value).toArray W (fun e W' => ∃ (u0q : Value) (N0q : Frag), e = .returned (u0q) ∧ Row (kInt .u8) 5 b w0 R u0q r0q N0q ∧ St b w0 W' R (N0q :: Fs)) := by
  obtain ⟨A0, c0, rfl⟩ := hp0.form
  unfold hpack_literal.f at H
  refine calls_enter Tryd.func43 rfl 27 rfl (by kernel_rfl) (fun a h => ?_)
  refine wp_seq ?_
  refine WL.start ?_
  refine WL.op' (m := 0) h rfl rfl ?_
  refine owp_new (fun g_ => .pointer (some ⟨g_, 0, none⟩)) (.cells ([.string (mkS p4.f0), .string (mkS p4.f1), .bool p4.f2] : List Value).toArray 52 (0, 0)) h rfl (by kernel_rfl) (by kernel_rfl) hS (fun a102q W104q g105q h103q hS106q => ?_)
  refine WL.block (c := 1) (m' := 2) h103q rfl [(10, .slice none 0 0)] (by kernel_rfl) (fun a107q h108q => ?_)
  clear h103q a102q
  refine WL.done (by kernel_rfl) ?_
  refine wp_seq ?_
  refine WL.start ?_
  refine WL.block (c := 5) (m' := 5) h108q rfl [(15, .int .u32 (IntKind.u32.wrap p3)), (14, .int .i64 p3), (13, .int .u8 p2), (12, .int .i64 p1), (11, .slice A0 p0.length c0)] (by kernel_rfl) (fun a109q h110q => ?_)
  clear h108q a107q
  obtain ⟨r112q, A111q, H⟩ := bind1 H
  refine WL.op' (m := 5) h110q rfl rfl ?_
  refine owp_call [.slice A0 p0.length c0, .int .i64 p1, .int .u8 p2, .int .u32 (IntKind.u32.wrap p3)] h110q rfl (by kernel_rfl) rfl Tryd.func27 (by kernel_rfl) rfl (by kernel_rfl) (prefix_Put.calls k hp0 A111q hS106q) (fun e114q W113q hp115q => ?_)
  obtain ⟨v118q, M119q, rfl, hr120q, hS121q⟩ := hp115q
  refine ⟨_, rfl, fun a116q h117q => ?_⟩
  clear h110q a109q
  obtain ⟨A122q, c123q, rfl⟩ := hr120q.form
  refine WL.block (c := 1) (m' := 7) h117q rfl [(0, .slice A122q r112q.length c123q)] (by kernel_rfl) (fun a124q h125q => ?_)
  clear h117q a116q
  refine WL.done (by kernel_rfl) ?_
  refine wp_seq ?_
  refine wp_seq ?_
  refine WL.start ?_
  refine WL.block (c := 2) (m' := 2) h125q rfl [(18, .bool (decide (p3 = 0))), (17, .int .i64 p3)] (by kernel_rfl) (fun a126q h127q => ?_)
  clear h125q a124q
  refine WL.done (by kernel_rfl) ?_
  by_cases c128q : p3 = 0
  · rw [if_pos c128q] at H
    have hb_ : (decide (p3 = 0)) = true := decide_eq_true c128q
    try rw [hb_] at h127q
    clear hb_
    refine wp_then h127q rfl ?_
    refine WL.start ?_
    refine WL.block (c := 2) (m' := 2) h127q rfl [(20, .pointer (some ⟨g105q, 0, none⟩)), (19, .slice A122q r112q.length c123q)] (by kernel_rfl) (fun a129q h130q => ?_)
    clear h127q a126q
    have hS131q : St b w0 W113q R ([(g105q, .cells ([.string (mkS p4.f0), .string (mkS p4.f1), .bool p4.f2] : List Value).toArray 52 (0, 0))] :: M119q :: Fs) := hS121q.bring 1 rfl rfl
    refine WL.op' (m := 2) h130q rfl rfl ?_
    refine owp_run (v := .string (mkS p4.f0)) h130q rfl (by kernel_rfl) (run_load1 rfl rfl Tryd.underlying9 rfl (hS131q.cell (i := 0) rfl)) (fun a132q h133q => ?_)
    clear h130q a129q
    have hS134q : St b w0 W113q R (M119q :: [(g105q, .cells ([.string (mkS p4.f0), .string (mkS p4.f1), .bool p4.f2] : List Value).toArray 52 (0, 0))] :: Fs) := hS131q.bring 1 rfl rfl
    obtain ⟨r136q, A135q, H⟩ := bind1 H
    refine WL.op' (m := 3) h133q rfl rfl ?_
    refine owp_call [.slice A122q r112q.length c123q, .string (mkS p4.f0)] h133q rfl (by kernel_rfl) rfl Tryd.func56 (by kernel_rfl) rfl (by kernel_rfl) (hpack_text.calls k hr120q.rds hg1 A135q (hS134q.pool)) (fun e138q W137q hp139q => ?_)
    obtain ⟨v142q, M143q, rfl, hr144q, hS145q⟩ := hp139q
    have hS146q : St b w0 W137q R (M119q :: M143q :: [(g105q, .cells ([.string (mkS p4.f0), .string (mkS p4.f1), .bool p4.f2] : List Value).toArray 52 (0, 0))] :: Fs) := hS145q.unpool
    replace hr144q : Row (kInt .u8) 5 b w0 R v142q r136q M143q := hr144q.ind (kInt_ind _)
    refine ⟨_, rfl, fun a140q h141q => ?_⟩
    clear h133q a132q
    obtain ⟨A147q, c148q, rfl⟩ := hr144q.form
    refine WL.block (c := 1) (m' := 5) h141q rfl [(0, .slice A147q r136q.length c148q)] (by kernel_rfl) (fun a149q h150q => ?_)
    clear h141q a140q
    refine WL.done (by kernel_rfl) ?_
    refine wp_seq ?_
    refine WL.start ?_
    refine WL.block (c := 2) (m' := 2) h150q rfl [(24, .pointer (some ⟨g105q, 1, none⟩)), (23, .slice A147q r136q.length c148q)] (by kernel_rfl) (fun a151q h152q => ?_)
    clear h150q a149q
    have hS153q : St b w0 W137q R ([(g105q, .cells ([.string (mkS p4.f0), .string (mkS p4.f1), .bool p4.f2] : List Value).toArray 52 (0, 0))] :: M119q :: M143q :: Fs) := hS146q.bring 2 rfl rfl
    refine WL.op' (m := 2) h152q rfl rfl ?_
    refine owp_run (v := .string (mkS p4.f1)) h152q rfl (by kernel_rfl) (run_load1 rfl rfl Tryd.underlying9 rfl (hS153q.cell (i := 1) rfl)) (fun a154q h155q => ?_)
    clear h152q a151q
    have hS156q : St b w0 W137q R (M143q :: [(g105q, .cells ([.string (mkS p4.f0), .string (mkS p4.f1), .bool p4.f2] : List Value).toArray 52 (0, 0))] :: M119q :: Fs) := hS153q.bring 2 rfl rfl
    obtain ⟨r158q, A157q, H⟩ := bind1 H
    refine WL.op' (m := 3) h155q rfl rfl ?_
    refine owp_call [.slice A147q r136q.length c148q, .string (mkS p4.f1)] h155q rfl (by kernel_rfl) rfl Tryd.func56 (by kernel_rfl) rfl (by kernel_rfl) (hpack_text.calls k hr144q.rds hg1 A157q (hS156q.pool)) (fun e160q W159q hp161q => ?_)
    obtain ⟨v164q, M165q, rfl, hr166q, hS167q⟩ := hp161q
    have hS168q : St b w0 W159q R (M143q :: M165q :: [(g105q, .cells ([.string (mkS p4.f0), .string (mkS p4.f1), .bool p4.f2] : List Value).toArray 52 (0, 0))] :: M119q :: Fs) := hS167q.unpool
    replace hr166q : Row (kInt .u8) 5 b w0 R v164q r158q M165q := hr166q.ind (kInt_ind _)
    refine ⟨_, rfl, fun a162q h163q => ?_⟩
    clear h155q a154q
    obtain ⟨A169q, c170q, rfl⟩ := hr166q.form
    refine WL.block (c := 1) (m' := 5) h163q rfl [(10, .slice A169q r158q.length c170q)] (by kernel_rfl) (fun a171q h172q => ?_)
    clear h163q a162q
    refine WL.done (by kernel_rfl) ?_
    refine wp_ret ?_
    have hS173q : St b w0 W159q R (M165q :: [(g105q, .cells ([.string (mkS p4.f0), .string (mkS p4.f1), .bool p4.f2] : List Value).toArray 52 (0, 0))] :: M119q :: Fs) := hS168q.drop_
    have hS174q : St b w0 W159q R ([(g105q, .cells ([.string (mkS p4.f0), .string (mkS p4.f1), .bool p4.f2] : List Value).toArray 52 (0, 0))] :: M165q :: M119q :: Fs) := hS173q.bring 1 rfl rfl
    have hS175q : St b w0 W159q R (M165q :: M119q :: Fs) := hS174q.drop_
    have hS176q : St b w0 W159q R (M119q :: M165q :: Fs) := hS175q.bring 1 rfl rfl
    have hS177q : St b w0 W159q R (M165q :: Fs) := hS176q.drop_
    obtain rfl := Option.some.inj H
    repeat (first | refine then_ret ?_ | refine inBlock_ret ?_ | refine inBlock_go ?_)
    refine body_ret (v := .slice A169q r158q.length c170q) h172q (by kernel_rfl) (by kernel_rfl) ?_
    exact ⟨.slice A169q r158q.length c170q, M165q, rfl, hr166q, hS177q⟩
  · rw [if_neg c128q] at H
    have hb_ : (decide (p3 = 0)) = false := decide_eq_false c128q
    try rw [hb_] at h127q
    clear hb_
    refine wp_else h127q rfl ?_
    refine wp_skip ?_
    refine wp_seq ?_
    refine WL.start ?_
    refine WL.block (c := 2) (m' := 2) h127q rfl [(24, .pointer (some ⟨g105q, 1, none⟩)), (23, .slice A122q r112q.length c123q)] (by kernel_rfl) (fun a178q h179q => ?_)
    clear h127q a126q
    have hS180q : St b w0 W113q R ([(g105q, .cells ([.string (mkS p4.f0), .string (mkS p4.f1), .bool p4.f2] : List Value).toArray 52 (0, 0))] :: M119q :: Fs) := hS121q.bring 1 rfl rfl
    refine WL.op' (m := 2) h179q rfl rfl ?_
    refine owp_run (v := .string (mkS p4.f1)) h179q rfl (by kernel_rfl) (run_load1 rfl rfl Tryd.underlying9 rfl (hS180q.cell (i := 1) rfl)) (fun a181q h182q => ?_)
    clear h179q a178q
    have hS183q : St b w0 W113q R (M119q :: [(g105q, .cells ([.string (mkS p4.f0), .string (mkS p4.f1), .bool p4.f2] : List Value).toArray 52 (0, 0))] :: Fs) := hS180q.bring 1 rfl rfl
    obtain ⟨r185q, A184q, H⟩ := bind1 H
    refine WL.op' (m := 3) h182q rfl rfl ?_
    refine owp_call [.slice A122q r112q.length c123q, .string (mkS p4.f1)] h182q rfl (by kernel_rfl) rfl Tryd.func56 (by kernel_rfl) rfl (by kernel_rfl) (hpack_text.calls k hr120q.rds hg1 A184q (hS183q.pool)) (fun e187q W186q hp188q => ?_)
    obtain ⟨v191q, M192q, rfl, hr193q, hS194q⟩ := hp188q
    have hS195q : St b w0 W186q R (M119q :: M192q :: [(g105q, .cells ([.string (mkS p4.f0), .string (mkS p4.f1), .bool p4.f2] : List Value).toArray 52 (0, 0))] :: Fs) := hS194q.unpool
    replace hr193q : Row (kInt .u8) 5 b w0 R v191q r185q M192q := hr193q.ind (kInt_ind _)
    refine ⟨_, rfl, fun a189q h190q => ?_⟩
    clear h182q a181q
    obtain ⟨A196q, c197q, rfl⟩ := hr193q.form
    refine WL.block (c := 1) (m' := 5) h190q rfl [(10, .slice A196q r185q.length c197q)] (by kernel_rfl) (fun a198q h199q => ?_)
    clear h190q a189q
    refine WL.done (by kernel_rfl) ?_
    refine wp_ret ?_
    have hS200q : St b w0 W186q R (M192q :: [(g105q, .cells ([.string (mkS p4.f0), .string (mkS p4.f1), .bool p4.f2] : List Value).toArray 52 (0, 0))] :: Fs) := hS195q.drop_
    have hS201q : St b w0 W186q R ([(g105q, .cells ([.string (mkS p4.f0), .string (mkS p4.f1), .bool p4.f2] : List Value).toArray 52 (0, 0))] :: M192q :: Fs) := hS200q.bring 1 rfl rfl
    have hS202q : St b w0 W186q R (M192q :: Fs) := hS201q.drop_
    obtain rfl := Option.some.inj H
    repeat (first | refine then_ret ?_ | refine inBlock_ret ?_ | refine inBlock_go ?_)
    refine body_ret (v := .slice A196q r185q.length c197q) h199q (by kernel_rfl) (by kernel_rfl) ?_
    exact ⟨.slice A196q r185q.length c197q, M192q, rfl, hr193q, hS202q⟩

/-! ### louver/dyntable.Size -/
def dyntable_Size.f (p0 : S52) : Option (Int) := some (IntKind.i64.wrap ((IntKind.i64.wrap ((p0.f0.length : Int) + (p0.f1.length : Int))) + 32))
set_option maxHeartbeats 2000000 in
set_option maxRecDepth 100000 in
theorem dyntable_Size.calls {b : Nat} {w0 W : World} {R : Frag} {Fs : List Frag} {p0 : S52}  {r0q : Int}  (H : dyntable_Size.f p0 = some r0q) (hS : St b w0 W R (Fs)) :
    Calls Tryd.prog 26 ([.agg #[.string (mkS p0.f0), .string (mkS p0.f1), .bool p0.f2]] : List Value).toArray W (fun e W' => e = .returned (.int .i64 r0q) ∧ St b w0 W' R (Fs)) := by
  unfold dyntable_Size.f at H
  refine calls_enter Tryd.func26 rfl 11 rfl (by kernel_rfl) (fun a h => ?_)
  refine wp_seq ?_
  refine WL.start ?_
  refine WL.op' (m := 0) h rfl rfl ?_
  refine owp_new (fun g_ => .pointer (some ⟨g_, 0, none⟩)) (.cells ([.string (mkS p0.f0), .string (mkS p0.f1), .bool p0.f2] : List Value).toArray 52 (0, 0)) h rfl (by kernel_rfl) (by kernel_rfl) hS (fun a19q W21q g22q h20q hS23q => ?_)
  refine WL.block (c := 1) (m' := 2) h20q rfl [(2, .int .i64 0)] (by kernel_rfl) (fun a24q h25q => ?_)
  clear h20q a19q
  refine WL.done (by kernel_rfl) ?_
  refine wp_seq ?_
  refine WL.start ?_
  refine WL.block (c := 1) (m' := 1) h25q rfl [(3, .pointer (some ⟨g22q, 0, none⟩))] (by kernel_rfl) (fun a26q h27q => ?_)
  clear h25q a24q
  refine WL.op' (m := 1) h27q rfl rfl ?_
  refine owp_run (v := .string (mkS p0.f0)) h27q rfl (by kernel_rfl) (run_load1 rfl rfl Tryd.underlying9 rfl (hS23q.cell (i := 0) rfl)) (fun a28q h29q => ?_)
  clear h27q a26q
  refine WL.block (c := 2) (m' := 4) h29q rfl [(6, .pointer (some ⟨g22q, 1, none⟩)), (5, .int .i64 (p0.f0.length : Int))] (by kernel_rfl) (fun a30q h31q => ?_)
  clear h29q a28q
  refine WL.op' (m := 4) h31q rfl rfl ?_
  refine owp_run (v := .string (mkS p0.f1)) h31q rfl (by kernel_rfl) (run_load1 rfl rfl Tryd.underlying9 rfl (hS23q.cell (i := 1) rfl)) (fun a32q h33q => ?_)
  clear h31q a30q
  refine WL.block (c := 4) (m' := 9) h33q rfl [(2, .int .i64 (IntKind.i64.wrap ((IntKind.i64.wrap ((p0.f0.length : Int) + (p0.f1.length : Int))) + 32))), (10, .int .i64 (IntKind.i64.wrap ((IntKind.i64.wrap ((p0.f0.length : Int) + (p0.f1.length : Int))) + 32))), (9, .int .i64 (IntKind.i64.wrap ((p0.f0.length : Int) + (p0.f1.length : Int)))), (8, .int .i64 (p0.f1.length : Int))] (by kernel_rfl) (fun a34q h35q => ?_)
  clear h33q a32q
  refine WL.done (by kernel_rfl) ?_
  refine wp_ret ?_
  have hS36q : St b w0 W21q R (Fs) := hS23q.drop_
  obtain rfl := Option.some.inj H
  repeat (first | refine then_ret ?_ | refine inBlock_ret ?_ | refine inBlock_go ?_)
  refine body_ret (v := .int .i64 (IntKind.i64.wrap ((IntKind.i64.wrap ((p0.f0.length : Int) + (p0.f1.length : Int))) + 32))) h35q (by kernel_rfl) (by kernel_rfl) ?_
  exact ⟨rfl, hS36q⟩

/-! ### slices.Delete[[]louver/api.Field,louver/api.Field] -/
def api_Field.f (p0 : (List S52)) (p1 : Int) (p2 : Int) : Option ((List S52)) := if 0 ≤ p1 then (if p1 ≤ p2 then (if p2 ≤ (p0.length : Int) then (if p1 = p2 then (some p0) else (some (p0.take p1.toNat ++ p0.drop p2.toNat))) else (none)) else (none)) else (none)
set_option maxHeartbeats 2000000 in
set_option maxRecDepth 100000 in
theorem api_Field.calls {b : Nat} {w0 W : World} {R : Frag} {Fs : List Frag} {p0 : (List S52)} {p1 : Int} {p2 : Int} {v0 : Value} {M0 : Frag} {r0q : (List S52)} (hp0 : Row k52 52 b w0 R v0 p0 M0) (H : api_Field.f p0 p1 p2 = some r0q) (hS : St b w0 W R (M0 :: Fs)) :
    Calls Tryd.prog 49 ([v0, .int .i64 p1, .int .i64 p2] : List Value).toArray W (fun e W' => ∃ (u0q : Value) (N0q : Frag), e = .returned (u0q) ∧ Row k52 52 b w0 R u0q r0q N0q ∧ St b w0 W' R (N0q :: Fs)) := by
  obtain ⟨A0, c0, rfl⟩ := hp0.form
  unfold api_Field.f at H
  refine calls_enter Tryd.func49 rfl 33 rfl (by kernel_rfl) (fun a h => ?_)
  refine wp_seq ?_
  refine WL.start ?_
  refine WL.block (c := 1) (m' := 1) h rfl [(6, .slice none 0 0)] (by kernel_rfl) (fun a70q h71q => ?_)
  refine WL.done (by kernel_rfl) ?_
  refine wp_seq ?_
  refine WL.start ?_
  refine WL.block (c := 5) (m' := 5) h71q rfl [(12, .int .i64 (p0.length : Int)), (11, .slice A0 p0.length c0), (10, .int .i64 p2), (9, .int .i64 p1), (8, .slice A0 p0.length c0)] (by kernel_rfl) (fun a72q h73q => ?_)
  clear h71q a70q
  by_cases c74q : 0 ≤ p1
  · rw [if_pos c74q] at H
    by_cases c75q : p1 ≤ p2
    · rw [if_pos c75q] at H
      by_cases c76q : p2 ≤ (p0.length : Int)
      · rw [if_pos c76q] at H
        have s_cap := Rds.cap hp0.rds
        refine WL.op' (m := 5) h73q rfl rfl ?_
        refine owp_run (v := sliced A0 p1.toNat p2.toNat (p0.length : Int).toNat 3) h73q rfl (by kernel_rfl) (run_cut3 (l := p1) (h := p2) (m := (p0.length : Int)) rfl rfl Tryd.underlying23 (by kernel_rfl) rfl rfl rfl (by first | assumption | omega) (by first | assumption | omega) (by first | assumption | omega) (by have q_ := s_cap; omega) (by have q_ := s_cap; omega)) (fun a77q h78q => ?_)
        clear h73q a72q
        refine WL.done (by kernel_rfl) ?_
        refine wp_seq ?_
        refine wp_seq ?_
        refine WL.start ?_
        refine WL.block (c := 3) (m' := 3) h78q rfl [(16, .bool (decide (p1 = p2))), (15, .int .i64 p2), (14, .int .i64 p1)] (by kernel_rfl) (fun a79q h80q => ?_)
        clear h78q a77q
        refine WL.done (by kernel_rfl) ?_
        by_cases c81q : p1 = p2
        · rw [if_pos c81q] at H
          have hb_ : (decide (p1 = p2)) = true := decide_eq_true c81q
          try rw [hb_] at h80q
          clear hb_
          refine wp_then h80q rfl ?_
          refine wp_seq ?_
          refine WL.start ?_
          refine WL.block (c := 2) (m' := 2) h80q rfl [(6, .slice A0 p0.length c0), (17, .slice A0 p0.length c0)] (by kernel_rfl) (fun a82q h83q => ?_)
          clear h80q a79q
          refine WL.done (by kernel_rfl) ?_
          refine wp_ret ?_
          obtain rfl := Option.some.inj H
          repeat (first | refine then_ret ?_ | refine inBlock_ret ?_ | refine inBlock_go ?_)
          refine body_ret (v := .slice A0 p0.length c0) h83q (by kernel_rfl) (by kernel_rfl) ?_
          exact ⟨.slice A0 p0.length c0, M0, rfl, hp0, hS⟩
        · rw [if_neg c81q] at H
          have hb_ : (decide (p1 = p2)) = false := decide_eq_false c81q
          try rw [hb_] at h80q
          clear hb_
          refine wp_else h80q rfl ?_
          refine wp_skip ?_
          refine wp_seq ?_
          refine WL.start ?_
          refine WL.block (c := 3) (m' := 3) h80q rfl [(7, .int .i64 (p0.length : Int)), (19, .int .i64 (p0.length : Int)), (18, .slice A0 p0.length c0)] (by kernel_rfl) (fun a84q h85q => ?_)
          clear h80q a79q
          refine WL.done (by kernel_rfl) ?_
          refine wp_seq ?_
          refine WT.start 8 (fun w_ => True) (by kernel_rfl) #[false, false, false, false, false, false, false, false] 8 rfl rfl ?_
          have hS106q := hS.drew
          refine WT.take 0 (listed' := #[true, false, false, false, false, false, false, false]) h85q rfl rfl (by kernel_rfl) rfl rfl (.slice A0 p0.length c0) (fun _ _ => by kernel_rfl) trivial (fun _ _ _ h_ => h_) (fun a107q h108q => ?_)
          clear h85q a84q
          refine WT.take 1 (listed' := #[true, true, false, false, false, false, false, false]) h108q rfl rfl (by kernel_rfl) rfl rfl (.int .i64 p1) (fun _ _ => by kernel_rfl) trivial (fun _ _ _ h_ => h_) (fun a109q h110q => ?_)
          clear h108q a107q
          refine WT.take 3 (listed' := #[true, true, false, true, false, false, false, false]) h110q rfl rfl (by kernel_rfl) rfl rfl (.slice A0 p0.length c0) (fun _ _ => by kernel_rfl) trivial (fun _ _ _ h_ => h_) (fun a111q h112q => ?_)
          clear h110q a109q
          refine WT.take 4 (listed' := #[true, true, false, true, true, false, false, false]) h112q rfl rfl (by kernel_rfl) rfl rfl (.int .i64 p2) (fun _ _ => by kernel_rfl) trivial (fun _ _ _ h_ => h_) (fun a113q h114q => ?_)
          clear h112q a111q
          refine WT.take 2 (listed' := #[true, true, true, true, true, false, false, false]) h114q rfl rfl (by kernel_rfl) rfl rfl (sliced A0 0 p1.toNat c0 3) (fun w_ hs_ => (run_cut (l := 0) (h := p1) rfl rfl Tryd.underlying23 (by kernel_rfl) rfl ⟨_, rfl⟩ (by omega) (by omega) (by have q_ := s_cap; omega) (by have q_ := s_cap; omega))) trivial (fun _ _ _ h_ => h_) (fun a115q h116q => ?_)
          clear h114q a113q
          refine WT.take 5 (listed' := #[true, true, true, true, true, true, false, false]) h116q rfl rfl (by kernel_rfl) rfl rfl (sliced A0 p2.toNat p0.length c0 3) (fun w_ hs_ => (run_cut (l := p2) (h := ((p0.length : Nat) : Int)) rfl rfl Tryd.underlying23 (by kernel_rfl) ⟨_, rfl⟩ rfl (by omega) (by omega) (by have q_ := s_cap; omega) (by have q_ := s_cap; omega))) trivial (fun _ _ _ h_ => h_) (fun a117q h118q => ?_)
          clear h116q a115q
          refine WT.op 6 (listed' := #[true, true, true, true, true, true, true, false]) h118q rfl (by kernel_rfl) rfl rfl ?_
          refine owp_del (i := p1.toNat) (j := p2.toNat) (len := p0.length) h118q rfl (by kernel_rfl) rfl rfl rfl hp0 hS106q Tryd.underlying23 (by kernel_rfl) rfl (by omega) (by omega) (fun a119q W121q M122q h120q hr123q hS124q => ?_)
          clear h118q a117q
          have s_len : (p0.take p1.toNat ++ p0.drop p2.toNat).length = p1.toNat + (p0.length - p2.toNat) := by simp; omega
          refine ⟨.inr trivial, ?_⟩
          refine WT.take 7 (listed' := #[true, true, true, true, true, true, true, true]) h120q rfl rfl (by kernel_rfl) rfl rfl (.slice A0 (p1.toNat + (p0.length - p2.toNat)) c0) (fun _ _ => by kernel_rfl) trivial (fun _ _ _ h_ => h_) (fun a125q h126q => ?_)
          clear h120q a119q
          refine WT.done (by kernel_rfl) ?_
          refine wp_seq ?_
          refine WL.start ?_
          refine WL.block (c := 4) (m' := 4) h126q rfl [(30, .int .i64 (p0.length : Int)), (29, .int .i64 (((p1.toNat + (p0.length - p2.toNat)) : Nat) : Int)), (28, .slice A0 (p1.toNat + (p0.length - p2.toNat)) c0), (27, .slice A0 (p1.toNat + (p0.length - p2.toNat)) c0)] (by kernel_rfl) (fun a127q h128q => ?_)
          clear h126q a125q
          refine WL.op' (m := 4) h128q rfl rfl ?_
          refine owp_run (v := sliced A0 (p1.toNat + (p0.length - p2.toNat)) p0.length c0 3) h128q rfl (by kernel_rfl) (run_cut (l := (((p1.toNat + (p0.length - p2.toNat)) : Nat) : Int)) (h := (p0.length : Int)) rfl rfl Tryd.underlying23 (by kernel_rfl) ⟨_, rfl⟩ ⟨_, rfl⟩ (by omega) (by omega) (by have q_ := s_cap; omega) (by have q_ := s_cap; omega)) (fun a129q h130q => ?_)
          clear h128q a127q
          refine WL.op' (m := 5) h130q rfl rfl ?_
          refine owp_deltail (z := .agg #[.string (mkS []), .string (mkS []), .bool false]) h130q rfl (by kernel_rfl) rfl rfl hr123q hS124q s_len Tryd.underlying23 (by kernel_rfl) rfl (by simp [Value.cells, Value.oneCell']) (fun a131q W133q M134q h132q hr135q hS136q => ?_)
          clear h130q a129q
          refine WL.done (by kernel_rfl) ?_
          refine wp_seq ?_
          refine WL.start ?_
          refine WL.block (c := 2) (m' := 2) h132q rfl [(6, .slice A0 (p1.toNat + (p0.length - p2.toNat)) c0), (32, .slice A0 (p1.toNat + (p0.length - p2.toNat)) c0)] (by kernel_rfl) (fun a137q h138q => ?_)
          clear h132q a131q
          refine WL.done (by kernel_rfl) ?_
          refine wp_ret ?_
          obtain rfl := Option.some.inj H
          repeat (first | refine then_ret ?_ | refine inBlock_ret ?_ | refine inBlock_go ?_)
          refine body_ret (v := .slice A0 (p1.toNat + (p0.length - p2.toNat)) c0) h138q (by kernel_rfl) (by kernel_rfl) ?_
          exact ⟨.slice A0 (p1.toNat + (p0.length - p2.toNat)) c0, M134q, rfl, hr135q, hS136q⟩
      · rw [if_neg c76q] at H
        cases H
    · rw [if_neg c75q] at H
      cases H
  · rw [if_neg c74q] at H
    cases H
end Go.Proofs.YtinebjcfgmoniaaDoor.Sl
