/- The law RateNobody, as a walk: a table that no call made. -/
import Derived.Test.YtphnehfablaakaaRateDraws
import Derived.Test.YtphnehfablaakaaOpen
import Derived.Lib.SmallJoins
namespace Go.Proofs.Ytphnehfablaakaa
open Go.RowKit Go.Maps Go.Cx

/-- a table that no call made -/
def NoTab (w : World) (a : Option Addr) : Prop := a = none ∨ ∃ g, a = some ⟨g, 0, none⟩ ∧ w.cell? ⟨g, 0, none⟩ = some (.map none)

theorem nobody_none (a : Option Addr) (w : World) (h : NoTab w a) :
    Calls Try.prog 26 #[.pointer a] w fun e w' => e = .returned (.bool true) ∧ w = w' := by
  have hm := fun w r => run_eql_map_nil (P := Try.prog) w 47 3 29 r Try.underlying47
  rcases h with rfl | ⟨g, rfl, hc⟩
  · go_enter Try.func26, Try.ntmps26
    go_wp2
    go_ret
    exact ⟨rfl, rfl⟩
  · go_enter Try.func26, Try.ntmps26
    go_wp2
    go_ret
    exact ⟨rfl, rfl⟩
theorem nobody_of (a : Option Addr) (x : Int) (w : World) (h : NoTab w a) :
    Calls Try.prog 11 #[.pointer a, .int .i64 x] w fun e w' => e = .returned (.complex .f64 0 0) ∧ w = w' := by
  have H := Lib.hid h
  clear h
  go_enter Try.func11, Try.ntmps11
  go_wp2_with (go_at_call 26; refine (nobody_none a _ H.out).mono ?_; rintro e w' ⟨rfl, rfl⟩)
  go_ret
  exact ⟨rfl, rfl⟩
theorem nobody_failed (a : Option Addr) (x : Int) (w : World) (h : NoTab w a) :
    Calls Try.prog 12 #[.pointer a, .int .i64 x] w fun e w' => e = .returned (.int .i64 2) ∧ w = w' := by
  have H := Lib.hid h
  clear h
  go_enter Try.func12, Try.ntmps12
  go_wp2_with (go_at_call 26; refine (nobody_none a _ H.out).mono ?_; rintro e w' ⟨rfl, rfl⟩)
  go_ret
  exact ⟨rfl, rfl⟩
theorem nobody_answered (a : Option Addr) (x y : Int) (w : World) (h : NoTab w a) :
    Calls Try.prog 13 #[.pointer a, .int .i64 x, .int .i64 y] w fun e w' => e = .returned (.int .i64 2) ∧ w = w' := by
  have H := Lib.hid h
  clear h
  go_enter Try.func13, Try.ntmps13
  go_wp2_with (go_at_call 26; refine (nobody_none a _ H.out).mono ?_; rintro e w' ⟨rfl, rfl⟩)
  go_ret
  exact ⟨rfl, rfl⟩
theorem nobody_best (a A : Option Addr) (n c : Nat) (y : Int) (w : World) (h : NoTab w a) :
    Calls Try.prog 10 #[.pointer a, .slice A n c, .int .i64 y] w fun e w' => e = .returned (.tuple #[.int .i64 0, .bool false]) ∧ w = w' := by
  have H := Lib.hid h
  clear h
  go_enter Try.func10, Try.ntmps10
  go_wp2_with (go_at_call 26; refine (nobody_none a _ H.out).mono ?_; rintro e w' ⟨rfl, rfl⟩)
  go_ret2
  exact ⟨rfl, rfl⟩

set_option maxHeartbeats 1000000 in
theorem nobody (x y : Int) (w : World) (_hx : (Lit.int .i64 x).wf = true) (_hy : (Lit.int .i64 y).wf = true) :
    Calls Try.prog 6 #[.agg #[.int .i64 x, .int .i64 y]] w fun e w' => e = .returned (.bool true) ∧ Below w.heap.size w w' := by
  have h1 : ∀ w : World, NoTab w none := fun _ => .inl rfl
  clear _hx _hy
  go_enter Try.func6, Try.ntmps6
  go_wp2
  refine wp_loop_rounds 3 ?_
  rw [rounds_succ]
  go_wp2_with fail
  refine (nobody_best none _ _ _ _ _ (h1 _)).mono ?_; rintro e w1 ⟨rfl, rfl⟩
  go_wp2_with fail
  refine (nobody_answered none _ _ _ (h1 _)).mono ?_; rintro e w1 ⟨rfl, rfl⟩
  go_wp2_with fail
  refine (nobody_failed none _ _ (h1 _)).mono ?_; rintro e w1 ⟨rfl, rfl⟩
  go_wp2_with fail
  refine (nobody_of none _ _ (h1 _)).mono ?_; rintro e w1 ⟨rfl, rfl⟩
  go_wp2
  rw [rounds_succ]
  have h2 : ∀ W : World, W.cell? ⟨w.heap.size + 1, 0, none⟩ = some (.map none) → NoTab W (some ⟨w.heap.size + 1, 0, none⟩) := fun W h => .inr ⟨_, rfl, h⟩
  have H2 := Lib.hid h2
  clear h2
  go_wp2_with fail
  refine (nobody_best _ _ _ _ _ _ (H2.out _ (by simp [go_sem]))).mono ?_; rintro e w1 ⟨rfl, rfl⟩
  go_wp2_with fail
  refine (nobody_answered _ _ _ _ (H2.out _ (by simp [go_sem]))).mono ?_; rintro e w1 ⟨rfl, rfl⟩
  go_wp2_with fail
  refine (nobody_failed _ _ _ (H2.out _ (by simp [go_sem]))).mono ?_; rintro e w1 ⟨rfl, rfl⟩
  go_wp2_with fail
  refine (nobody_of _ _ _ (H2.out _ (by simp [go_sem]))).mono ?_; rintro e w1 ⟨rfl, rfl⟩
  go_wp2
  rw [rounds_succ]
  go_wp2_with fail
  obtain ⟨W5, hW5⟩ : ∃ W5 : World, W5 = ((((w.alloc (.cells #[.int .i64 x, .int .i64 y] 42)).alloc (.cells #[.map none] 49)).alloc (.cells #[.pointer none, .pointer (some ⟨w.heap.size + 1, 0, none⟩)] 23)).alloc
        (.cells #[.int .i64 x] 3)).alloc (.cells #[.int .i64 x] 3) := ⟨_, rfl⟩
  have hb5 : Below w.heap.size w W5 := by
    rw [hW5]
    exact (((((Below.refl _ _).alloc (Nat.le_refl _) _).alloc (by simp) _).alloc (by simp; omega) _).alloc (by simp; omega) _).alloc (by simp; omega) _
  have hs5 : W5.heap.size = w.heap.size + 1 + 1 + 1 + 1 + 1 := by rw [hW5]; simp
  rw [← hW5, ← hs5]
  clear hW5 hs5
  refine (draws _ 2 2 [1, 2] 3 _ ((Rd.lit W5 [.int .i64 1, .int .i64 2] _ 1 2 rfl).more (by simp)) (Nat.le_refl _) (by decide) (by simp [reachBytes]; decide) (by decide)).mono ?_
  rintro e w2 ⟨rfl, hb2⟩
  go_wp2
  go_ret
  exact ⟨rfl, (hb5.alloc hb5.size _).trans (hb2.mono (Nat.le_trans hb5.size (by simp)))⟩
end Go.Proofs.Ytphnehfablaakaa
