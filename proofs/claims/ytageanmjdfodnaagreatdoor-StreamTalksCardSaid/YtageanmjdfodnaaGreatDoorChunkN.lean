/- The reader of chunks: New, Feed, Body. -/
import Derived.Test.YtageanmjdfodnaaGreatDoorChunkF
namespace Go.Proofs.YtageanmjdfodnaaGreatDoor
open Go.RowKit Go.Cx Go.Maps

def most0 (most : Int) : Nat := (min (max most 0) 65535).toNat
def new0 (most : Int) : CS := ⟨most0 most, 0, 0, 0, [], 0⟩
theorem new0_inv (most : Int) : CInv (new0 most) := by
  have : most0 most ≤ 65535 := by unfold most0; omega
  exact ⟨by simp [new0], by simp [new0], by simp [new0], this, by simp [new0], by simp [new0], by simp [new0], by simp [new0], by simp [new0], by simp [new0]⟩

theorem chunk_new (most : Int) (w : World) :
    Calls Tryz.prog 87 #[.int .i64 most] w fun e w' => e = .returned (.pointer (some ⟨w.heap.size, 0, none⟩)) ∧ CR w' w.heap.size (.slice none 0 0) (new0 most) ∧ Upd (fun _ => False) w w' ∧ w'.heap.size = w.heap.size + 1 := by
  obtain ⟨m, hm⟩ : ∃ m, most0 most = m := ⟨_, rfl⟩
  have hm' : min (max most 0) 65535 = (m : Int) := by rw [← hm]; unfold most0; omega
  have HM := Lib.hid hm
  clear hm
  go_enter Tryz.func87, Tryz.ntmps87
  go_wp2
  go_ret
  refine ⟨rfl, ⟨?_, World.ownsRow_nil _ _ _ _⟩, (Upd.refl _ _).alloc _, by simp⟩
  show Blk _ _ _ #[.int .i64 (most0 most : Nat), .int .i64 0, .int .i64 0, .bool true, .int .i64 0, .slice none 0 0, .int .i64 0]
  rw [HM.out]
  exact Blk.new _ _ _

theorem chunk_feed (rb : Nat) (v : Value) (s : CS) (A : Option Addr) (n c : Nat) (l : List Nat) (w : World) (hs : CR w rb v s) (hi : CInv s)
    (hx : Rd w w.heap.size 1 A n (byts l)) (hb : ∀ b ∈ l, b < 256) (hap : ∀ ad, A = some ad → 0 < n → ¬ Foot rb v ad.block) (hn : n ≤ 140737488355328) :
    Calls Tryz.prog 88 #[.pointer (some ⟨rb, 0, none⟩), .slice A n c] w (AfterFeed rb v (feed s l) w) := by
  by_cases he : s.e = 0
  · have : feed s l = feedGo l s 0 := by unfold feed; rw [if_neg (by omega)]
    rw [this]
    exact chunk_feed_go rb v s A n c l w hs hi he hx hb hap hn
  · have hf : feed s l = ((0, false, s.e), s) := by unfold feed; rw [if_pos he]
    rw [hf]
    obtain ⟨e, hee⟩ : ∃ e, s.e = e := ⟨_, rfl⟩
    have hb : ((e : Int) != 0) = true := by simp; omega
    have hc := hs.1.cell
    have c3 := hc 3
    have c6 := hc 6
    simp only [List.getElem?_toArray, List.getElem?_cons_zero, List.getElem?_cons_succ] at c3 c6
    rw [hee] at c6
    have HS := Lib.hid hs
    have HE := Lib.hid hee
    clear hs hi hc he hx hap hf hee
    go_enter Tryz.func88, Tryz.ntmps88
    go_wp2
    refine wp_scope_straight ?_
    go_wp2
    go_quiet (fail)
    go_wp2
    refine bodyPost_ret (results_tmp3 rfl _ _ _) rfl ?_
    exact ⟨by rw [HE.out]; rfl, ⟨v, HS.out.upd ((Upd.refl (fun _ => False) w).drewN _) (by simp), Moved.refl _ _⟩, (Upd.refl _ _).drewN _⟩

theorem chunk_body (rb : Nat) (v : Value) (s : CS) (w : World) (hs : CR w rb v s) (hi : CInv s) :
    Calls Tryz.prog 89 #[.pointer (some ⟨rb, 0, none⟩)] w fun e w' => ∃ A n c, e = .returned (.slice A n c) ∧ n = s.body.length ∧ Rd w' w'.heap.size 1 A n (byts s.body) ∧ Upd (fun _ => False) w w' := by
  have hc := hs.1.cell
  have c5 := hc 5
  simp only [List.getElem?_toArray, List.getElem?_cons_zero, List.getElem?_cons_succ] at c5
  obtain ⟨A, cp, rfl⟩ := own_form hs.2
  have hr := Rd.own hs.2
  have hbm := hi.body
  have hmm := hi.most
  have HS := Lib.hid hs
  have HR := Lib.hid hr
  clear hs hr hc
  go_enter Tryz.func89, Tryz.ntmps89
  go_wp2_with fail
  refine (bytes_clone w w.heap.size A _ cp _ HR.out (Nat.le_refl _) (by omega)).mono ?_
  rintro e w' ⟨A', c', rfl, hr', _, _, hu⟩
  have HR' := Lib.hid hr'
  have HU := Lib.hid hu
  clear hr' hu
  go_wp2
  go_ret
  exact ⟨A', _, c', rfl, rfl, Rd.own HR'.out, HU.out⟩
end Go.Proofs.YtageanmjdfodnaaGreatDoor
