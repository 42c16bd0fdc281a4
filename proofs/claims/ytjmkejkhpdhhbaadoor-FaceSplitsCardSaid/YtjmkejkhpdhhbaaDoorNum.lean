/- num of the law's package. -/
import Derived.Test.YtjmkejkhpdhhbaaDoorErr
namespace Go.Proofs.YtjmkejkhpdhhbaaDoor
open Go Go.RowKit
set_option linter.unusedVariables false
set_option linter.unusedSimpArgs false

def NumPost (k : Int) (w : World) (e : Ending) (w' : World) : Prop := e = .returned (.int .i64 k) ∧ Keeps (fun _ => False) w w'
theorem num10_nil (w : World) : Calls Tryd.prog 19 #[.nilIface] w (NumPost 0 w) := by
  go_enter Tryd.func19, Tryd.ntmps19
  go_wp2_with fail
  go_ret
  exact ⟨rfl, (Keeps.refl _ _).alloc _⟩
theorem num10_err (k : Int) (w : World) (hg : ErrT w) : Calls Tryd.prog 19 #[errno k] w (NumPost k w) := by
  have hlt : 0 < w.heap.size := World.block_lt_of_cell? w _ hg
  have hg' : ErrT (w.alloc (.cells #[.int .i64 0] 86)) := hg.kept ((Keeps.refl (fun _ => False) _).alloc _) id
  have hit := Lib.hid (as_hit k ⟨w.heap.size, 0, none⟩ (.int .i64 0) (w.alloc (.cells #[.int .i64 0] 86)) hg' (by rw [(Blk.new w _ _).cell]; rfl) ((Blk.new w _ _).free 0))
  clear hg hg'
  unfold errno
  go_enter Tryd.func19, Tryd.ntmps19
  go_wp2_with (go_at_call 57; refine (hit.out).mono ?_; rintro e w' ⟨rfl, rfl⟩)
  go_ret
  refine ⟨rfl, ?_⟩
  repeat (first | exact Keeps.refl _ _ | refine Keeps.alloc ?_ _ | (refine Keeps.setCell ?_ _ _ (fun h => absurd h (by simp))))
theorem num10_val (k : Nat) (w : World) (hg : ErrT w) : Calls Tryd.prog 19 #[errVal k] w (NumPost k w) := by
  unfold errVal
  split
  · rename_i h; subst h; exact num10_nil w
  · exact num10_err k w hg
theorem num11_nil (w : World) : Calls Tryd.prog 41 #[.nilIface] w (NumPost 0 w) := by
  go_enter Tryd.func41, Tryd.ntmps41
  go_wp2_with fail
  go_ret
  exact ⟨rfl, (Keeps.refl _ _).alloc _⟩
theorem num11_err (k : Int) (w : World) (hg : ErrT w) : Calls Tryd.prog 41 #[errno k] w (NumPost k w) := by
  have hlt : 0 < w.heap.size := World.block_lt_of_cell? w _ hg
  have hg' : ErrT (w.alloc (.cells #[.int .i64 0] 86)) := hg.kept ((Keeps.refl (fun _ => False) _).alloc _) id
  have hit := Lib.hid (as_hit k ⟨w.heap.size, 0, none⟩ (.int .i64 0) (w.alloc (.cells #[.int .i64 0] 86)) hg' (by rw [(Blk.new w _ _).cell]; rfl) ((Blk.new w _ _).free 0))
  clear hg hg'
  unfold errno
  go_enter Tryd.func41, Tryd.ntmps41
  go_wp2_with (go_at_call 57; refine (hit.out).mono ?_; rintro e w' ⟨rfl, rfl⟩)
  go_ret
  refine ⟨rfl, ?_⟩
  repeat (first | exact Keeps.refl _ _ | refine Keeps.alloc ?_ _ | (refine Keeps.setCell ?_ _ _ (fun h => absurd h (by simp))))
theorem num11_val (k : Nat) (w : World) (hg : ErrT w) : Calls Tryd.prog 41 #[errVal k] w (NumPost k w) := by
  unfold errVal
  split
  · rename_i h; subst h; exact num11_nil w
  · exact num11_err k w hg
end Go.Proofs.YtjmkejkhpdhhbaaDoor
