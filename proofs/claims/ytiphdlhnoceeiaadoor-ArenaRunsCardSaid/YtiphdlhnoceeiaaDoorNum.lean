/- num of the law's package. -/
import Derived.Test.YtiphdlhnoceeiaaDoorErr
namespace Go.Proofs.YtiphdlhnoceeiaaDoor
open Go Go.RowKit
set_option linter.unusedVariables false
set_option linter.unusedSimpArgs false

def NumPost (k : Int) (w : World) (e : Ending) (w' : World) : Prop := e = .returned (.int .i64 k) ∧ Keeps (fun _ => False) w w'
theorem num02_nil (w : World) : Calls Tryd.prog 34 #[.nilIface] w (NumPost 0 w) := by
  go_enter Tryd.func34, Tryd.ntmps34
  go_wp2_with fail
  go_ret
  exact ⟨rfl, (Keeps.refl _ _).alloc _⟩
theorem num02_err (k : Int) (w : World) (hg : ErrT w) : Calls Tryd.prog 34 #[errno k] w (NumPost k w) := by
  have hlt : 1 < w.heap.size := World.block_lt_of_cell? w _ hg
  have hg' : ErrT (w.alloc (.cells #[.int .i64 0] 92)) := hg.kept ((Keeps.refl (fun _ => False) _).alloc _) id
  have hit := Lib.hid (as_hit k ⟨w.heap.size, 0, none⟩ (.int .i64 0) (w.alloc (.cells #[.int .i64 0] 92)) hg' (by rw [(Blk.new w _ _).cell]; rfl) ((Blk.new w _ _).free 0))
  clear hg hg'
  unfold errno
  go_enter Tryd.func34, Tryd.ntmps34
  go_wp2_with (go_at_call 61; refine (hit.out).mono ?_; rintro e w' ⟨rfl, rfl⟩)
  go_ret
  refine ⟨rfl, ?_⟩
  repeat (first | exact Keeps.refl _ _ | refine Keeps.alloc ?_ _ | (refine Keeps.setCell ?_ _ _ (fun h => absurd h (by simp))))
theorem num02_val (k : Nat) (w : World) (hg : ErrT w) : Calls Tryd.prog 34 #[errVal k] w (NumPost k w) := by
  unfold errVal
  split
  · rename_i h; subst h; exact num02_nil w
  · exact num02_err k w hg
theorem num03_nil (w : World) : Calls Tryd.prog 43 #[.nilIface] w (NumPost 0 w) := by
  go_enter Tryd.func43, Tryd.ntmps43
  go_wp2_with fail
  go_ret
  exact ⟨rfl, (Keeps.refl _ _).alloc _⟩
theorem num03_err (k : Int) (w : World) (hg : ErrT w) : Calls Tryd.prog 43 #[errno k] w (NumPost k w) := by
  have hlt : 1 < w.heap.size := World.block_lt_of_cell? w _ hg
  have hg' : ErrT (w.alloc (.cells #[.int .i64 0] 92)) := hg.kept ((Keeps.refl (fun _ => False) _).alloc _) id
  have hit := Lib.hid (as_hit k ⟨w.heap.size, 0, none⟩ (.int .i64 0) (w.alloc (.cells #[.int .i64 0] 92)) hg' (by rw [(Blk.new w _ _).cell]; rfl) ((Blk.new w _ _).free 0))
  clear hg hg'
  unfold errno
  go_enter Tryd.func43, Tryd.ntmps43
  go_wp2_with (go_at_call 61; refine (hit.out).mono ?_; rintro e w' ⟨rfl, rfl⟩)
  go_ret
  refine ⟨rfl, ?_⟩
  repeat (first | exact Keeps.refl _ _ | refine Keeps.alloc ?_ _ | (refine Keeps.setCell ?_ _ _ (fun h => absurd h (by simp))))
theorem num03_val (k : Nat) (w : World) (hg : ErrT w) : Calls Tryd.prog 43 #[errVal k] w (NumPost k w) := by
  unfold errVal
  split
  · rename_i h; subst h; exact num03_nil w
  · exact num03_err k w hg
end Go.Proofs.YtiphdlhnoceeiaaDoor
