/- The types of this seat's program, as far as the walk looks at them. Written by gen_env.py off the translation. -/
import Derived.Test.YtepogieeaidnfaaEv
import Derived.Test.YtepogieeaidnfaaChecked
import Derived.KernelRfl
namespace Go.Proofs.Ytepogieeaidnfaa
def tyRows : List (Nat × TyI) := [
  (2, ⟨(.int .i64), 1, 8, some (.int .i64 0)⟩),
  (3, ⟨(.int .i64), 1, 8, some (.int .i64 0)⟩),
  (4, ⟨.bool, 1, 1, some (.bool false)⟩),
  (5, ⟨(.int .u8), 1, 1, some (.int .u8 0)⟩),
  (6, ⟨(.int .u8), 1, 1, some (.int .u8 0)⟩),
  (7, ⟨(.struct [(2, 0), (3, 1), (4, 2), (6, 3)]), 4, 24, some (.agg #[(.int .i64 0), (.int .i64 0), (.bool false), (.int .u8 0)])⟩),
  (8, ⟨(.struct [(2, 0), (3, 1), (4, 2), (6, 3)]), 4, 24, some (.agg #[(.int .i64 0), (.int .i64 0), (.bool false), (.int .u8 0)])⟩),
  (9, ⟨.string, 1, 16, some (.string .empty)⟩),
  (10, ⟨.string, 1, 16, some (.string .empty)⟩),
  (11, ⟨.string, 1, 16, some (.string .empty)⟩),
  (12, ⟨(.int .u64), 1, 8, some (.int .u64 0)⟩),
  (13, ⟨(.struct [(9, 0), (12, 1)]), 2, 24, some (.agg #[(.string .empty), (.int .u64 0)])⟩),
  (14, ⟨(.struct [(9, 0), (12, 1)]), 2, 24, some (.agg #[(.string .empty), (.int .u64 0)])⟩),
  (15, ⟨(.pointer 96), 1, 8, some (.pointer none)⟩),
  (16, ⟨(.pointer 99), 1, 8, some (.pointer none)⟩),
  (17, ⟨(.pointer 109), 1, 8, some (.pointer none)⟩),
  (18, ⟨(.struct [(17, 0)]), 1, 8, some (.agg #[(.pointer none)])⟩),
  (19, ⟨(.struct [(17, 0)]), 1, 8, some (.agg #[(.pointer none)])⟩),
  (20, ⟨.iface, 1, 16, some .nilIface⟩),
  (21, ⟨(.int .i32), 1, 4, some (.int .i32 0)⟩),
  (22, ⟨(.struct [(5, 0), (2, 1), (2, 2), (2, 3)]), 4, 32, some (.agg #[(.int .u8 0), (.int .i64 0), (.int .i64 0), (.int .i64 0)])⟩),
  (23, ⟨(.struct [(5, 0), (2, 1), (2, 2), (2, 3)]), 4, 32, some (.agg #[(.int .u8 0), (.int .i64 0), (.int .i64 0), (.int .i64 0)])⟩),
  (28, ⟨(.struct [(2, 0), (2, 1)]), 2, 16, some (.agg #[(.int .i64 0), (.int .i64 0)])⟩),
  (29, ⟨(.struct [(2, 0), (2, 1)]), 2, 16, some (.agg #[(.int .i64 0), (.int .i64 0)])⟩),
  (30, ⟨(.slice 29), 1, 24, some (.slice none 0 0)⟩),
  (31, ⟨(.slice 32), 1, 24, some (.slice none 0 0)⟩),
  (32, ⟨(.struct [(2, 0), (2, 1)]), 2, 16, some (.agg #[(.int .i64 0), (.int .i64 0)])⟩),
  (41, ⟨(.struct [(5, 0), (2, 1), (2, 2), (2, 3)]), 4, 32, some (.agg #[(.int .u8 0), (.int .i64 0), (.int .i64 0), (.int .i64 0)])⟩),
  (48, ⟨(.slice 23), 1, 24, some (.slice none 0 0)⟩),
  (49, ⟨(.slice 2), 1, 24, some (.slice none 0 0)⟩),
  (50, ⟨(.struct [(2, 0), (2, 1)]), 2, 16, some (.agg #[(.int .i64 0), (.int .i64 0)])⟩),
  (51, ⟨(.struct [(2, 0), (2, 1)]), 2, 16, some (.agg #[(.int .i64 0), (.int .i64 0)])⟩),
  (52, ⟨(.int .i64), 1, 8, some (.int .i64 0)⟩),
  (73, ⟨(.struct [(2, 0), (2, 1)]), 2, 16, some (.agg #[(.int .i64 0), (.int .i64 0)])⟩),
  (83, ⟨(.struct [(2, 0), (2, 1), (2, 2), (2, 3)]), 4, 32, some (.agg #[(.int .i64 0), (.int .i64 0), (.int .i64 0), (.int .i64 0)])⟩),
  (84, ⟨(.struct [(2, 0), (2, 1), (2, 2), (2, 3)]), 4, 32, some (.agg #[(.int .i64 0), (.int .i64 0), (.int .i64 0), (.int .i64 0)])⟩),
  (88, ⟨(.int .u64), 1, 8, some (.int .u64 0)⟩),
  (93, ⟨(.int .u64), 1, 8, some (.int .u64 0)⟩),
  (95, ⟨(.struct [(17, 0), (17, 1), (17, 2), (9, 3)]), 4, 40, some (.agg #[(.pointer none), (.pointer none), (.pointer none), (.string .empty)])⟩),
  (96, ⟨(.struct [(17, 0), (17, 1), (17, 2), (9, 3)]), 4, 40, some (.agg #[(.pointer none), (.pointer none), (.pointer none), (.string .empty)])⟩),
  (97, ⟨(.array 0 16), 0, 0, some (.agg #[])⟩),
  (98, ⟨(.struct [(97, 0)]), 0, 0, some (.agg #[])⟩),
  (99, ⟨(.struct [(97, 0)]), 0, 0, some (.agg #[])⟩),
  (101, ⟨(.int .u32), 1, 4, some (.int .u32 0)⟩),
  (102, ⟨(.int .u8), 1, 1, some (.int .u8 0)⟩),
  (103, ⟨(.int .u8), 1, 1, some (.int .u8 0)⟩),
  (105, ⟨(.pointer 5), 1, 8, some (.pointer none)⟩),
  (106, ⟨(.int .i32), 1, 4, some (.int .i32 0)⟩),
  (107, ⟨(.int .i32), 1, 4, some (.int .i32 0)⟩),
  (108, ⟨(.struct [(12, 0), (12, 1), (101, 2), (102, 3), (5, 4), (5, 5), (103, 6), (104, 7), (105, 8), (106, 9), (107, 10)]), 11, 48, some (.agg #[(.int .u64 0), (.int .u64 0), (.int .u32 0), (.int .u8 0), (.int .u8 0), (.int .u8 0), (.int .u8 0), .nilFunc, (.pointer none), (.int .i32 0), (.int .i32 0)])⟩),
  (109, ⟨(.struct [(12, 0), (12, 1), (101, 2), (102, 3), (5, 4), (5, 5), (103, 6), (104, 7), (105, 8), (106, 9), (107, 10)]), 11, 48, some (.agg #[(.int .u64 0), (.int .u64 0), (.int .u32 0), (.int .u8 0), (.int .u8 0), (.int .u8 0), (.int .u8 0), .nilFunc, (.pointer none), (.int .i32 0), (.int .i32 0)])⟩)]
theorem tyRows_ok : ∀ r ∈ tyRows, r.2.Good Try.prog r.1 := by
  unfold tyRows
  repeat' (first | exact List.forall_mem_nil _ | refine List.forall_mem_cons.2 ⟨⟨by kernel_rfl, by kernel_rfl⟩, ?_⟩)
def EV : Env Try.prog := ⟨tyLook tyRows, tyLook_ok tyRows_ok⟩
end Go.Proofs.Ytepogieeaidnfaa
