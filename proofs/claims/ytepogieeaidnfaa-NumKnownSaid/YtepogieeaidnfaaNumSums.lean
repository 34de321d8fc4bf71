import Derived.Test.YtepogieeaidnfaaRows
import Derived.Test.YtepogieeaidnfaaBase
import Derived.Test.YtepogieeaidnfaaNumTwo
import Derived.Test.YtepogieeaidnfaaAppend
import Derived.WalkSmall
/- The law NumSums: its walk. -/
namespace Go.Proofs.Ytepogieeaidnfaa.num
open Go.ChangeShapes Go.WideShapes Go.ChangeAt Go.RowKit

theorem info_i64 : (Try.prog.info? 2).map (fun i => (i.zero, i.size, i.bytes)) = some (some (.int .i64 0), 1, 8) := by kernel_rfl
theorem ints_one {k : IntKind} {zs : List Int} : ∀ u ∈ ints k zs, u.oneCell' = true := by
  intro u hu
  simp only [ints, List.mem_map] at hu
  obtain ⟨z, _, rfl⟩ := hu
  rfl
set_option maxHeartbeats 1000000 in
theorem numSums_any (A : Option Addr) (n c : Nat) (zs : List Int) (w : World) (hz : ∀ n ∈ zs, (Lit.int .i64 n).wf = true) (hr : Row w w.heap.size 1 A n (ints .i64 zs)) (_hn : n ≤ 9223372036854775807) :
    Calls Try.prog 10 #[.slice A n c] w (Yes w) := by
  by_cases h60 : 60 < n
  · go_enter Try.func10, Try.ntmps10
    go_wp2_with fail
    refine (works_any _).mono ?_
    rintro e w1 ⟨rfl, hb1⟩
    go_wp2_with fail
    go_ret
    exact ⟨rfl, hb1⟩
  · obtain ⟨i0, hi, hz0, hz1, hz2⟩ := info_parts info_i64
    have hl : Hid (zs.length = n) := keep (by have := hr.1; simpa [ints] using this)
    have HS := Lib.hid (fun (W : World) (A' : Option Addr) (c' : Nat) (h : Row W W.heap.size 1 A' n (ints .i64 zs)) => sum_any A' n c' zs W hz h (by omega))
    have HR := Lib.hid (fun (W : World) (A' : Option Addr) (c' : Nat) (h : Row W W.heap.size 1 A' n (ints .i64 zs)) => refSum_any A' n c' zs W hz h (by omega))
    go_enter Try.func10, Try.ntmps10
    go_wp2_with (at_builtin; refine wpList_append_row _ rfl (.tmp 13) (.tmp 14) 49 rfl w.heap.size 2 i0 (.int .i64 0) 1 8 Try.underlying49 hi hz0 hz1 hz2 rfl (by decide) (.slice none 0 0) 0 [] rfl (World.ownsRow_nil _ _ _ _) w.heap.size A n c (ints .i64 zs) rfl hr ints_one (by unfold maxLen; omega) (by omega) (Nat.le_refl _) ?_; intro v1 w1 hg1; simp only [Nat.zero_add, List.nil_append] at hg1; obtain ⟨A1, c1, hv1⟩ := own_shape hg1.own; subst hv1)
    have hb1 : Below w.heap.size w w1 := hg1.below (Nat.le_refl _) (by simp [Value.ownBlock])
    have hr1 : Row w1 w1.heap.size 1 A n (ints .i64 zs) := (hr.below hb1).wider hb1.size
    have ho1 : Row w1 w1.heap.size 1 A1 n (ints .i64 zs) := row_of_own hg1.own
    refine (HS.out _ _ _ hr1).mono ?_
    rintro e w2 ⟨rfl, hb2⟩
    have ho2 : Row w2 w2.heap.size 1 A1 n (ints .i64 zs) := (ho1.below hb2).wider hb2.size
    have hr2 : Row w2 w2.heap.size 1 A n (ints .i64 zs) := (hr1.below hb2).wider hb2.size
    go_wp2_with fail
    refine (HR.out _ _ _ ho2).mono ?_
    rintro e w3 ⟨rfl, hb3⟩
    have hr3 : Row w3 w3.heap.size 1 A n (ints .i64 zs) := (hr2.below hb3).wider hb3.size
    have ho3 : Row w3 w3.heap.size 1 A1 n (ints .i64 zs) := (ho2.below hb3).wider hb3.size
    have hb : Below w.heap.size w w3 := below2 (below2 hb1 hb2) hb3
    clear hb1 hb2 hb3 hr1 hr2 ho1 ho2
    go_wp2_with fail
    go_loopw [8] (fun i wr => ∃ k : Nat, k ≤ n ∧ i = .int .i64 k ∧ wr.heap = w3.heap ∧ Below w.heap.size w wr) (fun i _ => n - (intOf i).toNat)
    case atStart => exact ⟨0, by omega, rfl, rfl, hb⟩
    case round =>
      obtain ⟨k, hk, rfl, hh, hB⟩ := hrel
      by_cases hlt : k < n
      · obtain ⟨b, off, rfl, hbB, hcell⟩ := hr3.2 (by omega)
        obtain ⟨b', off', rfl, hbB', hcell'⟩ := ho3.2 (by omega)
        have hc : wr.cell? ⟨b, off + k, none⟩ = some (.int .i64 (zs.getD k 0)) := (World.cell?_of_block (w := w3) (by rw [hh])).trans (hcell k _ (ints_at (by rw [hl.out]; exact hlt)))
        have hc' : wr.cell? ⟨b', off' + k, none⟩ = some (.int .i64 (zs.getD k 0)) := (World.cell?_of_block (w := w3) (by rw [hh])).trans (hcell' k _ (ints_at (by rw [hl.out]; exact hlt)))
        replace hh := keep hh
        clear hcell hcell'
        have hk0 : (0 : Int) ≤ (k : Int) := by omega
        have hkn : (k : Int) < (n : Int) := by omega
        go_wp2_with fail
        go_quiet (fail)
        go_wp2_with fail
        go_roundw
        case rel => exact ⟨k + 1, by omega, by go_num, hh.out, below_drewN hB nq⟩
        case measure => simp [intOf]; omega
      · obtain rfl : k = n := by omega
        replace hh := keep hh
        go_wp2_with fail
        refine (works_any _).mono ?_
        rintro e w4 ⟨rfl, hb4⟩
        go_wp2_with fail
        go_ret
        exact ⟨rfl, hB.trans (hb4.mono hB.size)⟩
end Go.Proofs.Ytepogieeaidnfaa.num
