/- From a walk's contract to what a law's frame asks for. What the statements share: Pick, SameBytes, Own, Spoil. -/
import Derived.Test.YtmochicneilhhaaGreatPBv
import Derived.Test.YtmochicneilhhaaGreatPEnv
import Derived.Test.YtmochicneilhhaaGreatPEt
import Derived.Test.YtmochicneilhhaaGreatPFn
import Derived.Test.YtmochicneilhhaaGreatPGo
import Derived.Test.YtmochicneilhhaaGreatPPk
import Derived.Test.YtmochicneilhhaaGreatPSt
namespace Go.Proofs.YtmochicneilhhaaGreat
open Go.RowKit
theorem mem0 (W : World) : Mem ⟨W, []⟩ [] W := ⟨Keep.refl W [], by simp, by simp, .nil⟩
/-- what a law's frame asks for -/
theorem Fn.yes {P : Program} {f : FuncId} {args : List Value} {Lin : List Ck} (h : Fn P f args Lin [] fun v Lo => v = .bool true ∧ Lo = []) (W : World) (hm : Mem ⟨W, []⟩ Lin W) :
    Calls P f args.toArray W fun e W' => e = .returned (.bool true) ∧ Below W.heap.size W W' := (h.2 W hm).mono fun _ _ ⟨_, _, he, ⟨hv, _⟩, hm', _⟩ => ⟨by rw [he, hv], hm'.keep.below⟩
end Go.Proofs.YtmochicneilhhaaGreat
--SHORT 2
namespace Go.Proofs.YtmochicneilhhaaGreat.kit
open Go.RowKit
def pickN (i n : Int) : Nat := if n ≤ 0 then 0 else ((i.tmod n + n).tmod n).toNat
theorem pick_lt {i n : Int} (h : 0 < n) : (pickN i n : Int) < n := by
  rw [pickN, if_neg (by omega)]
  have h1 := Int.tmod_lt_of_pos (i.tmod n + n) h
  omega
theorem pick_zero {i n : Int} (h : n ≤ 0) : pickN i n = 0 := by rw [pickN, if_pos h]
theorem pick_eq {i n : Int} (h : 0 < n) : ((i.tmod n + n).tmod n) = (pickN i n : Int) := by
  rw [pickN, if_neg (by omega), Int.toNat_of_nonneg]
  refine Int.tmod_nonneg _ ?_
  have h1 : -n < i.tmod n := by
    have h2 := Int.tmod_lt_of_pos (-i) h
    rw [Int.neg_tmod] at h2
    omega
  omega
theorem tmod_bd {i n : Int} (h : 0 < n) : -n < i.tmod n ∧ i.tmod n < n := by
  have h1 := Int.tmod_lt_of_pos i h
  have h2 := Int.tmod_lt_of_pos (-i) h
  rw [Int.neg_tmod] at h2
  omega
theorem own_cap {M : Me} {L : List Ck} {w : World} {A : Option Addr} {m c : Nat} {T : TypeId} {sz : Nat} {xs : List Value} (k : Nat) (hm : Mem M L w) (hk : L[k]? = some (.own A m c T sz xs)) : m ≤ c ∧ c ≤ 9223372036854775807 := by
  have h : w.ownsRow 0 T sz (.slice A m c) m xs := hm.get hk
  rcases h.2 with ⟨hv, hm0⟩ | ⟨g, cap, cur, hv, _, _, hmc, hcm, _⟩
  · cases hv; omega
  · cases hv; exact ⟨hmc, hcm⟩
attribute [local irreducible] LX CX Yl Gives RetIs Fn















set_option maxHeartbeats 1000000 in
theorem same_fn (A A' : Option Addr) (n c n' c' : Nat) (l l' : List B8) (hl : l.length = n) (hl' : l'.length = n') (hn : n ≤ 9223372036854775807) (hn' : n' ≤ 9223372036854775807) :
    Fn Tryz.prog 15 [.slice A n c, .slice A' n' c'] [.ro A n 1 (bvs l), .ro A' n' 1 (bvs l')] [] fun v Lo => v = .bool (l == l') ∧ Lo = [] := by
  refine fn_enter Tryz.func15 rfl rfl (by kernel_rfl) rfl ?_
  intro w0
  repeat (first | refine wz ?_ | (refine wzb ?_; intro b_) | fail)
  refine cx_cond rfl (fun h => ?_) (fun h => ?_)
  · have h : n ≠ n' := by simp at h; omega
    have e : (l == l') = false := by
      rw [beq_eq_false_iff_ne]
      intro he
      rw [he] at hl
      omega
    rw [e]
    repeat (first | refine wz ?_ | (refine wzb ?_; intro b_) | fail)
    exact bq_ret (ret_tmp rfl rfl) [] (Gives.nil _) rfl ⟨rfl, rfl⟩
  obtain rfl : n = n' := by simp at h; omega
  repeat (first | refine wz ?_ | (refine wzb ?_; intro b_) | fail)
  refine cx_loop (α := { i : Nat // i ≤ n ∧ l.take i = l'.take i }) (fun x => [(0, none, .slice A n c), (1, none, .slice A' n c'), (5, none, .int .i64 x.1)]) (fun _ => [.ro A n 1 (bvs l), .ro A' n 1 (bvs l')]) (fun x => n - x.1) ⟨0, Nat.zero_le _, rfl⟩ ⟨rfl, rfl, rfl, trivial⟩ (Gives.refl _) ?_
  rintro ⟨i, hi, ht⟩
  dsimp only
  repeat (first | refine wz ?_ | (refine wzb ?_; intro b_) | fail)
  refine cx_cond rfl (fun h => ?_) (fun h => ?_)
  · have hlt : i < n := by simpa using h
    obtain ⟨x, hx⟩ : ∃ x, l[i]? = some x := ⟨_, List.getElem?_eq_getElem (by omega)⟩
    obtain ⟨y, hy⟩ : ∃ y, l'[i]? = some y := ⟨_, List.getElem?_eq_getElem (by omega)⟩
    have hx0 : (bvs l)[mulI i 1]? = some (bv x) := bvs_get hx
    have hy0 : (bvs l')[mulI i 1]? = some (bv y) := bvs_get hy
    repeat (first | refine wz ?_ | (refine wzb ?_; intro b_) | fail)
    refine cx_draw [] _ rfl (by kernel_rfl) (Gives.refl _) ?_
    repeat (first | ((first | (apply lx_u; exact rfl) | (apply lx_g; exact rfl; exact rfl)); first | (apply isy_indexAddr; exact yl_index (E := EV) 0 rfl rfl rfl rfl rfl (Shows.ro ..) (by first | exact fun _ => rfl | exact fun h => h | exact fun h => (Bool.and_eq_true_iff.1 h).1) (by first | exact fun _ => rfl | exact fun h => h | exact fun h => (Bool.and_eq_true_iff.1 h).1) (fun _ => by omega)) | (apply isy_indexAddr; exact yl_index (E := EV) 1 rfl rfl rfl rfl rfl (Shows.ro ..) (by first | exact fun _ => rfl | exact fun h => h | exact fun h => (Bool.and_eq_true_iff.1 h).1) (by first | exact fun _ => rfl | exact fun h => h | exact fun h => (Bool.and_eq_true_iff.1 h).1) (fun _ => by omega)) | (apply isy_load; exact yl_loadI (E := EV) 0 rfl rfl rfl (Shows.ro ..) rfl (fun _ => hx0) (by first | exact fun _ => rfl | exact fun h => h | exact fun h => (Bool.and_eq_true_iff.1 h).1)) | (apply isy_load; exact yl_loadI (E := EV) 1 rfl rfl rfl (Shows.ro ..) rfl (fun _ => hy0) (by first | exact fun _ => rfl | exact fun h => h | exact fun h => (Bool.and_eq_true_iff.1 h).1)) | (apply isy_bin_neq; exact yl_bne _ _ rfl rfl rfl rfl (by first | exact fun _ => rfl | exact fun h => h | exact fun h => (Bool.and_eq_true_iff.1 h).1) (by first | exact fun _ => rfl | exact fun h => h | exact fun h => (Bool.and_eq_true_iff.1 h).1)) | fail) | refine wz ?_ | (refine wzb ?_; intro b_) | fail)
    refine cx_cond rfl (fun h2 => ?_) (fun h2 => ?_)
    · have e : (l == l') = false := by
        rw [beq_eq_false_iff_ne]
        intro he
        rw [he, hy] at hx
        cases hx
        simp at h2
      rw [e]
      repeat (first | refine wz ?_ | (refine wzb ?_; intro b_) | fail)
      exact bq_ret (ret_tmp rfl rfl) [] (Gives.nil _) rfl ⟨rfl, rfl⟩
    · have hxy : x = y := by simpa using h2
      repeat (first | refine wz ?_ | (refine wzb ?_; intro b_) | fail)
      refine ⟨⟨i + 1, by omega, ?_⟩, ⟨rfl, rfl, slot_int (by dsimp only; omega), trivial⟩, Gives.refl _, by dsimp only; omega⟩
      rw [List.take_add_one, List.take_add_one, ht, hx, hy, hxy]
  · obtain rfl : i = n := by simp at h; omega
    have e : (l == l') = true := by
      rw [beq_iff_eq, ← List.take_of_length_le (l := l) (i := i) (by omega), ht, List.take_of_length_le (by omega)]
    rw [e]
    repeat (first | refine wz ?_ | (refine wzb ?_; intro b_) | fail)
    exact bq_ret (ret_tmp rfl rfl) [] (Gives.nil _) rfl ⟨rfl, rfl⟩


theorem own_fn (A : Option Addr) (n c : Nat) (l : List B8) (hn : n ≤ 140737488355328) : Fn Tryz.prog 9 [.slice A n c] [.ro A n 1 (bvs l)] [] fun v Lo => ∃ A' c', v = .slice A' n c' ∧ Lo = [.own A' n c' 5 1 (bvs l)] := by
  refine fn_enter Tryz.func9 rfl rfl (by kernel_rfl) rfl ?_
  intro w0
  repeat (first | refine wz ?_ | (refine wzb ?_; intro b_) | fail)
  refine lx_more (Gives.nilown _ 5 1) (Gives.tail _ _) ?_
  refine lx_append (E := EV) 0 rfl rfl rfl rfl rfl rfl rfl rfl rfl rfl rfl rfl rfl (news := bvs l) (fun w hm => row_ro 1 rfl hm) bvs_one (by unfold maxLen; omega) (by show (0 + n) * 1 ≤ _; omega) (fun _ _ _ => trivial) ?_
  intro A' c'
  repeat (first | refine wz ?_ | (refine wzb ?_; intro b_) | fail)
  exact bq_ret (ret_tmp rfl rfl) [_] (Gives.pick [0] (by decide) rfl) rfl ⟨A', c', by rw [Nat.zero_add], by rw [Nat.zero_add]; rfl⟩
/-- A row written over. -/


theorem spoil_own (A : Option Addr) (n c : Nat) (T : TypeId) (l : List B8) (hn : n ≤ 9223372036854775807) (hl : l.length = n) : Fn Tryz.prog 16 [.slice A n c] [.own A n c T 1 (bvs l)] (A.map (·.block)).toList
    fun v Lo => v = .tuple #[] ∧ Lo = [.own A n c T 1 (bvs (List.replicate n 165#8))] := by
  refine fn_enter Tryz.func16 rfl rfl (by kernel_rfl) rfl ?_
  intro w0
  repeat (first | refine wz ?_ | (refine wzb ?_; intro b_) | fail)
  refine cx_loop (α := { i : Nat // i ≤ n }) (fun x => [(0, none, .slice A n c), (2, none, .int .i64 x.1)]) (fun x => [.own A n c T 1 (bvs (List.replicate x.1 165#8 ++ l.drop x.1))]) (fun x => n - x.1) ⟨0, Nat.zero_le _⟩ ⟨rfl, rfl, trivial⟩ (Gives.refl _) ?_
  rintro ⟨i, hi⟩
  dsimp only
  repeat (first | refine wz ?_ | (refine wzb ?_; intro b_) | fail)
  refine cx_cond rfl (fun h => ?_) (fun h => ?_)
  · have hlt : i < n := by simp at h; omega
    repeat (first | ((first | (apply lx_u; exact rfl) | (apply lx_g; exact rfl; exact rfl)); first | (apply isy_indexAddr; exact yl_index (E := EV) 0 rfl rfl rfl rfl rfl (Shows.own ..) (by first | exact fun _ => rfl | exact fun h => h | exact fun h => (Bool.and_eq_true_iff.1 h).1) (by first | exact fun _ => rfl | exact fun h => h | exact fun h => (Bool.and_eq_true_iff.1 h).1) (fun _ => by omega)) | fail) | (refine isx_store ?_; refine lx_storeI (E := EV) 0 rfl rfl rfl rfl rfl rfl rfl rfl rfl (by show i + 1 ≤ (bvs _).length; rw [bvs_len, List.length_append, List.length_replicate, List.length_drop]; omega) rfl (fun _ => trivial) ?_) | refine wz ?_ | (refine wzb ?_; intro b_) | fail)
    refine ⟨⟨i + 1, by omega⟩, ⟨rfl, slot_int (by dsimp only; omega), trivial⟩, ?_, by dsimp only; omega⟩
    have e : setL (bvs (List.replicate i 165#8 ++ l.drop i)) (mulI i 1) [bv 165#8] = bvs (List.replicate (i + 1) 165#8 ++ l.drop (i + 1)) := by
      have h1 : l.drop i = l[i] :: l.drop (i + 1) := by rw [List.getElem_cons_drop]
      rw [setL_eq _ _ _ (by simp [bvs_len, mulI]; omega), mulI, h1, bvs_append, List.replicate_succ', List.append_assoc]
      have h2 : (bvs (List.replicate i 165#8)).length = i := by simp [bvs_len]
      rw [List.take_append_of_le_length (by omega), List.take_of_length_le (by omega), List.drop_append, h2]
      simp [bvs, h2, show i + 1 - i = 1 by omega]
    dsimp only
    rw [← e]
    exact Gives.refl _
  · obtain rfl : i = n := by simp at h; omega
    rw [List.drop_eq_nil_of_le (by omega), List.append_nil]
    repeat (first | refine wz ?_ | (refine wzb ?_; intro b_) | fail)
    exact bq_end (ret_none rfl) [_] (Gives.refl _) rfl ⟨rfl, rfl⟩

end Go.Proofs.YtmochicneilhhaaGreat.kit
