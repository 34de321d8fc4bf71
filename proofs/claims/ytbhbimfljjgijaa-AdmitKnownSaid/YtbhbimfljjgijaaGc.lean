/- gates: names, and the totals told. -/
import Derived.Test.YtbhbimfljjgijaaGo
import Derived.Test.YtbhbimfljjgijaaGb
namespace Go.Proofs.Ytbhbimfljjgijaa.gt
open Go.RowKit
section
variable {P : Program} {n : Nat} {M : Me} {Q : Post} {t : Fr} {L : List Ck}
theorem yl_arrV {E : Env P} {p c1 c2 : Option Bool} {dst : Option Tmp} {T e : TypeId} {X Y : Operand} {ty : TypeId} {pos : String} {after : Array Edge} {guard : Option (Nat × Bool)} {cs : Array Value} {κ : IntKind} {iv : Int} {m : Nat} {j : TyI} {v : Value}
    (hx : ov t X = some (c1, .agg cs)) (hy : ov t Y = some (c2, .int κ iv)) (hT : tyOf E.f T = .array m e) (he : E.f e = some j) (hv : evPart E.f e cs.toList (iv.toNat * j.size) = some v) (hi : 0 ≤ iv ∧ iv < m) (h1 : cb p = true → cb c1 = true) (h2 : cb p = true → cb c2 = true) :
    Yl P n t L p ⟨dst, .index T X Y, ty, pos, after, guard⟩ v := fun hp M a w hf hm => by
  have hu := run_underlying (P := P) (tyOf_array hT) w
  have hs := E.size he w
  have hr := run_part he hv w
  unfold execOp
  refine run_v ?_
  simp [hf.ov hx (h1 hp), hf.ov hy (h2 hp), Instr.index, asIntOf, hu, hi, hs, hr]
end
abbrev nms : List (List B8) := [[102#8, 101#8, 100#8], [114#8, 101#8, 102#8, 117#8, 115#8, 101#8, 100#8], [100#8, 101#8, 99#8, 111#8, 100#8, 101#8, 100#8], [102#8, 97#8, 105#8, 108#8, 101#8, 100#8], [115#8, 101#8, 114#8, 118#8, 101#8, 100#8], [97#8, 99#8, 99#8, 101#8, 112#8, 116#8, 101#8, 100#8], [114#8, 101#8, 106#8, 101#8, 99#8, 116#8, 101#8, 100#8], [112#8, 117#8, 98#8, 108#8, 105#8, 115#8, 104#8, 101#8, 100#8], [116#8, 105#8, 99#8, 107#8, 101#8, 100#8], [115#8, 119#8, 101#8, 112#8, 116#8]]
abbrev wdsL : List Value := [.string (sb [102#8, 101#8, 100#8]), .string (sb [114#8, 101#8, 102#8, 117#8, 115#8, 101#8, 100#8]), .string (sb [100#8, 101#8, 99#8, 111#8, 100#8, 101#8, 100#8]), .string (sb [102#8, 97#8, 105#8, 108#8, 101#8, 100#8]), .string (sb [115#8, 101#8, 114#8, 118#8, 101#8, 100#8]), .string (sb [97#8, 99#8, 99#8, 101#8, 112#8, 116#8, 101#8, 100#8]), .string (sb [114#8, 101#8, 106#8, 101#8, 99#8, 116#8, 101#8, 100#8]), .string (sb [112#8, 117#8, 98#8, 108#8, 105#8, 115#8, 104#8, 101#8, 100#8]), .string (sb [116#8, 105#8, 99#8, 107#8, 101#8, 100#8]), .string (sb [115#8, 119#8, 101#8, 112#8, 116#8])]
abbrev wdsV : Value := .agg #[.string (sb [102#8, 101#8, 100#8]), .string (sb [114#8, 101#8, 102#8, 117#8, 115#8, 101#8, 100#8]), .string (sb [100#8, 101#8, 99#8, 111#8, 100#8, 101#8, 100#8]), .string (sb [102#8, 97#8, 105#8, 108#8, 101#8, 100#8]), .string (sb [115#8, 101#8, 114#8, 118#8, 101#8, 100#8]), .string (sb [97#8, 99#8, 99#8, 101#8, 112#8, 116#8, 101#8, 100#8]), .string (sb [114#8, 101#8, 106#8, 101#8, 99#8, 116#8, 101#8, 100#8]), .string (sb [112#8, 117#8, 98#8, 108#8, 105#8, 115#8, 104#8, 101#8, 100#8]), .string (sb [116#8, 105#8, 99#8, 107#8, 101#8, 100#8]), .string (sb [115#8, 119#8, 101#8, 112#8, 116#8])]
theorem nm_ex (i : Nat) (h : i < 10) : ∃ s, nms[i]? = some s ∧ evPart EV.f 9 wdsL (i * 1) = some (.string (sb s)) := by
  have : i = 0 ∨ i = 1 ∨ i = 2 ∨ i = 3 ∨ i = 4 ∨ i = 5 ∨ i = 6 ∨ i = 7 ∨ i = 8 ∨ i = 9 := by omega
  rcases this with rfl | rfl | rfl | rfl | rfl | rfl | rfl | rfl | rfl | rfl <;> exact ⟨_, rfl, rfl⟩
theorem nm_nodup : nms.Nodup := by decide
def ents : List (List B8) → Nat → List MapEntry
  | [], _ => []
  | n :: l, q => ⟨.string (sb n), .int .i64 q, q⟩ :: ents l (q + 1)
theorem ents_app : ∀ (l : List (List B8)) (n : List B8) (q : Nat), ents (l ++ [n]) q = ents l q ++ [⟨.string (sb n), .int .i64 (q + l.length : Nat), q + l.length⟩]
  | [], n, q => rfl
  | x :: l, n, q => by
    show _ :: ents (l ++ [n]) (q + 1) = _ :: (ents l (q + 1) ++ _)
    rw [ents_app l n (q + 1), List.length_cons, Nat.add_assoc, Nat.add_comm 1]
theorem ents_key : ∀ {l : List (List B8)} {q : Nat}, ∀ e ∈ ents l q, ∃ n ∈ l, e.key = .string (sb n)
  | [], _, _, h => by cases h
  | x :: l, q, e, h => by
    rcases List.mem_cons.1 h with rfl | h
    · exact ⟨x, List.mem_cons_self .., rfl⟩
    · obtain ⟨n, hn, he⟩ := ents_key e h
      exact ⟨n, List.mem_cons_of_mem _ hn, he⟩
def fnd (s : List B8) : List (List B8) → Nat → Option Nat
  | [], _ => none
  | n :: l, q => if n = s then some q else fnd s l (q + 1)
theorem sb_ne {a b : List B8} (h : a ≠ b) : sb a ≠ sb b := fun e => h (sb_inj.1 e)
theorem find_ents (s : List B8) : ∀ (l : List (List B8)) (q : Nat), Instr.findNow .string (.string (sb s)) (ents l q) q = some ((fnd s l q).map fun i => (i, .int .i64 i))
  | [], _ => rfl
  | n :: l, q => by
    unfold ents Instr.findNow fnd
    by_cases h : n = s
    · have : Instr.sameNow .string (.string (sb s)) (.string (sb n)) = some true := by
        show some (sb s == sb n) = some true
        rw [(MapKept.bytes_beq _ _).2 (by rw [h])]
      simp only [this, if_pos h, Option.map_some]
    · have : Instr.sameNow .string (.string (sb s)) (.string (sb n)) = some false := by
        show some (sb s == sb n) = some false
        cases hb : sb s == sb n with
        | false => rfl
        | true => exact absurd (sb_inj.1 ((MapKept.bytes_beq _ _).1 hb)).symm h
      simp only [this, if_neg h]
      exact find_ents s l (q + 1)
def mapO (i : Nat) : Obj := .map (ents (nms.take i) 0).toArray i
theorem mapO_next {i : Nat} {s : List B8} (h : nms[i]? = some s) : Obj.map ((ents (nms.take i) 0).toArray.push ⟨.string (sb s), .int .i64 i, i⟩) (i + 1) = mapO (i + 1) := by
  have hi := (List.getElem?_eq_some_iff.1 h).1
  have hl : (nms.take i).length = i := by rw [List.length_take]; omega
  rw [mapO, List.take_add_one, h]
  have := ents_app (nms.take i) s 0
  rw [hl, Nat.zero_add] at this
  show _ = Obj.map (ents (nms.take i ++ [s]) 0).toArray (i + 1)
  rw [this]
  simp
theorem nm_fresh {i : Nat} {s : List B8} (h : nms[i]? = some s) : fresh (sb s) (ents (nms.take i) 0).toArray.toList := by
  intro e he
  obtain ⟨n, hn, hk⟩ := ents_key e (by simpa using he)
  refine ⟨_, hk, sb_ne fun hns => ?_⟩
  subst hns
  obtain ⟨j, hj, hjn⟩ := List.getElem_of_mem hn
  have hjl : j < i := by rw [List.length_take] at hj; omega
  have h2 : nms[j]? = some n := by
    have := List.getElem?_eq_getElem hj
    rw [hjn, List.getElem?_take, if_pos hjl] at this
    exact this
  have := (List.getElem?_inj (by have := (List.getElem?_eq_some_iff.1 h2).1; exact this) nm_nodup).1 (h2.trans h.symm)
  omega
theorem set_mp {c : Cf} {ts : List (BitVec 64)} {d m : Int} {mp : Option Nat} (ht : ts.length = 10) (bm : Nat) : setL (gcs c ts d m mp) 24 [.map (some bm)] = gcs c ts d m (some bm) := by
  have h1 : ∀ (cs : List Value) (i : Nat) (v : Value), i < cs.length → setL cs i [v] = cs.set i v := by
    intro cs
    induction cs with
    | nil => intro i v h; exact absurd h (Nat.not_lt_zero _)
    | cons x cs ih =>
      intro i v h
      cases i with
      | zero => cases cs <;> simp [setL]
      | succ i => rw [setL, ih i v (by simpa using h), List.set_cons_succ]
  rw [h1 _ _ _ (by rw [g_len ht]; decide)]
  exact s_tail (q := 3) ht
attribute [local irreducible] LX CX Yl Gives RetIs Fn
theorem totals_fn (b q : Nat) (c : Cf) (ts : List (BitVec 64)) (d m : Int) (mp : Option Nat) (ht : ts.length = 10) : Fn Try.prog 42 [.pointer (some ⟨b, 0, none⟩)] [.ro (some ⟨b, 0, none⟩) q 1 (gcs c ts d m mp)] [] fun v Lo => ∃ A cc, v = .slice A 10 cc ∧ Lo = [.own A 10 cc 72 1 (usv ts)] := by
  have hgt : ∀ {i : Nat} {x : BitVec 64}, ts[i]? = some x → (gcs c ts d m mp)[i + 11]? = some (.int .u64 x.toNat) := fun h => g_ts h
  generalize gcs c ts d m mp = G1 at hgt ⊢
  refine fn_enter Try.func42 rfl rfl (by kernel_rfl) rfl ?_
  intro w0
  repeat (first | refine lx_not rfl rfl rfl rfl ?_ | refine lx_notu rfl rfl rfl rfl rfl ?_ | ((first | (apply lx_gt; exact rfl; exact rfl; exact rfl) | (apply lx_u; exact rfl) | (apply lx_g; exact rfl; exact rfl)); first | (apply isy_bin_eql; exact yl_false (yl_op (E := EV) rfl) (fun _ => rfl)) | fail) | (refine isG ?_; refine gT rfl rfl rfl ?_) | (refine isU ?_; refine gU rfl ?_) | (refine isG ?_; refine gG rfl rfl ?_) | (refine isx_box ?_; refine gB rfl rfl rfl rfl rfl rfl ?_; intro b_) | (refine isx_alloc ?_; refine gA rfl rfl rfl rfl rfl rfl rfl ?_; intro b_) | (refine isx_store ?_; refine gS 0 rfl rfl rfl rfl rfl rfl rfl rfl rfl rfl ?_) | (refine isx_store ?_; refine gS 1 rfl rfl rfl rfl rfl rfl rfl rfl rfl rfl ?_) | (refine isx_store ?_; refine gS 2 rfl rfl rfl rfl rfl rfl rfl rfl rfl rfl ?_) | (refine isx_store ?_; refine gS 3 rfl rfl rfl rfl rfl rfl rfl rfl rfl rfl ?_) | (refine isx_row ?_; refine lx_row (E := EV) rfl rfl rfl rfl rfl rfl rfl rfl rfl rfl rfl rfl rfl ?_; intro b_) | refine lx_nil ?_ | with_reducible refine tq_n ?_ | with_reducible refine tq_r ?_ | with_reducible refine tq_e ?_ | with_reducible refine bk_n ?_ | with_reducible refine bk_r ?_ | (with_reducible refine bk_e ?_ ?_; exact rfl) | (with_reducible refine bk_x ?_ ?_; exact rfl) | refine cx_seq ?_ | refine cx_region ?_ | refine cx_block ?_ | refine cx_ret ?_ | refine cx_skip ?_ | refine cx_exit ?_ | fail)
  refine cx_cond rfl (fun h => absurd h (by decide)) (fun _ => ?_)
  repeat (first | (refine isU ?_; refine gU rfl ?_) | (refine isG ?_; refine gG rfl rfl ?_) | (refine isx_box ?_; refine gB rfl rfl rfl rfl rfl rfl ?_; intro b_) | (refine isx_alloc ?_; refine gA rfl rfl rfl rfl rfl rfl rfl ?_; intro b_) | (refine isx_store ?_; refine gS 0 rfl rfl rfl rfl rfl rfl rfl rfl rfl rfl ?_) | (refine isx_store ?_; refine gS 1 rfl rfl rfl rfl rfl rfl rfl rfl rfl rfl ?_) | (refine isx_store ?_; refine gS 2 rfl rfl rfl rfl rfl rfl rfl rfl rfl rfl ?_) | (refine isx_store ?_; refine gS 3 rfl rfl rfl rfl rfl rfl rfl rfl rfl rfl ?_) | (refine isx_row ?_; refine lx_row (E := EV) rfl rfl rfl rfl rfl rfl rfl rfl rfl rfl rfl rfl rfl ?_; intro b_) | refine lx_nil ?_ | with_reducible refine tq_n ?_ | with_reducible refine tq_r ?_ | with_reducible refine tq_e ?_ | with_reducible refine bk_n ?_ | with_reducible refine bk_r ?_ | (with_reducible refine bk_e ?_ ?_; exact rfl) | (with_reducible refine bk_x ?_ ?_; exact rfl) | refine cx_seq ?_ | refine cx_region ?_ | refine cx_block ?_ | refine cx_ret ?_ | refine cx_skip ?_ | refine cx_exit ?_ | fail)
  refine cx_loop (α := { x : Nat × Option Addr × Nat // x.1 ≤ 10 }) (fun x => [(0, none, .pointer (some ⟨b, 0, none⟩)), (3, none, .slice x.1.2.1 x.1.1 x.1.2.2), (7, none, .int .i64 x.1.1)]) (fun x => [.own x.1.2.1 x.1.1 x.1.2.2 72 1 (usv (ts.take x.1.1)), .ro (some ⟨b, 0, none⟩) q 1 G1]) (fun x => 10 - x.1.1) ⟨(0, none, 0), Nat.zero_le _⟩ ⟨rfl, rfl, rfl, trivial⟩ (Gives.nilown _ _ _) ?_
  rintro ⟨⟨i, A, cc⟩, hi⟩
  dsimp only at hi ⊢
  repeat (first | (refine isU ?_; refine gU rfl ?_) | (refine isG ?_; refine gG rfl rfl ?_) | (refine isx_box ?_; refine gB rfl rfl rfl rfl rfl rfl ?_; intro b_) | (refine isx_alloc ?_; refine gA rfl rfl rfl rfl rfl rfl rfl ?_; intro b_) | (refine isx_store ?_; refine gS 0 rfl rfl rfl rfl rfl rfl rfl rfl rfl rfl ?_) | (refine isx_store ?_; refine gS 1 rfl rfl rfl rfl rfl rfl rfl rfl rfl rfl ?_) | (refine isx_store ?_; refine gS 2 rfl rfl rfl rfl rfl rfl rfl rfl rfl rfl ?_) | (refine isx_store ?_; refine gS 3 rfl rfl rfl rfl rfl rfl rfl rfl rfl rfl ?_) | (refine isx_row ?_; refine lx_row (E := EV) rfl rfl rfl rfl rfl rfl rfl rfl rfl rfl rfl rfl rfl ?_; intro b_) | refine lx_nil ?_ | with_reducible refine tq_n ?_ | with_reducible refine tq_r ?_ | with_reducible refine tq_e ?_ | with_reducible refine bk_n ?_ | with_reducible refine bk_r ?_ | (with_reducible refine bk_e ?_ ?_; exact rfl) | (with_reducible refine bk_x ?_ ?_; exact rfl) | refine cx_seq ?_ | refine cx_region ?_ | refine cx_block ?_ | refine cx_ret ?_ | refine cx_skip ?_ | refine cx_exit ?_ | fail)
  refine cx_cond rfl (fun h => ?_) (fun h => ?_)
  · have hi10 : i < 10 := by simp at h; omega
    clear h
    obtain ⟨x, hx⟩ : ∃ x, ts[i]? = some x := ⟨_, List.getElem?_eq_getElem (by omega)⟩
    have hl := load64_fn b (i + 11) q G1 x (hgt hx)
    have hnx : usv (ts.take i) ++ [.int .u64 x.toNat] = usv (ts.take (i + 1)) := by
      rw [List.take_add_one, hx, usv, usv, List.map_append]
      rfl
    repeat (first | ((first | (apply lx_u; exact rfl) | (apply lx_g; exact rfl; exact rfl)); first | (apply isy_indexAddr; exact yl_eq (q_xp rfl rfl rfl rfl) (fun _ => by show _ = Value.pointer (some ⟨b, i + 11, none⟩); rw [Nat.add_comm i 11]; rfl)) | fail) | (refine isU ?_; refine gU rfl ?_) | (refine isG ?_; refine gG rfl rfl ?_) | (refine isx_call ?_; refine k_gcall (hl) ((fun w hm => in_ro (row_ro 1 rfl hm) (in_nil hm) rfl)) rfl rfl rfl rfl rfl rfl ?_) | (refine isx_box ?_; refine gB rfl rfl rfl rfl rfl rfl ?_; intro b_) | (refine isx_alloc ?_; refine gA rfl rfl rfl rfl rfl rfl rfl ?_; intro b_) | (refine isx_store ?_; refine gS 0 rfl rfl rfl rfl rfl rfl rfl rfl rfl rfl ?_) | (refine isx_store ?_; refine gS 1 rfl rfl rfl rfl rfl rfl rfl rfl rfl rfl ?_) | (refine isx_store ?_; refine gS 2 rfl rfl rfl rfl rfl rfl rfl rfl rfl rfl ?_) | (refine isx_store ?_; refine gS 3 rfl rfl rfl rfl rfl rfl rfl rfl rfl rfl ?_) | (refine isx_row ?_; refine lx_row (E := EV) rfl rfl rfl rfl rfl rfl rfl rfl rfl rfl rfl rfl rfl ?_; intro b_) | refine lx_nil ?_ | with_reducible refine tq_n ?_ | with_reducible refine tq_r ?_ | with_reducible refine tq_e ?_ | with_reducible refine bk_n ?_ | with_reducible refine bk_r ?_ | (with_reducible refine bk_e ?_ ?_; exact rfl) | (with_reducible refine bk_x ?_ ?_; exact rfl) | refine cx_seq ?_ | refine cx_region ?_ | refine cx_block ?_ | refine cx_ret ?_ | refine cx_skip ?_ | refine cx_exit ?_ | fail)
    refine lx_append (E := EV) 1 rfl rfl rfl rfl rfl rfl rfl rfl rfl rfl rfl rfl rfl (news := [.int .u64 x.toNat]) (fun w hm => row_blk 0 rfl rfl hm) (by simp [Value.oneCell']) (by show i + 1 ≤ 9223372036854775807; omega) (by show (i + 1) * 8 ≤ _; omega) (fun _ _ _ => trivial) ?_
    intro A2 c2
    rw [hnx]
    repeat (first | (refine isU ?_; refine gU rfl ?_) | (refine isG ?_; refine gG rfl rfl ?_) | (refine isx_box ?_; refine gB rfl rfl rfl rfl rfl rfl ?_; intro b_) | (refine isx_alloc ?_; refine gA rfl rfl rfl rfl rfl rfl rfl ?_; intro b_) | (refine isx_store ?_; refine gS 0 rfl rfl rfl rfl rfl rfl rfl rfl rfl rfl ?_) | (refine isx_store ?_; refine gS 1 rfl rfl rfl rfl rfl rfl rfl rfl rfl rfl ?_) | (refine isx_store ?_; refine gS 2 rfl rfl rfl rfl rfl rfl rfl rfl rfl rfl ?_) | (refine isx_store ?_; refine gS 3 rfl rfl rfl rfl rfl rfl rfl rfl rfl rfl ?_) | (refine isx_row ?_; refine lx_row (E := EV) rfl rfl rfl rfl rfl rfl rfl rfl rfl rfl rfl rfl rfl ?_; intro b_) | refine lx_nil ?_ | with_reducible refine tq_n ?_ | with_reducible refine tq_r ?_ | with_reducible refine tq_e ?_ | with_reducible refine bk_n ?_ | with_reducible refine bk_r ?_ | (with_reducible refine bk_e ?_ ?_; exact rfl) | (with_reducible refine bk_x ?_ ?_; exact rfl) | refine cx_seq ?_ | refine cx_region ?_ | refine cx_block ?_ | refine cx_ret ?_ | refine cx_skip ?_ | refine cx_exit ?_ | fail)
    exact ⟨⟨(i + 1, A2, c2), hi10⟩, ⟨rfl, rfl, slot_int (by dsimp only; omega), trivial⟩, Gives.pick [1, 2] (by decide) rfl, by dsimp only; omega⟩
  · have h10 : i = 10 := by simp at h; omega
    subst h10
    repeat (first | (refine isU ?_; refine gU rfl ?_) | (refine isG ?_; refine gG rfl rfl ?_) | (refine isx_box ?_; refine gB rfl rfl rfl rfl rfl rfl ?_; intro b_) | (refine isx_alloc ?_; refine gA rfl rfl rfl rfl rfl rfl rfl ?_; intro b_) | (refine isx_store ?_; refine gS 0 rfl rfl rfl rfl rfl rfl rfl rfl rfl rfl ?_) | (refine isx_store ?_; refine gS 1 rfl rfl rfl rfl rfl rfl rfl rfl rfl rfl ?_) | (refine isx_store ?_; refine gS 2 rfl rfl rfl rfl rfl rfl rfl rfl rfl rfl ?_) | (refine isx_store ?_; refine gS 3 rfl rfl rfl rfl rfl rfl rfl rfl rfl rfl ?_) | (refine isx_row ?_; refine lx_row (E := EV) rfl rfl rfl rfl rfl rfl rfl rfl rfl rfl rfl rfl rfl ?_; intro b_) | refine lx_nil ?_ | with_reducible refine tq_n ?_ | with_reducible refine tq_r ?_ | with_reducible refine tq_e ?_ | with_reducible refine bk_n ?_ | with_reducible refine bk_r ?_ | (with_reducible refine bk_e ?_ ?_; exact rfl) | (with_reducible refine bk_x ?_ ?_; exact rfl) | refine cx_seq ?_ | refine cx_region ?_ | refine cx_block ?_ | refine cx_ret ?_ | refine cx_skip ?_ | refine cx_exit ?_ | fail)
    exact bq_ret (ret_tmp rfl rfl) [_] (Gives.pick [0] (by decide) rfl) rfl ⟨A, cc, rfl, by rw [List.take_of_length_le (by omega)]⟩
theorem words_fn : Fn Try.prog 58 [] [] [] fun v Lo => v = wdsV ∧ Lo = [] := by
  refine fn_enter Try.func58 rfl rfl (by kernel_rfl) rfl ?_
  intro w0
  repeat (first | (refine isU ?_; refine gU rfl ?_) | (refine isG ?_; refine gG rfl rfl ?_) | (refine isx_box ?_; refine gB rfl rfl rfl rfl rfl rfl ?_; intro b_) | (refine isx_alloc ?_; refine gA rfl rfl rfl rfl rfl rfl rfl ?_; intro b_) | (refine isx_store ?_; refine gS 0 rfl rfl rfl rfl rfl rfl rfl rfl rfl rfl ?_) | (refine isx_store ?_; refine gS 1 rfl rfl rfl rfl rfl rfl rfl rfl rfl rfl ?_) | (refine isx_store ?_; refine gS 2 rfl rfl rfl rfl rfl rfl rfl rfl rfl rfl ?_) | (refine isx_store ?_; refine gS 3 rfl rfl rfl rfl rfl rfl rfl rfl rfl rfl ?_) | (refine isx_row ?_; refine lx_row (E := EV) rfl rfl rfl rfl rfl rfl rfl rfl rfl rfl rfl rfl rfl ?_; intro b_) | refine lx_nil ?_ | with_reducible refine tq_n ?_ | with_reducible refine tq_r ?_ | with_reducible refine tq_e ?_ | with_reducible refine bk_n ?_ | with_reducible refine bk_r ?_ | (with_reducible refine bk_e ?_ ?_; exact rfl) | (with_reducible refine bk_x ?_ ?_; exact rfl) | refine cx_seq ?_ | refine cx_region ?_ | refine cx_block ?_ | refine cx_ret ?_ | refine cx_skip ?_ | refine cx_exit ?_ | fail)
  exact bq_ret (ret_cell (E := EV) 0 rfl rfl rfl rfl (fun _ => Nat.le_of_ble_eq_true rfl) rfl) [] (Gives.nil _) rfl ⟨rfl, rfl⟩
theorem name_fn (b i : Nat) (s : List B8) (h : nms[i]? = some s) : Fn Try.prog 28 [.pointer (some ⟨b, 0, none⟩), .int .i64 i] [] [] fun v Lo => v = .string (sb s) ∧ Lo = [] := by
  have hi : i < 10 := (List.getElem?_eq_some_iff.1 h).1
  have hc := counter_in b i hi
  obtain ⟨s', h1, h2⟩ := nm_ex i hi
  obtain rfl : s' = s := Option.some.inj (h1.symm.trans h)
  refine fn_enter Try.func28 rfl rfl (by kernel_rfl) rfl ?_
  intro w0
  repeat (first | refine lx_not rfl rfl rfl rfl ?_ | refine lx_notu rfl rfl rfl rfl rfl ?_ | ((first | (apply lx_gt; exact rfl; exact rfl; exact rfl) | (apply lx_u; exact rfl) | (apply lx_g; exact rfl; exact rfl)); first | (apply isy_bin_eql; exact yl_false (yl_op (E := EV) rfl) (fun _ => rfl)) | fail) | (refine isG ?_; refine gT rfl rfl rfl ?_) | (refine isU ?_; refine gU rfl ?_) | (refine isG ?_; refine gG rfl rfl ?_) | (refine isx_call ?_; refine lx_gcallt (hc) (fun _ hm => in_nil hm) rfl rfl rfl rfl rfl rfl rfl ?_) | (refine isx_box ?_; refine gB rfl rfl rfl rfl rfl rfl ?_; intro b_) | (refine isx_alloc ?_; refine gA rfl rfl rfl rfl rfl rfl rfl ?_; intro b_) | (refine isx_store ?_; refine gS 0 rfl rfl rfl rfl rfl rfl rfl rfl rfl rfl ?_) | (refine isx_store ?_; refine gS 1 rfl rfl rfl rfl rfl rfl rfl rfl rfl rfl ?_) | (refine isx_store ?_; refine gS 2 rfl rfl rfl rfl rfl rfl rfl rfl rfl rfl ?_) | (refine isx_store ?_; refine gS 3 rfl rfl rfl rfl rfl rfl rfl rfl rfl rfl ?_) | (refine isx_row ?_; refine lx_row (E := EV) rfl rfl rfl rfl rfl rfl rfl rfl rfl rfl rfl rfl rfl ?_; intro b_) | refine lx_nil ?_ | with_reducible refine tq_n ?_ | with_reducible refine tq_r ?_ | with_reducible refine tq_e ?_ | with_reducible refine bk_n ?_ | with_reducible refine bk_r ?_ | (with_reducible refine bk_e ?_ ?_; exact rfl) | (with_reducible refine bk_x ?_ ?_; exact rfl) | refine cx_seq ?_ | refine cx_region ?_ | refine cx_block ?_ | refine cx_ret ?_ | refine cx_skip ?_ | refine cx_exit ?_ | fail)
  refine cx_cond rfl (fun h => absurd h (by decide)) (fun _ => ?_)
  repeat (first | ((first | (apply lx_u; exact rfl) | (apply lx_g; exact rfl; exact rfl)); first | exact yl_arrV (E := EV) rfl rfl rfl rfl h2 (by omega) (by first | exact fun _ => rfl | exact fun h => h | exact fun h => (Bool.and_eq_true_iff.1 h).1) (by first | exact fun _ => rfl | exact fun h => h | exact fun h => (Bool.and_eq_true_iff.1 h).1) | fail) | (refine isU ?_; refine gU rfl ?_) | (refine isG ?_; refine gG rfl rfl ?_) | (refine isx_call ?_; refine k_gcall (words_fn) (fun _ hm => in_nil hm) rfl rfl rfl rfl rfl rfl ?_) | (refine isx_box ?_; refine gB rfl rfl rfl rfl rfl rfl ?_; intro b_) | (refine isx_alloc ?_; refine gA rfl rfl rfl rfl rfl rfl rfl ?_; intro b_) | (refine isx_store ?_; refine gS 0 rfl rfl rfl rfl rfl rfl rfl rfl rfl rfl ?_) | (refine isx_store ?_; refine gS 1 rfl rfl rfl rfl rfl rfl rfl rfl rfl rfl ?_) | (refine isx_store ?_; refine gS 2 rfl rfl rfl rfl rfl rfl rfl rfl rfl rfl ?_) | (refine isx_store ?_; refine gS 3 rfl rfl rfl rfl rfl rfl rfl rfl rfl rfl ?_) | (refine isx_row ?_; refine lx_row (E := EV) rfl rfl rfl rfl rfl rfl rfl rfl rfl rfl rfl rfl rfl ?_; intro b_) | refine lx_nil ?_ | with_reducible refine tq_n ?_ | with_reducible refine tq_r ?_ | with_reducible refine tq_e ?_ | with_reducible refine bk_n ?_ | with_reducible refine bk_r ?_ | (with_reducible refine bk_e ?_ ?_; exact rfl) | (with_reducible refine bk_x ?_ ?_; exact rfl) | refine cx_seq ?_ | refine cx_region ?_ | refine cx_block ?_ | refine cx_ret ?_ | refine cx_skip ?_ | refine cx_exit ?_ | fail)
  exact bq_ret (ret_tmp rfl rfl) [] (Gives.nil _) rfl ⟨rfl, rfl⟩
theorem name_out (b : Nat) (i : Int) (h : i < 0 ∨ 10 ≤ i) : Fn Try.prog 28 [.pointer (some ⟨b, 0, none⟩), .int .i64 i] [] [] fun v Lo => v = .string (sb []) ∧ Lo = [] := by
  have hc := counter_out b i h
  refine fn_enter Try.func28 rfl rfl (by kernel_rfl) rfl ?_
  intro w0
  repeat (first | refine lx_not rfl rfl rfl rfl ?_ | refine lx_notu rfl rfl rfl rfl rfl ?_ | ((first | (apply lx_gt; exact rfl; exact rfl; exact rfl) | (apply lx_u; exact rfl) | (apply lx_g; exact rfl; exact rfl)); first | (apply isy_bin_eql; exact yl_true (yl_op (E := EV) rfl) (fun _ => rfl)) | fail) | (refine isG ?_; refine gT rfl rfl rfl ?_) | (refine isU ?_; refine gU rfl ?_) | (refine isG ?_; refine gG rfl rfl ?_) | (refine isx_call ?_; refine lx_gcallt (hc) (fun _ hm => in_nil hm) rfl rfl rfl rfl rfl rfl rfl ?_) | (refine isx_box ?_; refine gB rfl rfl rfl rfl rfl rfl ?_; intro b_) | (refine isx_alloc ?_; refine gA rfl rfl rfl rfl rfl rfl rfl ?_; intro b_) | (refine isx_store ?_; refine gS 0 rfl rfl rfl rfl rfl rfl rfl rfl rfl rfl ?_) | (refine isx_store ?_; refine gS 1 rfl rfl rfl rfl rfl rfl rfl rfl rfl rfl ?_) | (refine isx_store ?_; refine gS 2 rfl rfl rfl rfl rfl rfl rfl rfl rfl rfl ?_) | (refine isx_store ?_; refine gS 3 rfl rfl rfl rfl rfl rfl rfl rfl rfl rfl ?_) | (refine isx_row ?_; refine lx_row (E := EV) rfl rfl rfl rfl rfl rfl rfl rfl rfl rfl rfl rfl rfl ?_; intro b_) | refine lx_nil ?_ | with_reducible refine tq_n ?_ | with_reducible refine tq_r ?_ | with_reducible refine tq_e ?_ | with_reducible refine bk_n ?_ | with_reducible refine bk_r ?_ | (with_reducible refine bk_e ?_ ?_; exact rfl) | (with_reducible refine bk_x ?_ ?_; exact rfl) | refine cx_seq ?_ | refine cx_region ?_ | refine cx_block ?_ | refine cx_ret ?_ | refine cx_skip ?_ | refine cx_exit ?_ | fail)
  refine cx_cond rfl (fun _ => ?_) (fun h => absurd h (by decide))
  repeat (first | (refine isU ?_; refine gU rfl ?_) | (refine isG ?_; refine gG rfl rfl ?_) | (refine isx_box ?_; refine gB rfl rfl rfl rfl rfl rfl ?_; intro b_) | (refine isx_alloc ?_; refine gA rfl rfl rfl rfl rfl rfl rfl ?_; intro b_) | (refine isx_store ?_; refine gS 0 rfl rfl rfl rfl rfl rfl rfl rfl rfl rfl ?_) | (refine isx_store ?_; refine gS 1 rfl rfl rfl rfl rfl rfl rfl rfl rfl rfl ?_) | (refine isx_store ?_; refine gS 2 rfl rfl rfl rfl rfl rfl rfl rfl rfl rfl ?_) | (refine isx_store ?_; refine gS 3 rfl rfl rfl rfl rfl rfl rfl rfl rfl rfl ?_) | (refine isx_row ?_; refine lx_row (E := EV) rfl rfl rfl rfl rfl rfl rfl rfl rfl rfl rfl rfl rfl ?_; intro b_) | refine lx_nil ?_ | with_reducible refine tq_n ?_ | with_reducible refine tq_r ?_ | with_reducible refine tq_e ?_ | with_reducible refine bk_n ?_ | with_reducible refine bk_r ?_ | (with_reducible refine bk_e ?_ ?_; exact rfl) | (with_reducible refine bk_x ?_ ?_; exact rfl) | refine cx_seq ?_ | refine cx_region ?_ | refine cx_block ?_ | refine cx_ret ?_ | refine cx_skip ?_ | refine cx_exit ?_ | fail)
  exact bq_ret (ret_tmp rfl rfl) [] (Gives.nil _) rfl ⟨rfl, rfl⟩
theorem name_nil (i : Int) : Fn Try.prog 28 [.pointer none, .int .i64 i] [] [] fun v Lo => v = .string (sb []) ∧ Lo = [] := by
  have hc := counter_nil i
  refine fn_enter Try.func28 rfl rfl (by kernel_rfl) rfl ?_
  intro w0
  repeat (first | refine lx_not rfl rfl rfl rfl ?_ | refine lx_notu rfl rfl rfl rfl rfl ?_ | ((first | (apply lx_gt; exact rfl; exact rfl; exact rfl) | (apply lx_u; exact rfl) | (apply lx_g; exact rfl; exact rfl)); first | (apply isy_bin_eql; exact yl_true (yl_op (E := EV) rfl) (fun _ => rfl)) | fail) | (refine isG ?_; refine gT rfl rfl rfl ?_) | (refine isU ?_; refine gU rfl ?_) | (refine isG ?_; refine gG rfl rfl ?_) | (refine isx_call ?_; refine lx_gcallt (hc) (fun _ hm => in_nil hm) rfl rfl rfl rfl rfl rfl rfl ?_) | (refine isx_box ?_; refine gB rfl rfl rfl rfl rfl rfl ?_; intro b_) | (refine isx_alloc ?_; refine gA rfl rfl rfl rfl rfl rfl rfl ?_; intro b_) | (refine isx_store ?_; refine gS 0 rfl rfl rfl rfl rfl rfl rfl rfl rfl rfl ?_) | (refine isx_store ?_; refine gS 1 rfl rfl rfl rfl rfl rfl rfl rfl rfl rfl ?_) | (refine isx_store ?_; refine gS 2 rfl rfl rfl rfl rfl rfl rfl rfl rfl rfl ?_) | (refine isx_store ?_; refine gS 3 rfl rfl rfl rfl rfl rfl rfl rfl rfl rfl ?_) | (refine isx_row ?_; refine lx_row (E := EV) rfl rfl rfl rfl rfl rfl rfl rfl rfl rfl rfl rfl rfl ?_; intro b_) | refine lx_nil ?_ | with_reducible refine tq_n ?_ | with_reducible refine tq_r ?_ | with_reducible refine tq_e ?_ | with_reducible refine bk_n ?_ | with_reducible refine bk_r ?_ | (with_reducible refine bk_e ?_ ?_; exact rfl) | (with_reducible refine bk_x ?_ ?_; exact rfl) | refine cx_seq ?_ | refine cx_region ?_ | refine cx_block ?_ | refine cx_ret ?_ | refine cx_skip ?_ | refine cx_exit ?_ | fail)
  refine cx_cond rfl (fun _ => ?_) (fun h => absurd h (by decide))
  repeat (first | (refine isU ?_; refine gU rfl ?_) | (refine isG ?_; refine gG rfl rfl ?_) | (refine isx_box ?_; refine gB rfl rfl rfl rfl rfl rfl ?_; intro b_) | (refine isx_alloc ?_; refine gA rfl rfl rfl rfl rfl rfl rfl ?_; intro b_) | (refine isx_store ?_; refine gS 0 rfl rfl rfl rfl rfl rfl rfl rfl rfl rfl ?_) | (refine isx_store ?_; refine gS 1 rfl rfl rfl rfl rfl rfl rfl rfl rfl rfl ?_) | (refine isx_store ?_; refine gS 2 rfl rfl rfl rfl rfl rfl rfl rfl rfl rfl ?_) | (refine isx_store ?_; refine gS 3 rfl rfl rfl rfl rfl rfl rfl rfl rfl rfl ?_) | (refine isx_row ?_; refine lx_row (E := EV) rfl rfl rfl rfl rfl rfl rfl rfl rfl rfl rfl rfl rfl ?_; intro b_) | refine lx_nil ?_ | with_reducible refine tq_n ?_ | with_reducible refine tq_r ?_ | with_reducible refine tq_e ?_ | with_reducible refine bk_n ?_ | with_reducible refine bk_r ?_ | (with_reducible refine bk_e ?_ ?_; exact rfl) | (with_reducible refine bk_x ?_ ?_; exact rfl) | refine cx_seq ?_ | refine cx_region ?_ | refine cx_block ?_ | refine cx_ret ?_ | refine cx_skip ?_ | refine cx_exit ?_ | fail)
  exact bq_ret (ret_tmp rfl rfl) [] (Gives.nil _) rfl ⟨rfl, rfl⟩
end Go.Proofs.Ytbhbimfljjgijaa.gt
