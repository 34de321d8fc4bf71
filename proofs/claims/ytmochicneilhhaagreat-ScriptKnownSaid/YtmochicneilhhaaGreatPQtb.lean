/- requests: packed; requests: Put, both. -/
import Derived.Test.YtmochicneilhhaaGreatPGo
import Derived.Test.YtmochicneilhhaaGreatPQta
import Derived.Test.YtmochicneilhhaaGreatPZb
--SHORT 3
namespace Go.Proofs.YtmochicneilhhaaGreat.rq
open Go.RowKit Go.Proofs.YtmochicneilhhaaGreat.kit Go.Proofs.YtmochicneilhhaaGreat.pk
def RQ.encP (r : RQ) : Pt → List B8
  | .a => be 8 r.at_
  | .l => be 8 r.le
  | .p => [r.pg]
  | .d => be 2 (r.du.setWidth 64)
  | .w => [r.so] ++ txt r.ky ++ txt r.to_ ++ be 8 (BitVec.ofInt 64 r.ls) ++ be 8 (BitVec.ofInt 64 r.ms)
def RQ.hd (r : RQ) : List B8 := [r.k] ++ be 4 (r.id.setWidth 64)
def RQ.enc (r : RQ) : List B8 := r.hd ++ (pts r.k).flatMap r.encP
theorem encP_len (r : RQ) (hk : r.ky.length ≤ 32) (ht : r.to_.length ≤ 32) (q : Pt) : (r.encP q).length ≤ 85 := by
  cases q <;> simp only [RQ.encP, List.length_append, be_len, txt_len, List.length_cons, List.length_nil] <;> omega
theorem hd_len (r : RQ) : r.hd.length = 5 := by rw [RQ.hd, List.length_append, be_len]; rfl
theorem pts_len (k : B8) : (pts k).length ≤ 3 := by
  unfold pts
  repeat' split
  all_goals decide
theorem wm_u8 (b : Nat) (p : Value) (w : World) : (callMethod (.iface 126 (.pointer (some ⟨b, 0, none⟩))) "tidepool/request.u8" [p].toArray).run Tryz.prog w = .ok (.enter 220 [.pointer (some ⟨b, 0, none⟩), p].toArray) w := by kernel_rfl
theorem wn_u8 (v : Value) (w : World) : (nilAhead (Tryz.prog.types.size + Made.depth) 126 v "tidepool/request.u8").run Tryz.prog w = .ok (some false) w := by kernel_rfl
theorem wm_u16 (b : Nat) (p : Value) (w : World) : (callMethod (.iface 126 (.pointer (some ⟨b, 0, none⟩))) "tidepool/request.u16" [p].toArray).run Tryz.prog w = .ok (.enter 218 [.pointer (some ⟨b, 0, none⟩), p].toArray) w := by kernel_rfl
theorem wn_u16 (v : Value) (w : World) : (nilAhead (Tryz.prog.types.size + Made.depth) 126 v "tidepool/request.u16").run Tryz.prog w = .ok (some false) w := by kernel_rfl
theorem wm_u64 (b : Nat) (p : Value) (w : World) : (callMethod (.iface 126 (.pointer (some ⟨b, 0, none⟩))) "tidepool/request.u64" [p].toArray).run Tryz.prog w = .ok (.enter 219 [.pointer (some ⟨b, 0, none⟩), p].toArray) w := by kernel_rfl
theorem wn_u64 (v : Value) (w : World) : (nilAhead (Tryz.prog.types.size + Made.depth) 126 v "tidepool/request.u64").run Tryz.prog w = .ok (some false) w := by kernel_rfl
theorem wm_whole (b : Nat) (p : Value) (w : World) : (callMethod (.iface 126 (.pointer (some ⟨b, 0, none⟩))) "tidepool/request.whole" [p].toArray).run Tryz.prog w = .ok (.enter 221 [.pointer (some ⟨b, 0, none⟩), p].toArray) w := by kernel_rfl
theorem wn_whole (v : Value) (w : World) : (nilAhead (Tryz.prog.types.size + Made.depth) 126 v "tidepool/request.whole").run Tryz.prog w = .ok (some false) w := by kernel_rfl
theorem wm_text (b : Nat) (p : Value) (w : World) : (callMethod (.iface 126 (.pointer (some ⟨b, 0, none⟩))) "tidepool/request.text" [p].toArray).run Tryz.prog w = .ok (.enter 217 [.pointer (some ⟨b, 0, none⟩), p].toArray) w := by kernel_rfl
theorem wn_text (v : Value) (w : World) : (nilAhead (Tryz.prog.types.size + Made.depth) 126 v "tidepool/request.text").run Tryz.prog w = .ok (some false) w := by kernel_rfl
theorem be_one (k : B8) : be 1 (k.setWidth 64) = [k] := by
  simp [be]
theorem one_len (x : B8) : [x].length = 1 := rfl

theorem put8q (n : B8) : Fn Tryz.prog 77 [.int .u8 n.toNat] [] [] fun v Lo => ∃ A c, v = .slice A 1 c ∧ Lo = [.own A 1 c 5 1 (bvs [n])] := by
  have := put8_fn n
  rwa [be_one] at this

attribute [local irreducible] LX CX Yl Gives RetIs Fn
attribute [local irreducible] be
def Wrote (b bw : Nat) (cs : List Value) (T : TypeId) (l : List B8) (v : Value) (Lo : List Ck) : Prop := ∃ A c, v = .tuple #[] ∧ Lo = [.blk b cs T, .blk bw [.slice A l.length c] 131, .own A l.length c 5 1 (bvs l)]
set_option maxHeartbeats 1000000 in
theorem writer_u8 (b bw off : Nat) (cs : List Value) (T : TypeId) (n : BitVec 8) (A : Option Addr) (c : Nat) (l : List B8) (hv : cs[off]? = some (.int .u8 n.toNat)) (hl : l.length ≤ 1000000) :
    Fn Tryz.prog 220 [.pointer (some ⟨bw, 0, none⟩), .pointer (some ⟨b, off, none⟩)] [.blk b cs T, .blk bw [.slice A l.length c] 131, .own A l.length c 5 1 (bvs l)] (b :: bw :: (A.map (·.block)).toList) (Wrote b bw cs T (l ++ [n])) := by
  have hle : (l ++ [n]).length = l.length + 1 := by rw [List.length_append]; first | rw [be_len] | rw [one_len]
  refine fn_enter Tryz.func220 rfl rfl (by kernel_rfl) rfl ?_
  intro w0
  refine cx_drawZ 12 [8, 9] [.blk b cs T, .blk bw [.slice A l.length c] 131] rfl (by kernel_rfl) (by kernel_rfl) (Gives.pick [0, 1] (by decide) rfl) ?_
  repeat (first | ((first | (apply lx_u; exact rfl) | (apply lx_g; exact rfl; exact rfl)); first | (apply isy_load; exact q_lv 0 rfl rfl rfl rfl hv) | fail) | (refine isx_call ?_; (refine lx_call0 (put8q n) (fun _ hm => in_nil hm) rfl rfl rfl rfl rfl rfl rfl rfl ?_; rintro v_ Lo_ ⟨A_, c_, rfl, rfl⟩)) | refine wz ?_ | (refine wzb ?_; intro b_) | fail)
  refine lx_append (E := EV) 3 rfl rfl rfl rfl rfl rfl rfl rfl rfl rfl rfl rfl rfl (news := bvs ([n])) (fun w hm => row_own 0 rfl hm) bvs_one (by unfold maxLen; omega) (by show (_ + _) * 1 ≤ _; omega) (fun _ _ _ => Gives.pick [1, 2] (by decide) rfl) ?_
  intro A' c'
  rw [← bvs_append, ← hle]
  repeat (first | refine wz ?_ | (refine wzb ?_; intro b_) | fail)
  exact bq_end (ret_none rfl) [_, _, _] (Gives.pick [1, 2, 3] (by decide) rfl) rfl ⟨_, _, rfl, rfl⟩
set_option maxHeartbeats 1000000 in
theorem writer_u16 (b bw off : Nat) (cs : List Value) (T : TypeId) (n : BitVec 16) (A : Option Addr) (c : Nat) (l : List B8) (hv : cs[off]? = some (.int .u16 n.toNat)) (hl : l.length ≤ 1000000) :
    Fn Tryz.prog 218 [.pointer (some ⟨bw, 0, none⟩), .pointer (some ⟨b, off, none⟩)] [.blk b cs T, .blk bw [.slice A l.length c] 131, .own A l.length c 5 1 (bvs l)] (b :: bw :: (A.map (·.block)).toList) (Wrote b bw cs T (l ++ be 2 (n.setWidth 64))) := by
  have hle : (l ++ be 2 (n.setWidth 64)).length = l.length + 2 := by rw [List.length_append]; first | rw [be_len] | rw [one_len]
  refine fn_enter Tryz.func218 rfl rfl (by kernel_rfl) rfl ?_
  intro w0
  refine cx_drawZ 12 [8, 9] [.blk b cs T, .blk bw [.slice A l.length c] 131] rfl (by kernel_rfl) (by kernel_rfl) (Gives.pick [0, 1] (by decide) rfl) ?_
  repeat (first | ((first | (apply lx_u; exact rfl) | (apply lx_g; exact rfl; exact rfl)); first | (apply isy_load; exact q_lv 0 rfl rfl rfl rfl hv) | fail) | (refine isx_call ?_; (refine lx_call0 (put16_fn n) (fun _ hm => in_nil hm) rfl rfl rfl rfl rfl rfl rfl rfl ?_; rintro v_ Lo_ ⟨A_, c_, rfl, rfl⟩)) | refine wz ?_ | (refine wzb ?_; intro b_) | fail)
  refine lx_append (E := EV) 3 rfl rfl rfl rfl rfl rfl rfl rfl rfl rfl rfl rfl rfl (news := bvs (be 2 (n.setWidth 64))) (fun w hm => row_own 0 rfl hm) bvs_one (by unfold maxLen; omega) (by show (_ + _) * 1 ≤ _; omega) (fun _ _ _ => Gives.pick [1, 2] (by decide) rfl) ?_
  intro A' c'
  rw [← bvs_append, ← hle]
  repeat (first | refine wz ?_ | (refine wzb ?_; intro b_) | fail)
  exact bq_end (ret_none rfl) [_, _, _] (Gives.pick [1, 2, 3] (by decide) rfl) rfl ⟨_, _, rfl, rfl⟩
set_option maxHeartbeats 1000000 in
theorem writer_u64 (b bw off : Nat) (cs : List Value) (T : TypeId) (n : BitVec 64) (A : Option Addr) (c : Nat) (l : List B8) (hv : cs[off]? = some (.int .u64 n.toNat)) (hl : l.length ≤ 1000000) :
    Fn Tryz.prog 219 [.pointer (some ⟨bw, 0, none⟩), .pointer (some ⟨b, off, none⟩)] [.blk b cs T, .blk bw [.slice A l.length c] 131, .own A l.length c 5 1 (bvs l)] (b :: bw :: (A.map (·.block)).toList) (Wrote b bw cs T (l ++ be 8 n)) := by
  have hle : (l ++ be 8 n).length = l.length + 8 := by rw [List.length_append]; first | rw [be_len] | rw [one_len]
  refine fn_enter Tryz.func219 rfl rfl (by kernel_rfl) rfl ?_
  intro w0
  refine cx_drawZ 12 [8, 9] [.blk b cs T, .blk bw [.slice A l.length c] 131] rfl (by kernel_rfl) (by kernel_rfl) (Gives.pick [0, 1] (by decide) rfl) ?_
  repeat (first | ((first | (apply lx_u; exact rfl) | (apply lx_g; exact rfl; exact rfl)); first | (apply isy_load; exact q_lv 0 rfl rfl rfl rfl hv) | fail) | (refine isx_call ?_; (refine lx_call0 (put64_fn n) (fun _ hm => in_nil hm) rfl rfl rfl rfl rfl rfl rfl rfl ?_; rintro v_ Lo_ ⟨A_, c_, rfl, rfl⟩)) | refine wz ?_ | (refine wzb ?_; intro b_) | fail)
  refine lx_append (E := EV) 3 rfl rfl rfl rfl rfl rfl rfl rfl rfl rfl rfl rfl rfl (news := bvs (be 8 n)) (fun w hm => row_own 0 rfl hm) bvs_one (by unfold maxLen; omega) (by show (_ + _) * 1 ≤ _; omega) (fun _ _ _ => Gives.pick [1, 2] (by decide) rfl) ?_
  intro A' c'
  rw [← bvs_append, ← hle]
  repeat (first | refine wz ?_ | (refine wzb ?_; intro b_) | fail)
  exact bq_end (ret_none rfl) [_, _, _] (Gives.pick [1, 2, 3] (by decide) rfl) rfl ⟨_, _, rfl, rfl⟩
set_option maxHeartbeats 1000000 in
theorem writer_whole (b bw off : Nat) (cs : List Value) (T : TypeId) (n : Int) (A : Option Addr) (c : Nat) (l : List B8) (hv : cs[off]? = some (.int .i64 n)) (hl : l.length ≤ 1000000) :
    Fn Tryz.prog 221 [.pointer (some ⟨bw, 0, none⟩), .pointer (some ⟨b, off, none⟩)] [.blk b cs T, .blk bw [.slice A l.length c] 131, .own A l.length c 5 1 (bvs l)] (b :: bw :: (A.map (·.block)).toList) (Wrote b bw cs T (l ++ be 8 (BitVec.ofInt 64 n))) := by
  have hle : (l ++ be 8 (BitVec.ofInt 64 n)).length = l.length + 8 := by rw [List.length_append]; first | rw [be_len] | rw [one_len]
  refine fn_enter Tryz.func221 rfl rfl (by kernel_rfl) rfl ?_
  intro w0
  refine cx_drawZ 12 [8, 9] [.blk b cs T, .blk bw [.slice A l.length c] 131] rfl (by kernel_rfl) (by kernel_rfl) (Gives.pick [0, 1] (by decide) rfl) ?_
  repeat (first | ((first | (apply lx_u; exact rfl) | (apply lx_g; exact rfl; exact rfl)); first | (apply isy_load; exact q_lv 0 rfl rfl rfl rfl hv) | fail) | (refine isx_call ?_; (refine lx_call0 (putInt_fn n) (fun _ hm => in_nil hm) rfl rfl rfl rfl rfl rfl rfl rfl ?_; rintro v_ Lo_ ⟨A_, c_, rfl, rfl⟩)) | refine wz ?_ | (refine wzb ?_; intro b_) | fail)
  refine lx_append (E := EV) 3 rfl rfl rfl rfl rfl rfl rfl rfl rfl rfl rfl rfl rfl (news := bvs (be 8 (BitVec.ofInt 64 n))) (fun w hm => row_own 0 rfl hm) bvs_one (by unfold maxLen; omega) (by show (_ + _) * 1 ≤ _; omega) (fun _ _ _ => Gives.pick [1, 2] (by decide) rfl) ?_
  intro A' c'
  rw [← bvs_append, ← hle]
  repeat (first | refine wz ?_ | (refine wzb ?_; intro b_) | fail)
  exact bq_end (ret_none rfl) [_, _, _] (Gives.pick [1, 2, 3] (by decide) rfl) rfl ⟨_, _, rfl, rfl⟩

set_option maxHeartbeats 1000000 in
theorem writer_text (b bw off : Nat) (cs : List Value) (T : TypeId) (u : List B8) (A : Option Addr) (c : Nat) (l : List B8) (hv : cs[off]? = some (.string (sb u))) (hu : u.length ≤ 32) (hl : l.length ≤ 1000000) :
    Fn Tryz.prog 217 [.pointer (some ⟨bw, 0, none⟩), .pointer (some ⟨b, off, none⟩)] [.blk b cs T, .blk bw [.slice A l.length c] 131, .own A l.length c 5 1 (bvs l)] (b :: bw :: (A.map (·.block)).toList) (Wrote b bw cs T (l ++ txt u)) := by
  have hle : (l ++ txt u).length = l.length + (2 + u.length) := by rw [List.length_append, txt_len]
  refine fn_enter Tryz.func217 rfl rfl (by kernel_rfl) rfl ?_
  intro w0
  repeat (first | ((first | (apply lx_u; exact rfl) | (apply lx_g; exact rfl; exact rfl)); first | (apply isy_load; exact q_lv 0 rfl rfl rfl rfl hv) | fail) | (refine isx_call ?_; (refine isx_call ?_; refine lx_call0 (putText_fn u (by omega)) (fun _ hm => in_nil hm) rfl rfl rfl rfl rfl rfl rfl rfl ?_; rintro v_ Lo_ ⟨A1, c1, rfl, rfl⟩)) | refine wz ?_ | (refine wzb ?_; intro b_) | fail)
  refine lx_append (E := EV) 3 rfl rfl rfl rfl rfl rfl rfl rfl rfl rfl rfl rfl rfl (news := bvs (txt u)) (fun w hm => row_own 0 rfl hm) bvs_one (by unfold maxLen; omega) (by show (_ + _) * 1 ≤ _; omega) (fun _ _ _ => trivial) ?_
  intro A' c'
  rw [← bvs_append, ← hle]
  repeat (first | (refine isx_store ?_; refine gS 2 rfl rfl rfl rfl rfl rfl rfl rfl rfl rfl ?_) | refine wz ?_ | (refine wzb ?_; intro b_) | fail)
  exact bq_end (ret_none rfl) [_, _, _] (Gives.pick [1, 2, 3] (by decide) rfl) rfl ⟨_, _, rfl, rfl⟩

theorem allD_w {b bw : Nat} {A : Option Addr} {cs cs2 : List Value} {T T2 T3 : TypeId} {n c sz : Nat} {xs : List Value} : AllD (b :: bw :: (A.map (·.block)).toList) [.blk b cs T, .blk bw cs2 T2, .own A n c T3 sz xs] :=
  ⟨List.mem_cons_self .., List.mem_cons_of_mem _ (List.mem_cons_self ..), fun _ hx => List.mem_cons_of_mem _ (List.mem_cons_of_mem _ (Option.mem_toList.2 hx)), trivial⟩
theorem onD_w {b bw : Nat} {A : Option Addr} {cs cs2 : List Value} {T T2 T3 : TypeId} {n c sz : Nat} {xs : List Value} : ∀ x ∈ (b :: bw :: (A.map (·.block)).toList), ∃ k ∈ [Ck.blk b cs T, .blk bw cs2 T2, .own A n c T3 sz xs], k.mut_ = true ∧ k.on x := fun x hx => by
  rcases List.mem_cons.1 hx with rfl | hx
  · exact ⟨_, List.mem_cons_self .., rfl, rfl⟩
  · rcases List.mem_cons.1 hx with rfl | hx
    · exact ⟨_, List.mem_cons_of_mem _ (List.mem_cons_self ..), rfl, rfl⟩
    · exact ⟨_, List.mem_cons_of_mem _ (List.mem_cons_of_mem _ (List.mem_cons_self ..)), rfl, Option.mem_toList.1 hx⟩
theorem flat_take {α β : Type} {f : α → List β} {l : List α} {i : Nat} {q : α} (h : l[i]? = some q) : (l.take (i + 1)).flatMap f = (l.take i).flatMap f ++ f q := by
  rw [List.take_add_one, h, List.flatMap_append]
  simp

set_option maxHeartbeats 16000000 in
theorem visit_writer (b bw : Nat) (r : RQ) (h : r.k.toNat ≤ 8) (hky : r.ky.length ≤ 32) (hto : r.to_.length ≤ 32) (A : Option Addr) (c : Nat) (l : List B8) (hl : l.length = 5) : Fn Tryz.prog 47 [.pointer (some ⟨b, 0, none⟩), .iface 126 (.pointer (some ⟨bw, 0, none⟩))]
    [.blk b r.cells 52, .blk bw [.slice A l.length c] 131, .own A l.length c 5 1 (bvs l)] (b :: bw :: (A.map (·.block)).toList) (Wrote b bw r.cells 52 (l ++ (pts r.k).flatMap r.encP)) := by
  have hnl := names_len r.k
  have hp := parts_fn r.k h
  have hp3 := pts_len r.k
  refine fn_enter Tryz.func47 rfl rfl (by kernel_rfl) rfl ?_
  intro w0
  repeat (first | (refine isx_call ?_; refine k_gcall (hp) (fun _ hm => in_nil hm) rfl rfl rfl rfl rfl rfl ?_) | (refine isx_range ?_; refine lx_range (E := EV) rfl rfl rfl rfl rfl rfl rfl (fun _ _ => trivial) ?_; intro bi) | refine wz ?_ | (refine wzb ?_; intro b_) | fail)
  refine cx_loop (α := { x : (Nat × List B8) × Option Addr × Nat // x.1.1 ≤ (pts r.k).length ∧ x.1.2 = l ++ ((pts r.k).take x.1.1).flatMap r.encP ∧ x.1.2.length ≤ 5 + 85 * x.1.1 }) (fun x => [(0, none, .pointer (some ⟨b, 0, none⟩)), (1, none, .iface 126 (.pointer (some ⟨bw, 0, none⟩))), (11, none, .pointer (some ⟨bi, 0, none⟩))])
    (fun x => [.obj bi (.stringIter (sb (names r.k)) x.1.1.1), .blk b r.cells 52, .blk bw [.slice x.1.2.1 x.1.1.2.length x.1.2.2] 131, .own x.1.2.1 x.1.1.2.length x.1.2.2 5 1 (bvs x.1.1.2)]) (fun x => (pts r.k).length - x.1.1.1) ⟨((0, l), A, c), Nat.zero_le _, by simp, by dsimp only; omega⟩ ⟨rfl, rfl, rfl, trivial⟩ (Gives.refl _) ?_
  rintro ⟨⟨⟨i, l1⟩, Ar, cr⟩, hi, hl1, hb1⟩
  dsimp only at hi hl1 hb1 ⊢
  by_cases hlt : i < (pts r.k).length
  · obtain ⟨q, hq⟩ : ∃ q, (pts r.k)[i]? = some q := ⟨_, List.getElem?_eq_getElem hlt⟩
    have hx := dec_ascii (names_get hq) (ltr_lt q)
    have hsz : i < (sb (names r.k)).size := by rw [sb_size, hnl]; exact hlt
    have hnx : l ++ ((pts r.k).take (i + 1)).flatMap r.encP = l1 ++ r.encP q := by rw [flat_take hq, ← List.append_assoc, hl1]
    have hnb : (l1 ++ r.encP q).length ≤ 5 + 85 * (i + 1) := by have := encP_len r hky hto q; rw [List.length_append]; omega
    have hln : i ≤ 3 := by omega
    repeat (first | (refine isx_next ?_; refine lx_next 0 rfl rfl rfl rfl rfl rfl rfl hsz hx (fun _ => trivial) ?_) | refine wz ?_ | (refine wzb ?_; intro b_) | fail)
    refine cx_cond rfl (fun _ => ?_) (fun h => absurd h (by decide))
    cases q
    · skip
      repeat (first | refine wz ?_ | (refine wzb ?_; intro b_) | fail)
      refine cx_cond rfl (fun _ => ?_) (fun h => absurd h (by decide))
      repeat (first | refine wz ?_ | (refine wzb ?_; intro b_) | fail)
      refine cx_draw [7] [] rfl (by kernel_rfl) (Gives.nil _) ?_
      repeat (first | ((first | (apply lx_u; exact rfl) | (apply lx_g; exact rfl; exact rfl)); first | exact yl_makeMeth rfl rfl (by (repeat (first | exact trivial | refine And.intro ?_ ?_ | exact fun _ => rfl | exact fun h => h | exact fun h => (Bool.and_eq_true_iff.1 h).1)); done) (by (repeat (first | exact trivial | refine And.intro ?_ ?_ | exact fun _ => rfl | exact fun h => h | exact fun h => (Bool.and_eq_true_iff.1 h).1)); done) | exact yl_nilMeth rfl (wn_u64 _) (by first | exact fun _ => rfl | exact fun h => h | exact fun h => (Bool.and_eq_true_iff.1 h).1) | fail) | (refine isx_icall ?_; refine k_icall (writer_u64 b bw 4 r.cells _ r.at_ Ar cr l1 rfl (by have := hln; have := hb1; omega)) (wm_u64 bw _) [1, 2, 3] [1, 2, 3] [0] rfl rfl rfl rfl rfl rfl rfl ?_ (hgs := fun Lo _ => (Gives.right Lo _).trans (Gives.pick [] (by decide) rfl)) (hin := allD_w) (hD := onD_w); rintro v_ Lo_ ⟨A2, c2, rfl, rfl⟩) | refine wz ?_ | (refine wzb ?_; intro b_) | fail)
      exact ⟨⟨((i + 1, l1 ++ be 8 r.at_), A2, c2), hlt, hnx.symm, hnb⟩, ⟨rfl, rfl, rfl, trivial⟩, Gives.pick [3, 0, 1, 2] (by decide) rfl, by dsimp only; omega⟩
    · skip
      repeat (first | refine wz ?_ | (refine wzb ?_; intro b_) | fail)
      refine cx_cond rfl (fun h => absurd h (by decide)) (fun _ => ?_)
      repeat (first | refine wz ?_ | (refine wzb ?_; intro b_) | fail)
      refine cx_cond rfl (fun _ => ?_) (fun h => absurd h (by decide))
      repeat (first | refine wz ?_ | (refine wzb ?_; intro b_) | fail)
      refine cx_draw [7] [] rfl (by kernel_rfl) (Gives.nil _) ?_
      repeat (first | ((first | (apply lx_u; exact rfl) | (apply lx_g; exact rfl; exact rfl)); first | exact yl_makeMeth rfl rfl (by (repeat (first | exact trivial | refine And.intro ?_ ?_ | exact fun _ => rfl | exact fun h => h | exact fun h => (Bool.and_eq_true_iff.1 h).1)); done) (by (repeat (first | exact trivial | refine And.intro ?_ ?_ | exact fun _ => rfl | exact fun h => h | exact fun h => (Bool.and_eq_true_iff.1 h).1)); done) | exact yl_nilMeth rfl (wn_u64 _) (by first | exact fun _ => rfl | exact fun h => h | exact fun h => (Bool.and_eq_true_iff.1 h).1) | fail) | (refine isx_icall ?_; refine k_icall (writer_u64 b bw 5 r.cells _ r.le Ar cr l1 rfl (by have := hln; have := hb1; omega)) (wm_u64 bw _) [1, 2, 3] [1, 2, 3] [0] rfl rfl rfl rfl rfl rfl rfl ?_ (hgs := fun Lo _ => (Gives.right Lo _).trans (Gives.pick [] (by decide) rfl)) (hin := allD_w) (hD := onD_w); rintro v_ Lo_ ⟨A2, c2, rfl, rfl⟩) | refine wz ?_ | (refine wzb ?_; intro b_) | fail)
      exact ⟨⟨((i + 1, l1 ++ be 8 r.le), A2, c2), hlt, hnx.symm, hnb⟩, ⟨rfl, rfl, rfl, trivial⟩, Gives.pick [3, 0, 1, 2] (by decide) rfl, by dsimp only; omega⟩
    · skip
      repeat (first | refine wz ?_ | (refine wzb ?_; intro b_) | fail)
      refine cx_cond rfl (fun h => absurd h (by decide)) (fun _ => ?_)
      repeat (first | refine wz ?_ | (refine wzb ?_; intro b_) | fail)
      refine cx_cond rfl (fun h => absurd h (by decide)) (fun _ => ?_)
      repeat (first | refine wz ?_ | (refine wzb ?_; intro b_) | fail)
      refine cx_cond rfl (fun _ => ?_) (fun h => absurd h (by decide))
      repeat (first | refine wz ?_ | (refine wzb ?_; intro b_) | fail)
      refine cx_draw [7] [] rfl (by kernel_rfl) (Gives.nil _) ?_
      repeat (first | ((first | (apply lx_u; exact rfl) | (apply lx_g; exact rfl; exact rfl)); first | exact yl_makeMeth rfl rfl (by (repeat (first | exact trivial | refine And.intro ?_ ?_ | exact fun _ => rfl | exact fun h => h | exact fun h => (Bool.and_eq_true_iff.1 h).1)); done) (by (repeat (first | exact trivial | refine And.intro ?_ ?_ | exact fun _ => rfl | exact fun h => h | exact fun h => (Bool.and_eq_true_iff.1 h).1)); done) | exact yl_nilMeth rfl (wn_u8 _) (by first | exact fun _ => rfl | exact fun h => h | exact fun h => (Bool.and_eq_true_iff.1 h).1) | fail) | (refine isx_icall ?_; refine k_icall (writer_u8 b bw 2 r.cells _ r.pg Ar cr l1 rfl (by have := hln; have := hb1; omega)) (wm_u8 bw _) [1, 2, 3] [1, 2, 3] [0] rfl rfl rfl rfl rfl rfl rfl ?_ (hgs := fun Lo _ => (Gives.right Lo _).trans (Gives.pick [] (by decide) rfl)) (hin := allD_w) (hD := onD_w); rintro v_ Lo_ ⟨A2, c2, rfl, rfl⟩) | refine wz ?_ | (refine wzb ?_; intro b_) | fail)
      exact ⟨⟨((i + 1, l1 ++ [r.pg]), A2, c2), hlt, hnx.symm, hnb⟩, ⟨rfl, rfl, rfl, trivial⟩, Gives.pick [3, 0, 1, 2] (by decide) rfl, by dsimp only; omega⟩
    · skip
      repeat (first | refine wz ?_ | (refine wzb ?_; intro b_) | fail)
      refine cx_cond rfl (fun h => absurd h (by decide)) (fun _ => ?_)
      repeat (first | refine wz ?_ | (refine wzb ?_; intro b_) | fail)
      refine cx_cond rfl (fun h => absurd h (by decide)) (fun _ => ?_)
      repeat (first | refine wz ?_ | (refine wzb ?_; intro b_) | fail)
      refine cx_cond rfl (fun h => absurd h (by decide)) (fun _ => ?_)
      repeat (first | refine wz ?_ | (refine wzb ?_; intro b_) | fail)
      refine cx_cond rfl (fun _ => ?_) (fun h => absurd h (by decide))
      repeat (first | refine wz ?_ | (refine wzb ?_; intro b_) | fail)
      refine cx_draw [7] [] rfl (by kernel_rfl) (Gives.nil _) ?_
      repeat (first | ((first | (apply lx_u; exact rfl) | (apply lx_g; exact rfl; exact rfl)); first | exact yl_makeMeth rfl rfl (by (repeat (first | exact trivial | refine And.intro ?_ ?_ | exact fun _ => rfl | exact fun h => h | exact fun h => (Bool.and_eq_true_iff.1 h).1)); done) (by (repeat (first | exact trivial | refine And.intro ?_ ?_ | exact fun _ => rfl | exact fun h => h | exact fun h => (Bool.and_eq_true_iff.1 h).1)); done) | exact yl_nilMeth rfl (wn_u16 _) (by first | exact fun _ => rfl | exact fun h => h | exact fun h => (Bool.and_eq_true_iff.1 h).1) | fail) | (refine isx_icall ?_; refine k_icall (writer_u16 b bw 3 r.cells _ r.du Ar cr l1 rfl (by have := hln; have := hb1; omega)) (wm_u16 bw _) [1, 2, 3] [1, 2, 3] [0] rfl rfl rfl rfl rfl rfl rfl ?_ (hgs := fun Lo _ => (Gives.right Lo _).trans (Gives.pick [] (by decide) rfl)) (hin := allD_w) (hD := onD_w); rintro v_ Lo_ ⟨A2, c2, rfl, rfl⟩) | refine wz ?_ | (refine wzb ?_; intro b_) | fail)
      exact ⟨⟨((i + 1, l1 ++ be 2 (r.du.setWidth 64)), A2, c2), hlt, hnx.symm, hnb⟩, ⟨rfl, rfl, rfl, trivial⟩, Gives.pick [3, 0, 1, 2] (by decide) rfl, by dsimp only; omega⟩
    · skip
      repeat (first | refine wz ?_ | (refine wzb ?_; intro b_) | fail)
      refine cx_cond rfl (fun h => absurd h (by decide)) (fun _ => ?_)
      repeat (first | refine wz ?_ | (refine wzb ?_; intro b_) | fail)
      refine cx_cond rfl (fun h => absurd h (by decide)) (fun _ => ?_)
      repeat (first | refine wz ?_ | (refine wzb ?_; intro b_) | fail)
      refine cx_cond rfl (fun h => absurd h (by decide)) (fun _ => ?_)
      repeat (first | refine wz ?_ | (refine wzb ?_; intro b_) | fail)
      refine cx_cond rfl (fun h => absurd h (by decide)) (fun _ => ?_)
      repeat (first | refine wz ?_ | (refine wzb ?_; intro b_) | fail)
      refine cx_cond rfl (fun _ => ?_) (fun h => absurd h (by decide))
      repeat (first | refine wz ?_ | (refine wzb ?_; intro b_) | fail)
      have g1 := be_len
      have g2 := txt_len
      refine cx_draw [7] [] rfl (by kernel_rfl) (Gives.nil _) ?_
      repeat (first | ((first | (apply lx_u; exact rfl) | (apply lx_g; exact rfl; exact rfl)); first | exact yl_makeMeth rfl rfl (by (repeat (first | exact trivial | refine And.intro ?_ ?_ | exact fun _ => rfl | exact fun h => h | exact fun h => (Bool.and_eq_true_iff.1 h).1)); done) (by (repeat (first | exact trivial | refine And.intro ?_ ?_ | exact fun _ => rfl | exact fun h => h | exact fun h => (Bool.and_eq_true_iff.1 h).1)); done) | exact yl_nilMeth rfl (wn_u8 _) (by first | exact fun _ => rfl | exact fun h => h | exact fun h => (Bool.and_eq_true_iff.1 h).1) | fail) | (refine isx_icall ?_; refine k_icall (writer_u8 b bw 6 r.cells _ r.so Ar cr l1 rfl (by have := hln; have := hb1; omega)) (wm_u8 bw _) [1, 2, 3] [1, 2, 3] [0] rfl rfl rfl rfl rfl rfl rfl ?_ (hgs := fun Lo _ => (Gives.right Lo _).trans (Gives.pick [] (by decide) rfl)) (hin := allD_w) (hD := onD_w); rintro v_ Lo_ ⟨A2, c2, rfl, rfl⟩) | refine wz ?_ | (refine wzb ?_; intro b_) | fail)
      refine cx_draw [7] [] rfl (by kernel_rfl) (Gives.nil _) ?_
      repeat (first | ((first | (apply lx_u; exact rfl) | (apply lx_g; exact rfl; exact rfl)); first | exact yl_makeMeth rfl rfl (by (repeat (first | exact trivial | refine And.intro ?_ ?_ | exact fun _ => rfl | exact fun h => h | exact fun h => (Bool.and_eq_true_iff.1 h).1)); done) (by (repeat (first | exact trivial | refine And.intro ?_ ?_ | exact fun _ => rfl | exact fun h => h | exact fun h => (Bool.and_eq_true_iff.1 h).1)); done) | exact yl_nilMeth rfl (wn_text _) (by first | exact fun _ => rfl | exact fun h => h | exact fun h => (Bool.and_eq_true_iff.1 h).1) | fail) | (refine isx_icall ?_; refine k_icall (writer_text b bw 7 r.cells _ r.ky _ _ (l1 ++ [r.so]) rfl hky (by have := hln; have := hb1; simp only [List.length_append, be_len, txt_len, List.length_cons, List.length_nil]; omega)) (wm_text bw _) [0, 1, 2] [0, 1, 2] [3] rfl rfl rfl rfl rfl rfl rfl ?_ (hgs := fun Lo _ => (Gives.right Lo _).trans (Gives.pick [] (by decide) rfl)) (hin := allD_w) (hD := onD_w); rintro v_ Lo_ ⟨A2, c2, rfl, rfl⟩) | refine wz ?_ | (refine wzb ?_; intro b_) | fail)
      refine cx_draw [7] [] rfl (by kernel_rfl) (Gives.nil _) ?_
      repeat (first | ((first | (apply lx_u; exact rfl) | (apply lx_g; exact rfl; exact rfl)); first | exact yl_makeMeth rfl rfl (by (repeat (first | exact trivial | refine And.intro ?_ ?_ | exact fun _ => rfl | exact fun h => h | exact fun h => (Bool.and_eq_true_iff.1 h).1)); done) (by (repeat (first | exact trivial | refine And.intro ?_ ?_ | exact fun _ => rfl | exact fun h => h | exact fun h => (Bool.and_eq_true_iff.1 h).1)); done) | exact yl_nilMeth rfl (wn_text _) (by first | exact fun _ => rfl | exact fun h => h | exact fun h => (Bool.and_eq_true_iff.1 h).1) | fail) | (refine isx_icall ?_; refine k_icall (writer_text b bw 8 r.cells _ r.to_ _ _ (l1 ++ [r.so] ++ txt r.ky) rfl hto (by have := hln; have := hb1; simp only [List.length_append, be_len, txt_len, List.length_cons, List.length_nil]; omega)) (wm_text bw _) [0, 1, 2] [0, 1, 2] [3] rfl rfl rfl rfl rfl rfl rfl ?_ (hgs := fun Lo _ => (Gives.right Lo _).trans (Gives.pick [] (by decide) rfl)) (hin := allD_w) (hD := onD_w); rintro v_ Lo_ ⟨A2, c2, rfl, rfl⟩) | refine wz ?_ | (refine wzb ?_; intro b_) | fail)
      refine cx_draw [7] [] rfl (by kernel_rfl) (Gives.nil _) ?_
      repeat (first | ((first | (apply lx_u; exact rfl) | (apply lx_g; exact rfl; exact rfl)); first | exact yl_makeMeth rfl rfl (by (repeat (first | exact trivial | refine And.intro ?_ ?_ | exact fun _ => rfl | exact fun h => h | exact fun h => (Bool.and_eq_true_iff.1 h).1)); done) (by (repeat (first | exact trivial | refine And.intro ?_ ?_ | exact fun _ => rfl | exact fun h => h | exact fun h => (Bool.and_eq_true_iff.1 h).1)); done) | exact yl_nilMeth rfl (wn_whole _) (by first | exact fun _ => rfl | exact fun h => h | exact fun h => (Bool.and_eq_true_iff.1 h).1) | fail) | (refine isx_icall ?_; refine k_icall (writer_whole b bw 9 r.cells _ r.ls _ _ (l1 ++ [r.so] ++ txt r.ky ++ txt r.to_) rfl (by have := hln; have := hb1; simp only [List.length_append, be_len, txt_len, List.length_cons, List.length_nil]; omega)) (wm_whole bw _) [0, 1, 2] [0, 1, 2] [3] rfl rfl rfl rfl rfl rfl rfl ?_ (hgs := fun Lo _ => (Gives.right Lo _).trans (Gives.pick [] (by decide) rfl)) (hin := allD_w) (hD := onD_w); rintro v_ Lo_ ⟨A2, c2, rfl, rfl⟩) | refine wz ?_ | (refine wzb ?_; intro b_) | fail)
      refine cx_draw [7] [] rfl (by kernel_rfl) (Gives.nil _) ?_
      repeat (first | ((first | (apply lx_u; exact rfl) | (apply lx_g; exact rfl; exact rfl)); first | exact yl_makeMeth rfl rfl (by (repeat (first | exact trivial | refine And.intro ?_ ?_ | exact fun _ => rfl | exact fun h => h | exact fun h => (Bool.and_eq_true_iff.1 h).1)); done) (by (repeat (first | exact trivial | refine And.intro ?_ ?_ | exact fun _ => rfl | exact fun h => h | exact fun h => (Bool.and_eq_true_iff.1 h).1)); done) | exact yl_nilMeth rfl (wn_whole _) (by first | exact fun _ => rfl | exact fun h => h | exact fun h => (Bool.and_eq_true_iff.1 h).1) | fail) | (refine isx_icall ?_; refine k_icall (writer_whole b bw 10 r.cells _ r.ms _ _ (l1 ++ [r.so] ++ txt r.ky ++ txt r.to_ ++ be 8 (BitVec.ofInt 64 r.ls)) rfl (by have := hln; have := hb1; simp only [List.length_append, be_len, txt_len, List.length_cons, List.length_nil]; omega)) (wm_whole bw _) [0, 1, 2] [0, 1, 2] [3] rfl rfl rfl rfl rfl rfl rfl ?_ (hgs := fun Lo _ => (Gives.right Lo _).trans (Gives.pick [] (by decide) rfl)) (hin := allD_w) (hD := onD_w); rintro v_ Lo_ ⟨A2, c2, rfl, rfl⟩) | refine wz ?_ | (refine wzb ?_; intro b_) | fail)
      have hw : l1 ++ [r.so] ++ txt r.ky ++ txt r.to_ ++ be 8 (BitVec.ofInt 64 r.ls) ++ be 8 (BitVec.ofInt 64 r.ms) = l1 ++ r.encP .w := by simp only [RQ.encP, List.append_assoc]
      exact ⟨⟨((i + 1, l1 ++ [r.so] ++ txt r.ky ++ txt r.to_ ++ be 8 (BitVec.ofInt 64 r.ls) ++ be 8 (BitVec.ofInt 64 r.ms)), A2, c2), hlt, by rw [hw]; exact hnx.symm, by rw [hw]; exact hnb⟩, ⟨rfl, rfl, rfl, trivial⟩, Gives.pick [3, 0, 1, 2] (by decide) rfl, by dsimp only; omega⟩
  · obtain rfl : i = (pts r.k).length := by omega
    have hsz : ¬ (pts r.k).length < (sb (names r.k)).size := by rw [sb_size, hnl]; exact Nat.lt_irrefl _
    rw [List.take_length] at hl1
    rw [← hl1]
    repeat (first | (refine isx_next ?_; refine lx_nextEnd 0 rfl rfl rfl rfl rfl rfl rfl hsz ?_) | refine wz ?_ | (refine wzb ?_; intro b_) | fail)
    refine cx_cond rfl (fun h => absurd h (by decide)) (fun _ => ?_)
    repeat (first | refine wz ?_ | (refine wzb ?_; intro b_) | fail)
    exact bq_end (ret_none rfl) [_, _, _] (Gives.pick [1, 2, 3] (by decide) rfl) rfl ⟨_, _, rfl, rfl⟩

end Go.Proofs.YtmochicneilhhaaGreat.rq
namespace Go.Proofs.YtmochicneilhhaaGreat.rq
open Go.RowKit Go.Proofs.YtmochicneilhhaaGreat.kit Go.Proofs.YtmochicneilhhaaGreat.pk
def putQ (r : RQ) : List B8 × Int := if r.right then (r.enc, 0) else ([], 81)
def Packed (r : RQ) (v : Value) (Lo : List Ck) : Prop := ∃ A c, v = .tuple #[.slice A (putQ r).1.length c, .int .i64 (putQ r).2] ∧ Lo = [.own A (putQ r).1.length c 5 1 (bvs (putQ r).1)]
theorem right_known {r : RQ} (h : r.right = true) : known r.k = true ∧ r.k.toNat ≤ 8 := by
  have hk := ((right_iff r).1 h).1
  refine ⟨hk, ?_⟩
  simp only [known, Bool.and_eq_true, decide_eq_true_eq] at hk
  exact hk.2
/-- the texts of a right one -/
theorem right_texts {r : RQ} (h : r.right = true) : r.ky.length ≤ 32 ∧ r.to_.length ≤ 32 := by
  obtain ⟨_, _, _, h4, h5⟩ := (right_iff r).1 h
  have e := (RQ.eqB_iff _ _).1 h5
  cases hw : has r.k .w with
  | true =>
    rw [hw, Bool.true_and, Bool.not_eq_false'] at h4
    exact RQ.which_len h4
  | false =>
    have e1 := congrArg RQ.ky e
    have e2 := congrArg RQ.to_ e
    simp only [RQ.only, hw] at e1 e2
    rw [← e1, ← e2]
    exact ⟨Nat.zero_le _, Nat.zero_le _⟩

theorem joinB_fn (b : Nat) (n : Nat) (rs : List Rw) (l : List B8) (hl : rs.length = n) (hn : n ≤ 9223372036854775807) (hcat : cat rs = l) (hm : l.length ≤ 70368744177664) : Fn Tryz.prog 76 [.slice (some ⟨b, 0, none⟩) n n] [.rows (some ⟨b, 0, none⟩) n rs] [] fun v Lo => ∃ A' c', v = .slice A' l.length c' ∧ Lo = [.own A' l.length c' 5 1 (bvs l)] := by
  subst hcat
  exact join_fn _ n n rs hl hn hm

attribute [local irreducible] LX CX Yl Gives RetIs Fn
attribute [local irreducible] be

set_option maxHeartbeats 4000000 in
theorem put_fn (r : RQ) : Fn Tryz.prog 39 [r.val] [] [] (Packed r) := by
  have hr := right_fn r
  unfold Packed putQ
  cases hq : r.right with
  | false =>
    rw [hq] at hr
    refine fn_enter Tryz.func39 rfl rfl (by kernel_rfl) rfl ?_; intro w0
    repeat (first | (refine isx_call ?_; refine lx_gcallt (hr) (fun _ hm => in_nil hm) rfl rfl rfl rfl rfl rfl rfl ?_) | refine wzf ?_ | (refine wzb ?_; intro b_) | fail)
    refine cx_cond rfl (fun _ => ?_) (fun h => absurd h (by decide))
    repeat (first | refine wzf ?_ | (refine wzb ?_; intro b_) | fail)
    exact bq_ret (ret_tmp2 rfl rfl rfl) [_] ((Gives.nil _).trans (Gives.nilown [] _ _)) rfl ⟨none, 0, rfl, rfl⟩
  | true =>
    rw [hq] at hr
    obtain ⟨_, hk8⟩ := right_known hq
    obtain ⟨hky, hto⟩ := right_texts hq
    have hhl := hd_len r
    have hcat : cat [⟨none, 1, 1, [r.k]⟩, ⟨none, 4, 4, be 4 (r.id.setWidth 64)⟩] = r.hd := by simp only [cat, List.flatMap_cons, List.flatMap_nil, List.append_nil]; rfl
    have he : r.enc = r.hd ++ (pts r.k).flatMap r.encP := rfl
    rw [if_pos rfl]
    dsimp only
    rw [he]
    generalize r.hd = hd0 at hhl hcat
    have hv := fun b bw A c => visit_writer b bw r hk8 hky hto A c hd0 hhl
    refine fn_enter Tryz.func39 rfl rfl (by kernel_rfl) rfl ?_; intro w0
    repeat (first | (refine isx_call ?_; refine lx_gcallt (hr) (fun _ hm => in_nil hm) rfl rfl rfl rfl rfl rfl rfl ?_) | refine wzf ?_ | (refine wzb ?_; intro b_) | fail)
    refine cx_cond rfl (fun h => absurd h (by decide)) (fun _ => ?_)
    repeat (first | refine wz ?_ | (refine wzb ?_; intro b_) | fail)
    refine cx_draw [2, 5, 6, 7, 9] [.blk b_ r.cells 52] rfl (by kernel_rfl) (Gives.refl _) ?_
    repeat (first | (refine isx_call ?_; (refine lx_call0 (put8q r.k) (fun _ hm => in_nil hm) rfl rfl rfl rfl rfl rfl rfl rfl ?_; rintro v_ Lo_ ⟨A_, c_, rfl, rfl⟩)) | (refine isx_call ?_; (refine isx_call ?_; refine lx_call0 (put32_fn r.id) (fun _ hm => in_nil hm) rfl rfl rfl rfl rfl rfl rfl rfl ?_; rintro v_ Lo_ ⟨A2, c2, rfl, rfl⟩)) | refine wz ?_ | (refine wzb ?_; intro b_) | fail)
    generalize A_ = A1
    generalize c_ = c1
    refine lx_fact (fun w hm => (⟨own_cap 2 hm rfl, own_cap 1 hm rfl⟩ : (1 ≤ c1 ∧ _) ∧ (4 ≤ c2 ∧ _))) fun ⟨k1, k2⟩ => ?_
    repeat (first | (refine isx_call ?_; (refine isx_call ?_; refine lx_call0 (joinB_fn _ 2 [⟨A1, 1, c1, [r.k]⟩, ⟨A2, 4, c2, be 4 (r.id.setWidth 64)⟩] hd0 rfl (by decide) hcat (by omega)) ((fun w hm => rows_blk 0 _ hm rfl rfl (List.forall_mem_cons.2 ⟨⟨row_own 2 rfl hm, k1⟩, List.forall_mem_cons.2 ⟨⟨row_own 1 rfl hm, k2⟩, List.forall_mem_nil _⟩⟩))) rfl rfl rfl rfl rfl rfl rfl rfl ?_; rintro v_ Lo_ ⟨A', c', rfl, rfl⟩)) | refine wz ?_ | (refine wzb ?_; intro b_) | fail)
    repeat (first | refine wz ?_ | (refine wzb ?_; intro b_) | fail)
    refine isx_call ?_
    refine k_call (hv _ _ _ _) [5, 0, 1] [5, 0, 1] [] rfl rfl rfl rfl rfl rfl rfl rfl ?_ (hin := allD_w) (hD := onD_w)
    rintro v_ Lo_ ⟨A3, c3, rfl, rfl⟩
    repeat (first | refine wz ?_ | (refine wzb ?_; intro b_) | fail)
    exact bq_ret (ret_tmp2 rfl rfl rfl) [_] (Gives.pick [2] (by decide) rfl) rfl ⟨_, _, rfl, rfl⟩

def panesQ (r : RQ) : List B8 := r.encP .w

set_option maxHeartbeats 4000000 in
theorem panes_fn (r : RQ) (hky : r.ky.length ≤ 32) (hto : r.to_.length ≤ 32) : Fn Tryz.prog 82 [r.val] [] [] fun v Lo => ∃ A c, v = .slice A (r.encP .w).length c ∧ Lo = [.own A (r.encP .w).length c 5 1 (bvs (r.encP .w))] := by
  have e : r.encP .w = [r.so] ++ txt r.ky ++ txt r.to_ ++ be 8 (BitVec.ofInt 64 r.ls) ++ be 8 (BitVec.ofInt 64 r.ms) := rfl
  have tl := txt_len
  rw [e]
  refine fn_enter Tryz.func82 rfl rfl (by kernel_rfl) rfl ?_
  intro w0
  repeat (first | refine wz ?_ | (refine wzb ?_; intro b_) | fail)
  refine lx_weak (Gives.blkown 0 (m := 1) (sz := 1) rfl rfl (by decide)) ?_
  repeat (first | (refine isx_call ?_; (refine isx_call ?_; refine lx_call0 (rText_fn r.ky (by omega)) (fun _ hm => in_nil hm) rfl rfl rfl rfl rfl rfl rfl rfl ?_; rintro v_ Lo_ ⟨Ak, ck, rfl, rfl⟩)) | refine wz ?_ | (refine wzb ?_; intro b_) | fail)
  repeat (first | (refine isx_call ?_; (refine isx_call ?_; refine lx_call0 (rText_fn r.to_ (by omega)) (fun _ hm => in_nil hm) rfl rfl rfl rfl rfl rfl rfl rfl ?_; rintro v_ Lo_ ⟨At, ct, rfl, rfl⟩)) | refine wz ?_ | (refine wzb ?_; intro b_) | fail)
  repeat (first | (refine isx_blt ?_; refine lx_appB (E := EV) 2 [r.so] (txt r.ky) rfl (tl _).symm rfl rfl rfl rfl rfl rfl rfl rfl rfl rfl rfl (fun _ hm => row_own 1 rfl hm) (by simp only [List.length_append, pk.be_len, pk.txt_len, List.length_cons, List.length_nil]; omega) (fun _ _ _ => trivial) ?_; intro A_ c_) | (refine isx_blt ?_; refine lx_appB (E := EV) 2 ([r.so] ++ txt r.ky) (txt r.to_) rfl (tl _).symm rfl rfl rfl rfl rfl rfl rfl rfl rfl rfl rfl (fun _ hm => row_own 0 rfl hm) (by simp only [List.length_append, pk.be_len, pk.txt_len, List.length_cons, List.length_nil]; omega) (fun _ _ _ => trivial) ?_; intro A_ c_) | refine wz ?_ | (refine wzb ?_; intro b_) | fail)
  repeat (first | (refine isx_call ?_; (refine isx_call ?_; refine lx_call0 (rInt_fn r.ls) (fun _ hm => in_nil hm) rfl rfl rfl rfl rfl rfl rfl rfl ?_; rintro v_ Lo_ ⟨A1, c1, rfl, rfl⟩)) | refine wz ?_ | (refine wzb ?_; intro b_) | fail)
  repeat (first | ((first | (apply lx_u; exact rfl) | (apply lx_g; exact rfl; exact rfl)); first | (apply isy_load; exact q_lr 4 rfl rfl rfl rfl rfl) | fail) | (refine isx_blt ?_; refine lx_appB (E := EV) 3 ([r.so] ++ txt r.ky ++ txt r.to_) (be 8 (BitVec.ofInt 64 r.ls)) rfl (be_len _ _).symm rfl rfl rfl rfl rfl rfl rfl rfl rfl rfl rfl (fun _ hm => row_own 0 rfl hm) (by simp only [List.length_append, pk.be_len, pk.txt_len, List.length_cons, List.length_nil]; omega) (fun _ _ _ => trivial) ?_; intro A_ c_) | refine wz ?_ | (refine wzb ?_; intro b_) | fail)
  repeat (first | (refine isx_call ?_; (refine isx_call ?_; refine lx_call0 (rInt_fn r.ms) (fun _ hm => in_nil hm) rfl rfl rfl rfl rfl rfl rfl rfl ?_; rintro v_ Lo_ ⟨A2, c2, rfl, rfl⟩)) | refine wz ?_ | (refine wzb ?_; intro b_) | fail)
  repeat (first | (refine isx_blt ?_; refine lx_appB (E := EV) 4 ([r.so] ++ txt r.ky ++ txt r.to_ ++ be 8 (BitVec.ofInt 64 r.ls)) (be 8 (BitVec.ofInt 64 r.ms)) rfl (be_len _ _).symm rfl rfl rfl rfl rfl rfl rfl rfl rfl rfl rfl (fun _ hm => row_own 0 rfl hm) (by simp only [List.length_append, pk.be_len, pk.txt_len, List.length_cons, List.length_nil]; omega) (fun _ _ _ => trivial) ?_; intro A_ c_) | refine wz ?_ | (refine wzb ?_; intro b_) | fail)
  exact bq_ret (ret_tmp rfl rfl) [_] (Gives.pick [4] (by decide) rfl) rfl ⟨_, _, rfl, rfl⟩


set_option maxHeartbeats 16000000 in
theorem rput_fn (r : RQ) : Fn Tryz.prog 41 [r.val] [] [] (Packed r) := by
  have hr := rright_fn r
  unfold Packed putQ
  cases hq : r.right with
  | false =>
    rw [hq] at hr
    refine fn_enter Tryz.func41 rfl rfl (by kernel_rfl) rfl ?_; intro w0
    repeat (first | (refine isx_call ?_; refine lx_gcallt (hr) (fun _ hm => in_nil hm) rfl rfl rfl rfl rfl rfl rfl ?_) | refine wzf ?_ | (refine wzb ?_; intro b_) | fail)
    refine cx_cond rfl (fun _ => ?_) (fun h => absurd h (by decide))
    repeat (first | refine wzf ?_ | (refine wzb ?_; intro b_) | fail)
    exact bq_ret (ret_tmp2 rfl rfl rfl) [_] ((Gives.nil _).trans (Gives.nilown [] _ _)) rfl ⟨none, 0, rfl, rfl⟩
  | true =>
    rw [hq] at hr
    obtain ⟨hk, _⟩ := right_known hq
    obtain ⟨hky, hto⟩ := right_texts hq
    have hpf := panes_fn r hky hto
    have hpl : (r.encP .w).length ≤ 85 := encP_len r hky hto .w
    have he : r.enc = r.hd ++ (pts r.k).flatMap r.encP := rfl
    rw [if_pos rfl]
    dsimp only
    rw [he]
    clear he hq
    generalize hPW : r.encP .w = PW at hpf hpl
    obtain ⟨k, id, pg, du, at_, le, so, ky, to_, ls, ms⟩ := r
    dsimp only at hk hky hto
    rcases known_cases hk with rfl | rfl | rfl | rfl | rfl | rfl | rfl | rfl
    · have he : RQ.hd (RQ.mk 1#8 id pg du at_ le so ky to_ ls ms) ++ (pts (RQ.k (RQ.mk 1#8 id pg du at_ le so ky to_ ls ms))).flatMap (RQ.encP (RQ.mk 1#8 id pg du at_ le so ky to_ ls ms)) = (((([1#8] ++ be 4 (id.setWidth 64)) ++ be 8 at_) ++ [pg]) ++ PW) := by
        show ([1#8] ++ be 4 (id.setWidth 64)) ++ (be 8 at_ ++ ([pg] ++ ((RQ.mk 1#8 id pg du at_ le so ky to_ ls ms).encP .w ++ []))) = _
        rw [hPW]; simp only [List.append_assoc, List.append_nil, List.cons_append, List.nil_append]
      rw [he]
      clear he
      refine fn_enter Tryz.func41 rfl rfl (by kernel_rfl) rfl ?_; intro w0
      repeat (first | (refine isx_call ?_; refine lx_gcallt (hr) (fun _ hm => in_nil hm) rfl rfl rfl rfl rfl rfl rfl ?_) | refine wzf ?_ | (refine wzb ?_; intro b_) | fail)
      refine cx_cond rfl (fun h => Bool.noConfusion (show false = true from h)) (fun _ => ?_)
      repeat (first | ((first | (apply lx_u; exact rfl) | (apply lx_g; exact rfl; exact rfl)); first | (apply isy_convert; exact q_cv uk64 id rfl rfl rfl rfl) | fail) | (refine isx_call ?_; (refine lx_call0 (rNumber_fn (id.setWidth 64) 4 (by decide)) (fun _ hm => in_nil hm) rfl rfl rfl rfl rfl rfl rfl rfl ?_; rintro v_ Lo_ ⟨A_, c_, rfl, rfl⟩)) | refine wz ?_ | (refine wzb ?_; intro b_) | fail)
      refine lx_weak (Gives.blkown 1 (m := 1) (sz := 1) rfl rfl (by decide)) ?_
      repeat (first | (refine isx_blt ?_; refine lx_appB (E := EV) 1 [1#8] (be 4 (id.setWidth 64)) rfl (be_len _ _).symm rfl rfl rfl rfl rfl rfl rfl rfl rfl rfl rfl (fun _ hm => row_own 0 rfl hm) (by simp only [List.length_append, pk.be_len, pk.txt_len, List.length_cons, List.length_nil]; omega) (fun _ _ _ => trivial) ?_; intro A_ c_) | refine wz ?_ | (refine wzb ?_; intro b_) | fail)
      generalize A_ = A0
      generalize c_ = c0
      rename_i b1 _ _ _
      refine cx_draw [2, 5] [.blk b1 (RQ.cells (RQ.mk 1#8 id pg du at_ le so ky to_ ls ms)) 53] rfl (by kernel_rfl) (Gives.pick [2] (by decide) rfl) ?_
      repeat (first | (refine isx_call ?_; (refine isx_call ?_; refine lx_call0 (rNumber_fn at_ 8 (by decide)) (fun _ hm => in_nil hm) rfl rfl rfl rfl rfl rfl rfl rfl ?_; rintro v_ Lo_ ⟨Aa, ca, rfl, rfl⟩)) | refine wz ?_ | (refine wzb ?_; intro b_) | fail)
      repeat (first | (refine isx_call ?_; (refine isx_call ?_; refine lx_call0 (rNumber_fn le 8 (by decide)) (fun _ hm => in_nil hm) rfl rfl rfl rfl rfl rfl rfl rfl ?_; rintro v_ Lo_ ⟨Al, cl, rfl, rfl⟩)) | refine wz ?_ | (refine wzb ?_; intro b_) | fail)
      repeat (first | ((first | (apply lx_u; exact rfl) | (apply lx_g; exact rfl; exact rfl)); first | (apply isy_convert; exact q_cv uk64 du rfl rfl rfl rfl) | (apply isy_load; exact q_lr 4 rfl rfl rfl rfl rfl) | (apply isy_load; exact q_lr 5 rfl rfl rfl rfl rfl) | fail) | (refine isx_call ?_; (refine isx_call ?_; refine lx_call0 (rNumber_fn (du.setWidth 64) 2 (by decide)) (fun _ hm => in_nil hm) rfl rfl rfl rfl rfl rfl rfl rfl ?_; rintro v_ Lo_ ⟨Ad, cd, rfl, rfl⟩)) | refine wz ?_ | (refine wzb ?_; intro b_) | fail)
      refine cx_cond rfl (fun _ => ?_) (fun h => Bool.noConfusion (show true = false from h))
      repeat (first | ((first | (apply lx_u; exact rfl) | (apply lx_g; exact rfl; exact rfl)); first | (apply isy_load; exact q_lr 4 rfl rfl rfl rfl rfl) | (apply isy_load; exact q_lr 5 rfl rfl rfl rfl rfl) | (apply isy_load; exact q_lr 6 rfl rfl rfl rfl rfl) | (apply isy_load; exact q_lr 7 rfl rfl rfl rfl rfl) | fail) | (refine isx_blt ?_; refine lx_appB (E := EV) 4 ([1#8] ++ be 4 (id.setWidth 64)) (be 8 at_) rfl (be_len _ _).symm rfl rfl rfl rfl rfl rfl rfl rfl rfl rfl rfl (fun _ hm => row_own 2 rfl hm) (by simp only [List.length_append, pk.be_len, pk.txt_len, List.length_cons, List.length_nil]; omega) (fun _ _ _ => trivial) ?_; intro A_ c_) | refine wz ?_ | (refine wzb ?_; intro b_) | fail)
      repeat (first | ((first | (apply lx_u; exact rfl) | (apply lx_g; exact rfl; exact rfl)); first | (apply isy_load; exact q_lr 4 rfl rfl rfl rfl rfl) | (apply isy_load; exact q_lr 5 rfl rfl rfl rfl rfl) | (apply isy_load; exact q_lr 6 rfl rfl rfl rfl rfl) | (apply isy_load; exact q_lr 7 rfl rfl rfl rfl rfl) | fail) | (refine isx_blt ?_; refine lx_appB (E := EV) 5 (([1#8] ++ be 4 (id.setWidth 64)) ++ be 8 at_) ([pg]) rfl rfl rfl rfl rfl rfl rfl rfl rfl rfl rfl rfl rfl (fun _ hm => row_blk 0 rfl rfl hm) (by simp only [List.length_append, pk.be_len, pk.txt_len, List.length_cons, List.length_nil]; omega) (fun _ _ _ => trivial) ?_; intro A_ c_) | refine wz ?_ | (refine wzb ?_; intro b_) | fail)
      repeat (first | ((first | (apply lx_u; exact rfl) | (apply lx_g; exact rfl; exact rfl)); first | (apply isy_load; exact q_lr 4 rfl rfl rfl rfl rfl) | (apply isy_load; exact q_lr 5 rfl rfl rfl rfl rfl) | (apply isy_load; exact q_lr 6 rfl rfl rfl rfl rfl) | (apply isy_load; exact q_lr 7 rfl rfl rfl rfl rfl) | fail) | (refine isx_call ?_; (refine isx_call ?_; refine lx_call0 (hpf) (fun _ hm => in_nil hm) rfl rfl rfl rfl rfl rfl rfl rfl ?_; rintro v_ Lo_ ⟨Aw, cw, rfl, rfl⟩)) | refine wz ?_ | (refine wzb ?_; intro b_) | fail)
      repeat (first | ((first | (apply lx_u; exact rfl) | (apply lx_g; exact rfl; exact rfl)); first | (apply isy_load; exact q_lr 4 rfl rfl rfl rfl rfl) | (apply isy_load; exact q_lr 5 rfl rfl rfl rfl rfl) | (apply isy_load; exact q_lr 6 rfl rfl rfl rfl rfl) | (apply isy_load; exact q_lr 7 rfl rfl rfl rfl rfl) | fail) | (refine isx_blt ?_; refine lx_appB (E := EV) 6 ((([1#8] ++ be 4 (id.setWidth 64)) ++ be 8 at_) ++ [pg]) PW rfl rfl rfl rfl rfl rfl rfl rfl rfl rfl rfl rfl rfl (fun _ hm => row_own 0 rfl hm) (by simp only [List.length_append, pk.be_len, pk.txt_len, List.length_cons, List.length_nil]; omega) (fun _ _ _ => trivial) ?_; intro A_ c_) | refine wz ?_ | (refine wzb ?_; intro b_) | fail)
      repeat (first | refine wz ?_ | (refine wzb ?_; intro b_) | fail)
      exact bq_ret (ret_tmp2 rfl rfl rfl) [_] (Gives.pick [6] (by decide) rfl) rfl ⟨_, _, rfl, rfl⟩
    · have he : RQ.hd (RQ.mk 2#8 id pg du at_ le so ky to_ ls ms) ++ (pts (RQ.k (RQ.mk 2#8 id pg du at_ le so ky to_ ls ms))).flatMap (RQ.encP (RQ.mk 2#8 id pg du at_ le so ky to_ ls ms)) = ((([2#8] ++ be 4 (id.setWidth 64)) ++ be 8 at_) ++ be 2 (du.setWidth 64)) := by
        show ([2#8] ++ be 4 (id.setWidth 64)) ++ (be 8 at_ ++ (be 2 (du.setWidth 64) ++ [])) = _
        simp only [List.append_assoc, List.append_nil, List.cons_append, List.nil_append]
      rw [he]
      clear he
      refine fn_enter Tryz.func41 rfl rfl (by kernel_rfl) rfl ?_; intro w0
      repeat (first | (refine isx_call ?_; refine lx_gcallt (hr) (fun _ hm => in_nil hm) rfl rfl rfl rfl rfl rfl rfl ?_) | refine wzf ?_ | (refine wzb ?_; intro b_) | fail)
      refine cx_cond rfl (fun h => Bool.noConfusion (show false = true from h)) (fun _ => ?_)
      repeat (first | ((first | (apply lx_u; exact rfl) | (apply lx_g; exact rfl; exact rfl)); first | (apply isy_convert; exact q_cv uk64 id rfl rfl rfl rfl) | fail) | (refine isx_call ?_; (refine lx_call0 (rNumber_fn (id.setWidth 64) 4 (by decide)) (fun _ hm => in_nil hm) rfl rfl rfl rfl rfl rfl rfl rfl ?_; rintro v_ Lo_ ⟨A_, c_, rfl, rfl⟩)) | refine wz ?_ | (refine wzb ?_; intro b_) | fail)
      refine lx_weak (Gives.blkown 1 (m := 1) (sz := 1) rfl rfl (by decide)) ?_
      repeat (first | (refine isx_blt ?_; refine lx_appB (E := EV) 1 [2#8] (be 4 (id.setWidth 64)) rfl (be_len _ _).symm rfl rfl rfl rfl rfl rfl rfl rfl rfl rfl rfl (fun _ hm => row_own 0 rfl hm) (by simp only [List.length_append, pk.be_len, pk.txt_len, List.length_cons, List.length_nil]; omega) (fun _ _ _ => trivial) ?_; intro A_ c_) | refine wz ?_ | (refine wzb ?_; intro b_) | fail)
      generalize A_ = A0
      generalize c_ = c0
      rename_i b1 _ _ _
      refine cx_draw [2, 5] [.blk b1 (RQ.cells (RQ.mk 2#8 id pg du at_ le so ky to_ ls ms)) 53] rfl (by kernel_rfl) (Gives.pick [2] (by decide) rfl) ?_
      repeat (first | (refine isx_call ?_; (refine isx_call ?_; refine lx_call0 (rNumber_fn at_ 8 (by decide)) (fun _ hm => in_nil hm) rfl rfl rfl rfl rfl rfl rfl rfl ?_; rintro v_ Lo_ ⟨Aa, ca, rfl, rfl⟩)) | refine wz ?_ | (refine wzb ?_; intro b_) | fail)
      repeat (first | (refine isx_call ?_; (refine isx_call ?_; refine lx_call0 (rNumber_fn le 8 (by decide)) (fun _ hm => in_nil hm) rfl rfl rfl rfl rfl rfl rfl rfl ?_; rintro v_ Lo_ ⟨Al, cl, rfl, rfl⟩)) | refine wz ?_ | (refine wzb ?_; intro b_) | fail)
      repeat (first | ((first | (apply lx_u; exact rfl) | (apply lx_g; exact rfl; exact rfl)); first | (apply isy_convert; exact q_cv uk64 du rfl rfl rfl rfl) | (apply isy_load; exact q_lr 4 rfl rfl rfl rfl rfl) | (apply isy_load; exact q_lr 5 rfl rfl rfl rfl rfl) | fail) | (refine isx_call ?_; (refine isx_call ?_; refine lx_call0 (rNumber_fn (du.setWidth 64) 2 (by decide)) (fun _ hm => in_nil hm) rfl rfl rfl rfl rfl rfl rfl rfl ?_; rintro v_ Lo_ ⟨Ad, cd, rfl, rfl⟩)) | refine wz ?_ | (refine wzb ?_; intro b_) | fail)
      refine cx_cond rfl (fun h => Bool.noConfusion (show false = true from h)) (fun _ => ?_)
      repeat (first | refine wz ?_ | (refine wzb ?_; intro b_) | fail)
      refine cx_cond rfl (fun _ => ?_) (fun h => Bool.noConfusion (show true = false from h))
      repeat (first | ((first | (apply lx_u; exact rfl) | (apply lx_g; exact rfl; exact rfl)); first | (apply isy_load; exact q_lr 4 rfl rfl rfl rfl rfl) | (apply isy_load; exact q_lr 5 rfl rfl rfl rfl rfl) | (apply isy_load; exact q_lr 6 rfl rfl rfl rfl rfl) | (apply isy_load; exact q_lr 7 rfl rfl rfl rfl rfl) | fail) | (refine isx_blt ?_; refine lx_appB (E := EV) 4 ([2#8] ++ be 4 (id.setWidth 64)) (be 8 at_) rfl (be_len _ _).symm rfl rfl rfl rfl rfl rfl rfl rfl rfl rfl rfl (fun _ hm => row_own 2 rfl hm) (by simp only [List.length_append, pk.be_len, pk.txt_len, List.length_cons, List.length_nil]; omega) (fun _ _ _ => trivial) ?_; intro A_ c_) | refine wz ?_ | (refine wzb ?_; intro b_) | fail)
      repeat (first | ((first | (apply lx_u; exact rfl) | (apply lx_g; exact rfl; exact rfl)); first | (apply isy_load; exact q_lr 4 rfl rfl rfl rfl rfl) | (apply isy_load; exact q_lr 5 rfl rfl rfl rfl rfl) | (apply isy_load; exact q_lr 6 rfl rfl rfl rfl rfl) | (apply isy_load; exact q_lr 7 rfl rfl rfl rfl rfl) | fail) | (refine isx_blt ?_; refine lx_appB (E := EV) 4 (([2#8] ++ be 4 (id.setWidth 64)) ++ be 8 at_) (be 2 (du.setWidth 64)) rfl (be_len _ _).symm rfl rfl rfl rfl rfl rfl rfl rfl rfl rfl rfl (fun _ hm => row_own 0 rfl hm) (by simp only [List.length_append, pk.be_len, pk.txt_len, List.length_cons, List.length_nil]; omega) (fun _ _ _ => trivial) ?_; intro A_ c_) | refine wz ?_ | (refine wzb ?_; intro b_) | fail)
      repeat (first | refine wz ?_ | (refine wzb ?_; intro b_) | fail)
      exact bq_ret (ret_tmp2 rfl rfl rfl) [_] (Gives.pick [4] (by decide) rfl) rfl ⟨_, _, rfl, rfl⟩
    · have he : RQ.hd (RQ.mk 3#8 id pg du at_ le so ky to_ ls ms) ++ (pts (RQ.k (RQ.mk 3#8 id pg du at_ le so ky to_ ls ms))).flatMap (RQ.encP (RQ.mk 3#8 id pg du at_ le so ky to_ ls ms)) = ((([3#8] ++ be 4 (id.setWidth 64)) ++ be 8 le) ++ be 2 (du.setWidth 64)) := by
        show ([3#8] ++ be 4 (id.setWidth 64)) ++ (be 8 le ++ (be 2 (du.setWidth 64) ++ [])) = _
        simp only [List.append_assoc, List.append_nil, List.cons_append, List.nil_append]
      rw [he]
      clear he
      refine fn_enter Tryz.func41 rfl rfl (by kernel_rfl) rfl ?_; intro w0
      repeat (first | (refine isx_call ?_; refine lx_gcallt (hr) (fun _ hm => in_nil hm) rfl rfl rfl rfl rfl rfl rfl ?_) | refine wzf ?_ | (refine wzb ?_; intro b_) | fail)
      refine cx_cond rfl (fun h => Bool.noConfusion (show false = true from h)) (fun _ => ?_)
      repeat (first | ((first | (apply lx_u; exact rfl) | (apply lx_g; exact rfl; exact rfl)); first | (apply isy_convert; exact q_cv uk64 id rfl rfl rfl rfl) | fail) | (refine isx_call ?_; (refine lx_call0 (rNumber_fn (id.setWidth 64) 4 (by decide)) (fun _ hm => in_nil hm) rfl rfl rfl rfl rfl rfl rfl rfl ?_; rintro v_ Lo_ ⟨A_, c_, rfl, rfl⟩)) | refine wz ?_ | (refine wzb ?_; intro b_) | fail)
      refine lx_weak (Gives.blkown 1 (m := 1) (sz := 1) rfl rfl (by decide)) ?_
      repeat (first | (refine isx_blt ?_; refine lx_appB (E := EV) 1 [3#8] (be 4 (id.setWidth 64)) rfl (be_len _ _).symm rfl rfl rfl rfl rfl rfl rfl rfl rfl rfl rfl (fun _ hm => row_own 0 rfl hm) (by simp only [List.length_append, pk.be_len, pk.txt_len, List.length_cons, List.length_nil]; omega) (fun _ _ _ => trivial) ?_; intro A_ c_) | refine wz ?_ | (refine wzb ?_; intro b_) | fail)
      generalize A_ = A0
      generalize c_ = c0
      rename_i b1 _ _ _
      refine cx_draw [2, 5] [.blk b1 (RQ.cells (RQ.mk 3#8 id pg du at_ le so ky to_ ls ms)) 53] rfl (by kernel_rfl) (Gives.pick [2] (by decide) rfl) ?_
      repeat (first | (refine isx_call ?_; (refine isx_call ?_; refine lx_call0 (rNumber_fn at_ 8 (by decide)) (fun _ hm => in_nil hm) rfl rfl rfl rfl rfl rfl rfl rfl ?_; rintro v_ Lo_ ⟨Aa, ca, rfl, rfl⟩)) | refine wz ?_ | (refine wzb ?_; intro b_) | fail)
      repeat (first | (refine isx_call ?_; (refine isx_call ?_; refine lx_call0 (rNumber_fn le 8 (by decide)) (fun _ hm => in_nil hm) rfl rfl rfl rfl rfl rfl rfl rfl ?_; rintro v_ Lo_ ⟨Al, cl, rfl, rfl⟩)) | refine wz ?_ | (refine wzb ?_; intro b_) | fail)
      repeat (first | ((first | (apply lx_u; exact rfl) | (apply lx_g; exact rfl; exact rfl)); first | (apply isy_convert; exact q_cv uk64 du rfl rfl rfl rfl) | (apply isy_load; exact q_lr 4 rfl rfl rfl rfl rfl) | (apply isy_load; exact q_lr 5 rfl rfl rfl rfl rfl) | fail) | (refine isx_call ?_; (refine isx_call ?_; refine lx_call0 (rNumber_fn (du.setWidth 64) 2 (by decide)) (fun _ hm => in_nil hm) rfl rfl rfl rfl rfl rfl rfl rfl ?_; rintro v_ Lo_ ⟨Ad, cd, rfl, rfl⟩)) | refine wz ?_ | (refine wzb ?_; intro b_) | fail)
      refine cx_cond rfl (fun h => Bool.noConfusion (show false = true from h)) (fun _ => ?_)
      repeat (first | refine wz ?_ | (refine wzb ?_; intro b_) | fail)
      refine cx_cond rfl (fun h => Bool.noConfusion (show false = true from h)) (fun _ => ?_)
      repeat (first | refine wz ?_ | (refine wzb ?_; intro b_) | fail)
      refine cx_cond rfl (fun _ => ?_) (fun h => Bool.noConfusion (show true = false from h))
      repeat (first | ((first | (apply lx_u; exact rfl) | (apply lx_g; exact rfl; exact rfl)); first | (apply isy_load; exact q_lr 4 rfl rfl rfl rfl rfl) | (apply isy_load; exact q_lr 5 rfl rfl rfl rfl rfl) | (apply isy_load; exact q_lr 6 rfl rfl rfl rfl rfl) | (apply isy_load; exact q_lr 7 rfl rfl rfl rfl rfl) | fail) | (refine isx_blt ?_; refine lx_appB (E := EV) 4 ([3#8] ++ be 4 (id.setWidth 64)) (be 8 le) rfl (be_len _ _).symm rfl rfl rfl rfl rfl rfl rfl rfl rfl rfl rfl (fun _ hm => row_own 1 rfl hm) (by simp only [List.length_append, pk.be_len, pk.txt_len, List.length_cons, List.length_nil]; omega) (fun _ _ _ => trivial) ?_; intro A_ c_) | refine wz ?_ | (refine wzb ?_; intro b_) | fail)
      repeat (first | ((first | (apply lx_u; exact rfl) | (apply lx_g; exact rfl; exact rfl)); first | (apply isy_load; exact q_lr 4 rfl rfl rfl rfl rfl) | (apply isy_load; exact q_lr 5 rfl rfl rfl rfl rfl) | (apply isy_load; exact q_lr 6 rfl rfl rfl rfl rfl) | (apply isy_load; exact q_lr 7 rfl rfl rfl rfl rfl) | fail) | (refine isx_blt ?_; refine lx_appB (E := EV) 4 (([3#8] ++ be 4 (id.setWidth 64)) ++ be 8 le) (be 2 (du.setWidth 64)) rfl (be_len _ _).symm rfl rfl rfl rfl rfl rfl rfl rfl rfl rfl rfl (fun _ hm => row_own 0 rfl hm) (by simp only [List.length_append, pk.be_len, pk.txt_len, List.length_cons, List.length_nil]; omega) (fun _ _ _ => trivial) ?_; intro A_ c_) | refine wz ?_ | (refine wzb ?_; intro b_) | fail)
      repeat (first | refine wz ?_ | (refine wzb ?_; intro b_) | fail)
      exact bq_ret (ret_tmp2 rfl rfl rfl) [_] (Gives.pick [4] (by decide) rfl) rfl ⟨_, _, rfl, rfl⟩
    · have he : RQ.hd (RQ.mk 4#8 id pg du at_ le so ky to_ ls ms) ++ (pts (RQ.k (RQ.mk 4#8 id pg du at_ le so ky to_ ls ms))).flatMap (RQ.encP (RQ.mk 4#8 id pg du at_ le so ky to_ ls ms)) = (([4#8] ++ be 4 (id.setWidth 64)) ++ be 8 le) := by
        show ([4#8] ++ be 4 (id.setWidth 64)) ++ (be 8 le ++ []) = _
        simp only [List.append_assoc, List.append_nil, List.cons_append, List.nil_append]
      rw [he]
      clear he
      refine fn_enter Tryz.func41 rfl rfl (by kernel_rfl) rfl ?_; intro w0
      repeat (first | (refine isx_call ?_; refine lx_gcallt (hr) (fun _ hm => in_nil hm) rfl rfl rfl rfl rfl rfl rfl ?_) | refine wzf ?_ | (refine wzb ?_; intro b_) | fail)
      refine cx_cond rfl (fun h => Bool.noConfusion (show false = true from h)) (fun _ => ?_)
      repeat (first | ((first | (apply lx_u; exact rfl) | (apply lx_g; exact rfl; exact rfl)); first | (apply isy_convert; exact q_cv uk64 id rfl rfl rfl rfl) | fail) | (refine isx_call ?_; (refine lx_call0 (rNumber_fn (id.setWidth 64) 4 (by decide)) (fun _ hm => in_nil hm) rfl rfl rfl rfl rfl rfl rfl rfl ?_; rintro v_ Lo_ ⟨A_, c_, rfl, rfl⟩)) | refine wz ?_ | (refine wzb ?_; intro b_) | fail)
      refine lx_weak (Gives.blkown 1 (m := 1) (sz := 1) rfl rfl (by decide)) ?_
      repeat (first | (refine isx_blt ?_; refine lx_appB (E := EV) 1 [4#8] (be 4 (id.setWidth 64)) rfl (be_len _ _).symm rfl rfl rfl rfl rfl rfl rfl rfl rfl rfl rfl (fun _ hm => row_own 0 rfl hm) (by simp only [List.length_append, pk.be_len, pk.txt_len, List.length_cons, List.length_nil]; omega) (fun _ _ _ => trivial) ?_; intro A_ c_) | refine wz ?_ | (refine wzb ?_; intro b_) | fail)
      generalize A_ = A0
      generalize c_ = c0
      rename_i b1 _ _ _
      refine cx_draw [2, 5] [.blk b1 (RQ.cells (RQ.mk 4#8 id pg du at_ le so ky to_ ls ms)) 53] rfl (by kernel_rfl) (Gives.pick [2] (by decide) rfl) ?_
      repeat (first | (refine isx_call ?_; (refine isx_call ?_; refine lx_call0 (rNumber_fn at_ 8 (by decide)) (fun _ hm => in_nil hm) rfl rfl rfl rfl rfl rfl rfl rfl ?_; rintro v_ Lo_ ⟨Aa, ca, rfl, rfl⟩)) | refine wz ?_ | (refine wzb ?_; intro b_) | fail)
      repeat (first | (refine isx_call ?_; (refine isx_call ?_; refine lx_call0 (rNumber_fn le 8 (by decide)) (fun _ hm => in_nil hm) rfl rfl rfl rfl rfl rfl rfl rfl ?_; rintro v_ Lo_ ⟨Al, cl, rfl, rfl⟩)) | refine wz ?_ | (refine wzb ?_; intro b_) | fail)
      repeat (first | ((first | (apply lx_u; exact rfl) | (apply lx_g; exact rfl; exact rfl)); first | (apply isy_convert; exact q_cv uk64 du rfl rfl rfl rfl) | (apply isy_load; exact q_lr 4 rfl rfl rfl rfl rfl) | (apply isy_load; exact q_lr 5 rfl rfl rfl rfl rfl) | fail) | (refine isx_call ?_; (refine isx_call ?_; refine lx_call0 (rNumber_fn (du.setWidth 64) 2 (by decide)) (fun _ hm => in_nil hm) rfl rfl rfl rfl rfl rfl rfl rfl ?_; rintro v_ Lo_ ⟨Ad, cd, rfl, rfl⟩)) | refine wz ?_ | (refine wzb ?_; intro b_) | fail)
      refine cx_cond rfl (fun h => Bool.noConfusion (show false = true from h)) (fun _ => ?_)
      repeat (first | refine wz ?_ | (refine wzb ?_; intro b_) | fail)
      refine cx_cond rfl (fun h => Bool.noConfusion (show false = true from h)) (fun _ => ?_)
      repeat (first | refine wz ?_ | (refine wzb ?_; intro b_) | fail)
      refine cx_cond rfl (fun h => Bool.noConfusion (show false = true from h)) (fun _ => ?_)
      repeat (first | refine wz ?_ | (refine wzb ?_; intro b_) | fail)
      refine cx_cond rfl (fun _ => ?_) (fun h => Bool.noConfusion (show true = false from h))
      repeat (first | refine wz ?_ | (refine wzb ?_; intro b_) | fail)
      refine cx_cond rfl (fun _ => ?_) (fun h => Bool.noConfusion (show true = false from h))
      repeat (first | ((first | (apply lx_u; exact rfl) | (apply lx_g; exact rfl; exact rfl)); first | (apply isy_load; exact q_lr 4 rfl rfl rfl rfl rfl) | (apply isy_load; exact q_lr 5 rfl rfl rfl rfl rfl) | (apply isy_load; exact q_lr 6 rfl rfl rfl rfl rfl) | (apply isy_load; exact q_lr 7 rfl rfl rfl rfl rfl) | fail) | (refine isx_blt ?_; refine lx_appB (E := EV) 4 ([4#8] ++ be 4 (id.setWidth 64)) (be 8 le) rfl (be_len _ _).symm rfl rfl rfl rfl rfl rfl rfl rfl rfl rfl rfl (fun _ hm => row_own 1 rfl hm) (by simp only [List.length_append, pk.be_len, pk.txt_len, List.length_cons, List.length_nil]; omega) (fun _ _ _ => trivial) ?_; intro A_ c_) | refine wz ?_ | (refine wzb ?_; intro b_) | fail)
      repeat (first | refine wz ?_ | (refine wzb ?_; intro b_) | fail)
      exact bq_ret (ret_tmp2 rfl rfl rfl) [_] (Gives.pick [4] (by decide) rfl) rfl ⟨_, _, rfl, rfl⟩
    · have he : RQ.hd (RQ.mk 5#8 id pg du at_ le so ky to_ ls ms) ++ (pts (RQ.k (RQ.mk 5#8 id pg du at_ le so ky to_ ls ms))).flatMap (RQ.encP (RQ.mk 5#8 id pg du at_ le so ky to_ ls ms)) = ((([5#8] ++ be 4 (id.setWidth 64)) ++ be 2 (du.setWidth 64)) ++ PW) := by
        show ([5#8] ++ be 4 (id.setWidth 64)) ++ (be 2 (du.setWidth 64) ++ ((RQ.mk 5#8 id pg du at_ le so ky to_ ls ms).encP .w ++ [])) = _
        rw [hPW]; simp only [List.append_assoc, List.append_nil, List.cons_append, List.nil_append]
      rw [he]
      clear he
      refine fn_enter Tryz.func41 rfl rfl (by kernel_rfl) rfl ?_; intro w0
      repeat (first | (refine isx_call ?_; refine lx_gcallt (hr) (fun _ hm => in_nil hm) rfl rfl rfl rfl rfl rfl rfl ?_) | refine wzf ?_ | (refine wzb ?_; intro b_) | fail)
      refine cx_cond rfl (fun h => Bool.noConfusion (show false = true from h)) (fun _ => ?_)
      repeat (first | ((first | (apply lx_u; exact rfl) | (apply lx_g; exact rfl; exact rfl)); first | (apply isy_convert; exact q_cv uk64 id rfl rfl rfl rfl) | fail) | (refine isx_call ?_; (refine lx_call0 (rNumber_fn (id.setWidth 64) 4 (by decide)) (fun _ hm => in_nil hm) rfl rfl rfl rfl rfl rfl rfl rfl ?_; rintro v_ Lo_ ⟨A_, c_, rfl, rfl⟩)) | refine wz ?_ | (refine wzb ?_; intro b_) | fail)
      refine lx_weak (Gives.blkown 1 (m := 1) (sz := 1) rfl rfl (by decide)) ?_
      repeat (first | (refine isx_blt ?_; refine lx_appB (E := EV) 1 [5#8] (be 4 (id.setWidth 64)) rfl (be_len _ _).symm rfl rfl rfl rfl rfl rfl rfl rfl rfl rfl rfl (fun _ hm => row_own 0 rfl hm) (by simp only [List.length_append, pk.be_len, pk.txt_len, List.length_cons, List.length_nil]; omega) (fun _ _ _ => trivial) ?_; intro A_ c_) | refine wz ?_ | (refine wzb ?_; intro b_) | fail)
      generalize A_ = A0
      generalize c_ = c0
      rename_i b1 _ _ _
      refine cx_draw [2, 5] [.blk b1 (RQ.cells (RQ.mk 5#8 id pg du at_ le so ky to_ ls ms)) 53] rfl (by kernel_rfl) (Gives.pick [2] (by decide) rfl) ?_
      repeat (first | (refine isx_call ?_; (refine isx_call ?_; refine lx_call0 (rNumber_fn at_ 8 (by decide)) (fun _ hm => in_nil hm) rfl rfl rfl rfl rfl rfl rfl rfl ?_; rintro v_ Lo_ ⟨Aa, ca, rfl, rfl⟩)) | refine wz ?_ | (refine wzb ?_; intro b_) | fail)
      repeat (first | (refine isx_call ?_; (refine isx_call ?_; refine lx_call0 (rNumber_fn le 8 (by decide)) (fun _ hm => in_nil hm) rfl rfl rfl rfl rfl rfl rfl rfl ?_; rintro v_ Lo_ ⟨Al, cl, rfl, rfl⟩)) | refine wz ?_ | (refine wzb ?_; intro b_) | fail)
      repeat (first | ((first | (apply lx_u; exact rfl) | (apply lx_g; exact rfl; exact rfl)); first | (apply isy_convert; exact q_cv uk64 du rfl rfl rfl rfl) | (apply isy_load; exact q_lr 4 rfl rfl rfl rfl rfl) | (apply isy_load; exact q_lr 5 rfl rfl rfl rfl rfl) | fail) | (refine isx_call ?_; (refine isx_call ?_; refine lx_call0 (rNumber_fn (du.setWidth 64) 2 (by decide)) (fun _ hm => in_nil hm) rfl rfl rfl rfl rfl rfl rfl rfl ?_; rintro v_ Lo_ ⟨Ad, cd, rfl, rfl⟩)) | refine wz ?_ | (refine wzb ?_; intro b_) | fail)
      refine cx_cond rfl (fun h => Bool.noConfusion (show false = true from h)) (fun _ => ?_)
      repeat (first | refine wz ?_ | (refine wzb ?_; intro b_) | fail)
      refine cx_cond rfl (fun h => Bool.noConfusion (show false = true from h)) (fun _ => ?_)
      repeat (first | refine wz ?_ | (refine wzb ?_; intro b_) | fail)
      refine cx_cond rfl (fun h => Bool.noConfusion (show false = true from h)) (fun _ => ?_)
      repeat (first | refine wz ?_ | (refine wzb ?_; intro b_) | fail)
      refine cx_cond rfl (fun h => Bool.noConfusion (show false = true from h)) (fun _ => ?_)
      repeat (first | refine wz ?_ | (refine wzb ?_; intro b_) | fail)
      refine cx_cond rfl (fun h => Bool.noConfusion (show false = true from h)) (fun _ => ?_)
      repeat (first | refine wz ?_ | (refine wzb ?_; intro b_) | fail)
      refine cx_cond rfl (fun _ => ?_) (fun h => Bool.noConfusion (show true = false from h))
      repeat (first | ((first | (apply lx_u; exact rfl) | (apply lx_g; exact rfl; exact rfl)); first | (apply isy_load; exact q_lr 4 rfl rfl rfl rfl rfl) | (apply isy_load; exact q_lr 5 rfl rfl rfl rfl rfl) | (apply isy_load; exact q_lr 6 rfl rfl rfl rfl rfl) | (apply isy_load; exact q_lr 7 rfl rfl rfl rfl rfl) | fail) | (refine isx_blt ?_; refine lx_appB (E := EV) 4 ([5#8] ++ be 4 (id.setWidth 64)) (be 2 (du.setWidth 64)) rfl (be_len _ _).symm rfl rfl rfl rfl rfl rfl rfl rfl rfl rfl rfl (fun _ hm => row_own 0 rfl hm) (by simp only [List.length_append, pk.be_len, pk.txt_len, List.length_cons, List.length_nil]; omega) (fun _ _ _ => trivial) ?_; intro A_ c_) | refine wz ?_ | (refine wzb ?_; intro b_) | fail)
      repeat (first | ((first | (apply lx_u; exact rfl) | (apply lx_g; exact rfl; exact rfl)); first | (apply isy_load; exact q_lr 4 rfl rfl rfl rfl rfl) | (apply isy_load; exact q_lr 5 rfl rfl rfl rfl rfl) | (apply isy_load; exact q_lr 6 rfl rfl rfl rfl rfl) | (apply isy_load; exact q_lr 7 rfl rfl rfl rfl rfl) | fail) | (refine isx_call ?_; (refine isx_call ?_; refine lx_call0 (hpf) (fun _ hm => in_nil hm) rfl rfl rfl rfl rfl rfl rfl rfl ?_; rintro v_ Lo_ ⟨Aw, cw, rfl, rfl⟩)) | refine wz ?_ | (refine wzb ?_; intro b_) | fail)
      repeat (first | ((first | (apply lx_u; exact rfl) | (apply lx_g; exact rfl; exact rfl)); first | (apply isy_load; exact q_lr 4 rfl rfl rfl rfl rfl) | (apply isy_load; exact q_lr 5 rfl rfl rfl rfl rfl) | (apply isy_load; exact q_lr 6 rfl rfl rfl rfl rfl) | (apply isy_load; exact q_lr 7 rfl rfl rfl rfl rfl) | fail) | (refine isx_blt ?_; refine lx_appB (E := EV) 5 (([5#8] ++ be 4 (id.setWidth 64)) ++ be 2 (du.setWidth 64)) PW rfl rfl rfl rfl rfl rfl rfl rfl rfl rfl rfl rfl rfl (fun _ hm => row_own 0 rfl hm) (by simp only [List.length_append, pk.be_len, pk.txt_len, List.length_cons, List.length_nil]; omega) (fun _ _ _ => trivial) ?_; intro A_ c_) | refine wz ?_ | (refine wzb ?_; intro b_) | fail)
      repeat (first | refine wz ?_ | (refine wzb ?_; intro b_) | fail)
      exact bq_ret (ret_tmp2 rfl rfl rfl) [_] (Gives.pick [5] (by decide) rfl) rfl ⟨_, _, rfl, rfl⟩
    · have he : RQ.hd (RQ.mk 6#8 id pg du at_ le so ky to_ ls ms) ++ (pts (RQ.k (RQ.mk 6#8 id pg du at_ le so ky to_ ls ms))).flatMap (RQ.encP (RQ.mk 6#8 id pg du at_ le so ky to_ ls ms)) = (((([6#8] ++ be 4 (id.setWidth 64)) ++ be 8 le) ++ [pg]) ++ be 2 (du.setWidth 64)) := by
        show ([6#8] ++ be 4 (id.setWidth 64)) ++ (be 8 le ++ ([pg] ++ (be 2 (du.setWidth 64) ++ []))) = _
        simp only [List.append_assoc, List.append_nil, List.cons_append, List.nil_append]
      rw [he]
      clear he
      refine fn_enter Tryz.func41 rfl rfl (by kernel_rfl) rfl ?_; intro w0
      repeat (first | (refine isx_call ?_; refine lx_gcallt (hr) (fun _ hm => in_nil hm) rfl rfl rfl rfl rfl rfl rfl ?_) | refine wzf ?_ | (refine wzb ?_; intro b_) | fail)
      refine cx_cond rfl (fun h => Bool.noConfusion (show false = true from h)) (fun _ => ?_)
      repeat (first | ((first | (apply lx_u; exact rfl) | (apply lx_g; exact rfl; exact rfl)); first | (apply isy_convert; exact q_cv uk64 id rfl rfl rfl rfl) | fail) | (refine isx_call ?_; (refine lx_call0 (rNumber_fn (id.setWidth 64) 4 (by decide)) (fun _ hm => in_nil hm) rfl rfl rfl rfl rfl rfl rfl rfl ?_; rintro v_ Lo_ ⟨A_, c_, rfl, rfl⟩)) | refine wz ?_ | (refine wzb ?_; intro b_) | fail)
      refine lx_weak (Gives.blkown 1 (m := 1) (sz := 1) rfl rfl (by decide)) ?_
      repeat (first | (refine isx_blt ?_; refine lx_appB (E := EV) 1 [6#8] (be 4 (id.setWidth 64)) rfl (be_len _ _).symm rfl rfl rfl rfl rfl rfl rfl rfl rfl rfl rfl (fun _ hm => row_own 0 rfl hm) (by simp only [List.length_append, pk.be_len, pk.txt_len, List.length_cons, List.length_nil]; omega) (fun _ _ _ => trivial) ?_; intro A_ c_) | refine wz ?_ | (refine wzb ?_; intro b_) | fail)
      generalize A_ = A0
      generalize c_ = c0
      rename_i b1 _ _ _
      refine cx_draw [2, 5] [.blk b1 (RQ.cells (RQ.mk 6#8 id pg du at_ le so ky to_ ls ms)) 53] rfl (by kernel_rfl) (Gives.pick [2] (by decide) rfl) ?_
      repeat (first | (refine isx_call ?_; (refine isx_call ?_; refine lx_call0 (rNumber_fn at_ 8 (by decide)) (fun _ hm => in_nil hm) rfl rfl rfl rfl rfl rfl rfl rfl ?_; rintro v_ Lo_ ⟨Aa, ca, rfl, rfl⟩)) | refine wz ?_ | (refine wzb ?_; intro b_) | fail)
      repeat (first | (refine isx_call ?_; (refine isx_call ?_; refine lx_call0 (rNumber_fn le 8 (by decide)) (fun _ hm => in_nil hm) rfl rfl rfl rfl rfl rfl rfl rfl ?_; rintro v_ Lo_ ⟨Al, cl, rfl, rfl⟩)) | refine wz ?_ | (refine wzb ?_; intro b_) | fail)
      repeat (first | ((first | (apply lx_u; exact rfl) | (apply lx_g; exact rfl; exact rfl)); first | (apply isy_convert; exact q_cv uk64 du rfl rfl rfl rfl) | (apply isy_load; exact q_lr 4 rfl rfl rfl rfl rfl) | (apply isy_load; exact q_lr 5 rfl rfl rfl rfl rfl) | fail) | (refine isx_call ?_; (refine isx_call ?_; refine lx_call0 (rNumber_fn (du.setWidth 64) 2 (by decide)) (fun _ hm => in_nil hm) rfl rfl rfl rfl rfl rfl rfl rfl ?_; rintro v_ Lo_ ⟨Ad, cd, rfl, rfl⟩)) | refine wz ?_ | (refine wzb ?_; intro b_) | fail)
      refine cx_cond rfl (fun h => Bool.noConfusion (show false = true from h)) (fun _ => ?_)
      repeat (first | refine wz ?_ | (refine wzb ?_; intro b_) | fail)
      refine cx_cond rfl (fun h => Bool.noConfusion (show false = true from h)) (fun _ => ?_)
      repeat (first | refine wz ?_ | (refine wzb ?_; intro b_) | fail)
      refine cx_cond rfl (fun h => Bool.noConfusion (show false = true from h)) (fun _ => ?_)
      repeat (first | refine wz ?_ | (refine wzb ?_; intro b_) | fail)
      refine cx_cond rfl (fun h => Bool.noConfusion (show false = true from h)) (fun _ => ?_)
      repeat (first | refine wz ?_ | (refine wzb ?_; intro b_) | fail)
      refine cx_cond rfl (fun h => Bool.noConfusion (show false = true from h)) (fun _ => ?_)
      repeat (first | refine wz ?_ | (refine wzb ?_; intro b_) | fail)
      refine cx_cond rfl (fun h => Bool.noConfusion (show false = true from h)) (fun _ => ?_)
      repeat (first | refine wz ?_ | (refine wzb ?_; intro b_) | fail)
      refine cx_cond rfl (fun _ => ?_) (fun h => Bool.noConfusion (show true = false from h))
      repeat (first | ((first | (apply lx_u; exact rfl) | (apply lx_g; exact rfl; exact rfl)); first | (apply isy_load; exact q_lr 4 rfl rfl rfl rfl rfl) | (apply isy_load; exact q_lr 5 rfl rfl rfl rfl rfl) | (apply isy_load; exact q_lr 6 rfl rfl rfl rfl rfl) | (apply isy_load; exact q_lr 7 rfl rfl rfl rfl rfl) | fail) | (refine isx_blt ?_; refine lx_appB (E := EV) 4 ([6#8] ++ be 4 (id.setWidth 64)) (be 8 le) rfl (be_len _ _).symm rfl rfl rfl rfl rfl rfl rfl rfl rfl rfl rfl (fun _ hm => row_own 1 rfl hm) (by simp only [List.length_append, pk.be_len, pk.txt_len, List.length_cons, List.length_nil]; omega) (fun _ _ _ => trivial) ?_; intro A_ c_) | refine wz ?_ | (refine wzb ?_; intro b_) | fail)
      repeat (first | ((first | (apply lx_u; exact rfl) | (apply lx_g; exact rfl; exact rfl)); first | (apply isy_load; exact q_lr 4 rfl rfl rfl rfl rfl) | (apply isy_load; exact q_lr 5 rfl rfl rfl rfl rfl) | (apply isy_load; exact q_lr 6 rfl rfl rfl rfl rfl) | (apply isy_load; exact q_lr 7 rfl rfl rfl rfl rfl) | fail) | (refine isx_blt ?_; refine lx_appB (E := EV) 5 (([6#8] ++ be 4 (id.setWidth 64)) ++ be 8 le) ([pg]) rfl rfl rfl rfl rfl rfl rfl rfl rfl rfl rfl rfl rfl (fun _ hm => row_blk 0 rfl rfl hm) (by simp only [List.length_append, pk.be_len, pk.txt_len, List.length_cons, List.length_nil]; omega) (fun _ _ _ => trivial) ?_; intro A_ c_) | refine wz ?_ | (refine wzb ?_; intro b_) | fail)
      repeat (first | ((first | (apply lx_u; exact rfl) | (apply lx_g; exact rfl; exact rfl)); first | (apply isy_load; exact q_lr 4 rfl rfl rfl rfl rfl) | (apply isy_load; exact q_lr 5 rfl rfl rfl rfl rfl) | (apply isy_load; exact q_lr 6 rfl rfl rfl rfl rfl) | (apply isy_load; exact q_lr 7 rfl rfl rfl rfl rfl) | fail) | (refine isx_blt ?_; refine lx_appB (E := EV) 5 ((([6#8] ++ be 4 (id.setWidth 64)) ++ be 8 le) ++ [pg]) (be 2 (du.setWidth 64)) rfl (be_len _ _).symm rfl rfl rfl rfl rfl rfl rfl rfl rfl rfl rfl (fun _ hm => row_own 1 rfl hm) (by simp only [List.length_append, pk.be_len, pk.txt_len, List.length_cons, List.length_nil]; omega) (fun _ _ _ => trivial) ?_; intro A_ c_) | refine wz ?_ | (refine wzb ?_; intro b_) | fail)
      repeat (first | refine wz ?_ | (refine wzb ?_; intro b_) | fail)
      exact bq_ret (ret_tmp2 rfl rfl rfl) [_] (Gives.pick [5] (by decide) rfl) rfl ⟨_, _, rfl, rfl⟩
    · have he : RQ.hd (RQ.mk 7#8 id pg du at_ le so ky to_ ls ms) ++ (pts (RQ.k (RQ.mk 7#8 id pg du at_ le so ky to_ ls ms))).flatMap (RQ.encP (RQ.mk 7#8 id pg du at_ le so ky to_ ls ms)) = (([7#8] ++ be 4 (id.setWidth 64)) ++ be 8 le) := by
        show ([7#8] ++ be 4 (id.setWidth 64)) ++ (be 8 le ++ []) = _
        simp only [List.append_assoc, List.append_nil, List.cons_append, List.nil_append]
      rw [he]
      clear he
      refine fn_enter Tryz.func41 rfl rfl (by kernel_rfl) rfl ?_; intro w0
      repeat (first | (refine isx_call ?_; refine lx_gcallt (hr) (fun _ hm => in_nil hm) rfl rfl rfl rfl rfl rfl rfl ?_) | refine wzf ?_ | (refine wzb ?_; intro b_) | fail)
      refine cx_cond rfl (fun h => Bool.noConfusion (show false = true from h)) (fun _ => ?_)
      repeat (first | ((first | (apply lx_u; exact rfl) | (apply lx_g; exact rfl; exact rfl)); first | (apply isy_convert; exact q_cv uk64 id rfl rfl rfl rfl) | fail) | (refine isx_call ?_; (refine lx_call0 (rNumber_fn (id.setWidth 64) 4 (by decide)) (fun _ hm => in_nil hm) rfl rfl rfl rfl rfl rfl rfl rfl ?_; rintro v_ Lo_ ⟨A_, c_, rfl, rfl⟩)) | refine wz ?_ | (refine wzb ?_; intro b_) | fail)
      refine lx_weak (Gives.blkown 1 (m := 1) (sz := 1) rfl rfl (by decide)) ?_
      repeat (first | (refine isx_blt ?_; refine lx_appB (E := EV) 1 [7#8] (be 4 (id.setWidth 64)) rfl (be_len _ _).symm rfl rfl rfl rfl rfl rfl rfl rfl rfl rfl rfl (fun _ hm => row_own 0 rfl hm) (by simp only [List.length_append, pk.be_len, pk.txt_len, List.length_cons, List.length_nil]; omega) (fun _ _ _ => trivial) ?_; intro A_ c_) | refine wz ?_ | (refine wzb ?_; intro b_) | fail)
      generalize A_ = A0
      generalize c_ = c0
      rename_i b1 _ _ _
      refine cx_draw [2, 5] [.blk b1 (RQ.cells (RQ.mk 7#8 id pg du at_ le so ky to_ ls ms)) 53] rfl (by kernel_rfl) (Gives.pick [2] (by decide) rfl) ?_
      repeat (first | (refine isx_call ?_; (refine isx_call ?_; refine lx_call0 (rNumber_fn at_ 8 (by decide)) (fun _ hm => in_nil hm) rfl rfl rfl rfl rfl rfl rfl rfl ?_; rintro v_ Lo_ ⟨Aa, ca, rfl, rfl⟩)) | refine wz ?_ | (refine wzb ?_; intro b_) | fail)
      repeat (first | (refine isx_call ?_; (refine isx_call ?_; refine lx_call0 (rNumber_fn le 8 (by decide)) (fun _ hm => in_nil hm) rfl rfl rfl rfl rfl rfl rfl rfl ?_; rintro v_ Lo_ ⟨Al, cl, rfl, rfl⟩)) | refine wz ?_ | (refine wzb ?_; intro b_) | fail)
      repeat (first | ((first | (apply lx_u; exact rfl) | (apply lx_g; exact rfl; exact rfl)); first | (apply isy_convert; exact q_cv uk64 du rfl rfl rfl rfl) | (apply isy_load; exact q_lr 4 rfl rfl rfl rfl rfl) | (apply isy_load; exact q_lr 5 rfl rfl rfl rfl rfl) | fail) | (refine isx_call ?_; (refine isx_call ?_; refine lx_call0 (rNumber_fn (du.setWidth 64) 2 (by decide)) (fun _ hm => in_nil hm) rfl rfl rfl rfl rfl rfl rfl rfl ?_; rintro v_ Lo_ ⟨Ad, cd, rfl, rfl⟩)) | refine wz ?_ | (refine wzb ?_; intro b_) | fail)
      refine cx_cond rfl (fun h => Bool.noConfusion (show false = true from h)) (fun _ => ?_)
      repeat (first | refine wz ?_ | (refine wzb ?_; intro b_) | fail)
      refine cx_cond rfl (fun h => Bool.noConfusion (show false = true from h)) (fun _ => ?_)
      repeat (first | refine wz ?_ | (refine wzb ?_; intro b_) | fail)
      refine cx_cond rfl (fun h => Bool.noConfusion (show false = true from h)) (fun _ => ?_)
      repeat (first | refine wz ?_ | (refine wzb ?_; intro b_) | fail)
      refine cx_cond rfl (fun h => Bool.noConfusion (show false = true from h)) (fun _ => ?_)
      repeat (first | refine wz ?_ | (refine wzb ?_; intro b_) | fail)
      refine cx_cond rfl (fun _ => ?_) (fun h => Bool.noConfusion (show true = false from h))
      repeat (first | ((first | (apply lx_u; exact rfl) | (apply lx_g; exact rfl; exact rfl)); first | (apply isy_load; exact q_lr 4 rfl rfl rfl rfl rfl) | (apply isy_load; exact q_lr 5 rfl rfl rfl rfl rfl) | (apply isy_load; exact q_lr 6 rfl rfl rfl rfl rfl) | (apply isy_load; exact q_lr 7 rfl rfl rfl rfl rfl) | fail) | (refine isx_blt ?_; refine lx_appB (E := EV) 4 ([7#8] ++ be 4 (id.setWidth 64)) (be 8 le) rfl (be_len _ _).symm rfl rfl rfl rfl rfl rfl rfl rfl rfl rfl rfl (fun _ hm => row_own 1 rfl hm) (by simp only [List.length_append, pk.be_len, pk.txt_len, List.length_cons, List.length_nil]; omega) (fun _ _ _ => trivial) ?_; intro A_ c_) | refine wz ?_ | (refine wzb ?_; intro b_) | fail)
      repeat (first | refine wz ?_ | (refine wzb ?_; intro b_) | fail)
      exact bq_ret (ret_tmp2 rfl rfl rfl) [_] (Gives.pick [4] (by decide) rfl) rfl ⟨_, _, rfl, rfl⟩
    · have he : RQ.hd (RQ.mk 8#8 id pg du at_ le so ky to_ ls ms) ++ (pts (RQ.k (RQ.mk 8#8 id pg du at_ le so ky to_ ls ms))).flatMap (RQ.encP (RQ.mk 8#8 id pg du at_ le so ky to_ ls ms)) = ([8#8] ++ be 4 (id.setWidth 64)) := by
        show ([8#8] ++ be 4 (id.setWidth 64)) ++ [] = _
        simp only [List.append_assoc, List.append_nil, List.cons_append, List.nil_append]
      rw [he]
      clear he
      refine fn_enter Tryz.func41 rfl rfl (by kernel_rfl) rfl ?_; intro w0
      repeat (first | (refine isx_call ?_; refine lx_gcallt (hr) (fun _ hm => in_nil hm) rfl rfl rfl rfl rfl rfl rfl ?_) | refine wzf ?_ | (refine wzb ?_; intro b_) | fail)
      refine cx_cond rfl (fun h => Bool.noConfusion (show false = true from h)) (fun _ => ?_)
      repeat (first | ((first | (apply lx_u; exact rfl) | (apply lx_g; exact rfl; exact rfl)); first | (apply isy_convert; exact q_cv uk64 id rfl rfl rfl rfl) | fail) | (refine isx_call ?_; (refine lx_call0 (rNumber_fn (id.setWidth 64) 4 (by decide)) (fun _ hm => in_nil hm) rfl rfl rfl rfl rfl rfl rfl rfl ?_; rintro v_ Lo_ ⟨A_, c_, rfl, rfl⟩)) | refine wz ?_ | (refine wzb ?_; intro b_) | fail)
      refine lx_weak (Gives.blkown 1 (m := 1) (sz := 1) rfl rfl (by decide)) ?_
      repeat (first | (refine isx_blt ?_; refine lx_appB (E := EV) 1 [8#8] (be 4 (id.setWidth 64)) rfl (be_len _ _).symm rfl rfl rfl rfl rfl rfl rfl rfl rfl rfl rfl (fun _ hm => row_own 0 rfl hm) (by simp only [List.length_append, pk.be_len, pk.txt_len, List.length_cons, List.length_nil]; omega) (fun _ _ _ => trivial) ?_; intro A_ c_) | refine wz ?_ | (refine wzb ?_; intro b_) | fail)
      generalize A_ = A0
      generalize c_ = c0
      rename_i b1 _ _ _
      refine cx_draw [2, 5] [.blk b1 (RQ.cells (RQ.mk 8#8 id pg du at_ le so ky to_ ls ms)) 53] rfl (by kernel_rfl) (Gives.pick [2] (by decide) rfl) ?_
      repeat (first | (refine isx_call ?_; (refine isx_call ?_; refine lx_call0 (rNumber_fn at_ 8 (by decide)) (fun _ hm => in_nil hm) rfl rfl rfl rfl rfl rfl rfl rfl ?_; rintro v_ Lo_ ⟨Aa, ca, rfl, rfl⟩)) | refine wz ?_ | (refine wzb ?_; intro b_) | fail)
      repeat (first | (refine isx_call ?_; (refine isx_call ?_; refine lx_call0 (rNumber_fn le 8 (by decide)) (fun _ hm => in_nil hm) rfl rfl rfl rfl rfl rfl rfl rfl ?_; rintro v_ Lo_ ⟨Al, cl, rfl, rfl⟩)) | refine wz ?_ | (refine wzb ?_; intro b_) | fail)
      repeat (first | ((first | (apply lx_u; exact rfl) | (apply lx_g; exact rfl; exact rfl)); first | (apply isy_convert; exact q_cv uk64 du rfl rfl rfl rfl) | (apply isy_load; exact q_lr 4 rfl rfl rfl rfl rfl) | (apply isy_load; exact q_lr 5 rfl rfl rfl rfl rfl) | fail) | (refine isx_call ?_; (refine isx_call ?_; refine lx_call0 (rNumber_fn (du.setWidth 64) 2 (by decide)) (fun _ hm => in_nil hm) rfl rfl rfl rfl rfl rfl rfl rfl ?_; rintro v_ Lo_ ⟨Ad, cd, rfl, rfl⟩)) | refine wz ?_ | (refine wzb ?_; intro b_) | fail)
      refine cx_cond rfl (fun h => Bool.noConfusion (show false = true from h)) (fun _ => ?_)
      repeat (first | refine wz ?_ | (refine wzb ?_; intro b_) | fail)
      refine cx_cond rfl (fun h => Bool.noConfusion (show false = true from h)) (fun _ => ?_)
      repeat (first | refine wz ?_ | (refine wzb ?_; intro b_) | fail)
      refine cx_cond rfl (fun h => Bool.noConfusion (show false = true from h)) (fun _ => ?_)
      repeat (first | refine wz ?_ | (refine wzb ?_; intro b_) | fail)
      refine cx_cond rfl (fun h => Bool.noConfusion (show false = true from h)) (fun _ => ?_)
      repeat (first | refine wz ?_ | (refine wzb ?_; intro b_) | fail)
      refine cx_cond rfl (fun h => Bool.noConfusion (show false = true from h)) (fun _ => ?_)
      repeat (first | refine wz ?_ | (refine wzb ?_; intro b_) | fail)
      refine cx_cond rfl (fun h => Bool.noConfusion (show false = true from h)) (fun _ => ?_)
      repeat (first | refine wz ?_ | (refine wzb ?_; intro b_) | fail)
      refine cx_cond rfl (fun h => Bool.noConfusion (show false = true from h)) (fun _ => ?_)
      repeat (first | refine wz ?_ | (refine wzb ?_; intro b_) | fail)
      exact bq_ret (ret_tmp2 rfl rfl rfl) [_] (Gives.pick [4] (by decide) rfl) rfl ⟨_, _, rfl, rfl⟩

end Go.Proofs.YtmochicneilhhaaGreat.rq
