/- More rules: calls told by the places of the chunks that they are handed. -/
import Derived.Test.YtbhbimfljjgijaaEt
import Derived.Test.YtbhbimfljjgijaaSc
import Derived.Deep.OwnRows
namespace Go.Proofs.Ytbhbimfljjgijaa
open Go.RowKit
section
variable {P : Program} {n : Nat} {M : Me} {Q : Post} {t : Fr} {L : List Ck} {ops : Array Oper} {s : Way} {i : Nat} {rest : List Oper}
/-- what may change lies in the blocks of D -/
def AllD (D : List Nat) : List Ck → Prop
  | [] => True
  | .blk b _ _ :: r => b ∈ D ∧ AllD D r
  | .own A _ _ _ _ _ :: r => (∀ b, A.map (·.block) = some b → b ∈ D) ∧ AllD D r
  | .obj b _ :: r => b ∈ D ∧ AllD D r
  | _ :: r => AllD D r
theorem AllD.spec {D : List Nat} : ∀ {L : List Ck}, AllD D L → ∀ c ∈ L, c.mut_ = true → ∀ b, c.on b → b ∈ D
  | c' :: r, h, c, hc, hm, b, hb => by
    rcases List.mem_cons.1 hc with rfl | hc
    · cases c with
      | blk g cs T => cases hb; exact h.1
      | own A n c T sz xs => exact h.1 b hb
      | ro => cases hm
      | deep => cases hm
      | obj g o => cases hb; exact h.1
    · refine AllD.spec (L := r) ?_ c hc hm b hb
      cases c' with
      | blk g cs T => exact h.2
      | own A n c T sz xs => exact h.2
      | ro => exact h
      | deep => exact h
      | obj g o => exact h.2
/-- chunks that are only read, as a call is handed them -/
theorem Mem.ros {w : World} (h : Mem M L w) (ks : List Nat) (hn : ks.Nodup) {L' : List Ck} (he : pickL L ks = L') (hm : L'.all (fun c => !c.mut_) = true) : Mem ⟨w, []⟩ L' w := h.enter ks hn he fun c hc hcm => by
  have := List.all_eq_true.1 hm c hc
  rw [hcm] at this
  cases this
/-- what is known less, or otherwise -/
theorem lx_weak {L' : List Ck} (hg : Gives L L') (h : LX P n M ops .seq i rest Q t L') : LX P n M ops .seq i rest Q t L := fun _ a w hf hm => h trivial a w hf (hg M w hm)
theorem cx_weakL {c : Code} {L' : List Ck} (hg : Gives L L') (h : CX P n M c Q t L') : CX P n M c Q t L := fun a w hf hm => h a w hf (hg M w hm)
/-- a call that is handed the chunks of ki, of which it may change those of k1; those of k2 stay -/
theorem lx_callk {dst : Option Tmp} {fx : Operand} {xs : Array Operand} {ts : Array TypeId} {ty : TypeId} {pos : String} {after : Array Edge} {guard : Option (Nat × Bool)} {d : Nat} {f : FuncId} {first captured : Array Value} {vs args : List Value} {Lin : List Ck} {D : List Nat} {post : Value → List Ck → Prop}
    (h : Fn P f args Lin D post) (ki k1 k2 : List Nat) {L1 L2 : List Ck} (hi : pickL L ki = Lin) (e1 : pickL L k1 = L1) (e2 : pickL L k2 = L2) (hni : ki.Nodup) (hnn : (k1 ++ k2).Nodup) (hin : AllD D Lin) (hD : ∀ b ∈ D, ∃ c ∈ L1, c.mut_ = true ∧ c.on b) (hgs : ∀ Lo, s.gives L → s.gives (Lo ++ L2))
    (hl : s.loud i = true) {p : Option Bool} (hg : gOf ops t ⟨dst, .call ⟨.value fx, xs, ts⟩, ty, pos, after, guard⟩ = some p) (hp : cb p = true) (hd : dst = some d) (hn : Nat.blt d n = true) (hx : o1 t fx = some (.func (.func f) first captured)) (hxs : o1s t xs.toList = some vs) (hargs : first.toList ++ vs ++ captured.toList = args)
    (hk : ∀ v Lo, post v Lo → LX P n M ops s (i + 1) rest Q ((d, none, v) :: t) (Lo ++ L2)) : LX P n M ops s i (⟨dst, .call ⟨.value fx, xs, ts⟩, ty, pos, after, guard⟩ :: rest) Q t L :=
  lx_call h L1 L2 (Gives.pick (k1 ++ k2) hnn (by rw [← e1, ← e2]; exact List.filterMap_append ..)) (fun _ hm => hm.enter ki hni hi hin.spec) hD hgs hl hg hp hd hn hx hxs hargs hk
theorem made_list (z : Value) (m : Nat) : madeCells #[z] m = (List.replicate m z).toArray := by
  apply Array.ext
  · simp [madeCells]
  · intro i h1 h2
    simp [madeCells, Nat.mod_one]
/-- 'make', of so many elements of one cell each -/
theorem lx_make {E : Env P} {T : TypeId} {x y : Operand} {dst : Option Tmp} {ty : TypeId} {pos : String} {after : Array Edge} {guard : Option (Nat × Bool)} {d : Nat} {e : TypeId} {j : TyI} {z : Value} {kl kc : IntKind} {m1 m2 : Int} (m : Nat) (hl : s.loud i = true) {p : Option Bool} (hg : gOf ops t ⟨dst, .makeSlice T x y, ty, pos, after, guard⟩ = some p) (hp : cb p = true) (hd : dst = some d) (hn : Nat.blt d n = true)
    (hx : o1 t x = some (.int kl m1)) (hy : o1 t y = some (.int kc m2)) (h1 : m1 = m) (h2 : m2 = m) (hT : tyOf E.f T = .slice e) (he : E.f e = some j) (hz : j.zero = some z) (hs : j.size = 1) (hz1 : cellsL z = [z]) (hb : j.bytes * m ≤ 281474976710656) (h63 : m ≤ 9223372036854775807)
    (h : ∀ b, LX P n M ops s (i + 1) rest Q ((d, none, .slice (some ⟨b, 0, none⟩) m m) :: t) (.blk b (List.replicate m z) e :: L)) : LX P n M ops s i (⟨dst, .makeSlice T x y, ty, pos, after, guard⟩ :: rest) Q t L :=
  lx_new hl hg hp hd hn (fun b => .slice (some ⟨b, 0, none⟩) m m) (fun a w hf => by
    obtain ⟨g, hgi, g1, g2, g3⟩ := E.info he
    have hr := run_make_row (P := P) T e g z (tyOf_slice hT) hgi (g3.trans hz) (g1.trans hs) (by rw [cellsL_ok, hz1]) kl kc m (by rw [g2]; exact hb) h63 w
    have e1 := hf.o1 hx
    have e2 := hf.o1 hy
    rw [h1] at e1
    rw [h2] at e2
    rw [made_list] at hr
    unfold execOp
    refine run_v2 ?_
    rw [e1, e2]
    exact hr) h
end
end Go.Proofs.Ytbhbimfljjgijaa
