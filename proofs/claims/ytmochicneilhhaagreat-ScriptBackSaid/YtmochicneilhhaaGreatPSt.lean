/- A store into an element of an own row. -/
import Derived.Test.YtmochicneilhhaaGreatPSm
namespace Go.Proofs.YtmochicneilhhaaGreat
open Go.RowKit
section
variable {P : Program} {n : Nat} {M : Me} {Q : Post} {t : Fr} {L : List Ck} {ops : Array Oper} {s : Way} {i : Nat} {rest : List Oper}
theorem take_mid (l v : List Value) (c N : Nat) (h1 : N ≤ l.length) (h2 : c + v.length ≤ N) : (l.take (c + 0) ++ v ++ l.drop (c + 0 + v.length)).take N = (l.take N).take c ++ v ++ (l.take N).drop (c + v.length) := by
  rw [Nat.add_zero, List.take_append, List.take_of_length_le (by simp; omega), List.drop_take, List.take_take, Nat.min_eq_left (by omega)]
  congr 2
  simp
  omega
theorem Mem.storeI {E : Env P} {w : World} {k m cap sz c : Nat} {A : Option Addr} {T T' : TypeId} {xs : List Value} {j : TyI} {v : Value} (hm : Mem M L w) (hT : E.f T = some j) (hk : L[k]? = some (.own A m cap T' sz xs)) (hv : (cellsL v).length = j.size) (hpos : 0 < j.size)
    (hfit : c + j.size ≤ xs.length) (h1 : (cellsL v).all Value.oneCell' = true) : ∃ a, (A.map fun a => a.add c) = some a ∧ ∃ w', (Go.storeVar T a v).run P w = .ok () w' ∧ Mem M (L.set k (.own A m cap T' sz (setL xs c (cellsL v)))) w' := by
  have hs := E.size hT w
  have hown : w.ownsRow 0 T' sz (.slice A m cap) m xs := hm.get hk
  obtain ⟨hl, ho⟩ := hown
  rcases ho with ⟨hv0, hm0⟩ | ⟨g, cap', cur, hv', _, hg, hmc, hcm, hcs, htake⟩
  · subst hm0
    rw [Nat.zero_mul] at hl
    omega
  · simp only [Value.slice.injEq, true_and] at hv'
    obtain ⟨rfl, rfl⟩ := hv'
    have hxs : xs.length ≤ cur.size := by rw [← htake]; simp; omega
    refine ⟨⟨g, c, none⟩, ?_, ?_⟩
    · simp only [Option.map_some, add_at, Nat.zero_add]
    have hrun := run_storeCells_at P g c T' (cellsL v) 0 cur w hg (by omega) (fun u hu => List.all_eq_true.1 h1 u hu)
    have hsz : (w.setRow g (cur.toList.take (c + 0) ++ cellsL v ++ cur.toList.drop (c + 0 + (cellsL v).length)).toArray).heap.size = w.heap.size := by simp [World.setRow]
    refine ⟨w.setRow g (cur.toList.take (c + 0) ++ cellsL v ++ cur.toList.drop (c + 0 + (cellsL v).length)).toArray, ?_, hm.turn (c' := .own (some ⟨g, 0, none⟩) m cap T' sz (setL xs c (cellsL v))) hk rfl (fun g hg => .inl hg) rfl rfl rfl (by rw [hsz]; exact Nat.le_refl _) (fun b _ hne => setRow_other _ _ _ _ (fun e => hne (congrArg some e.symm))) ?_⟩
    · unfold Go.storeVar
      simp only [cellsL_ok, List.size_toArray, Sem.run_bind, hs, Result.andThen_ok, hv, ne_eq, not_true_eq_false, if_false]
      simpa [hv] using hrun
    · refine ⟨by rw [setL_length _ _ _ (by omega)]; exact hl, .inr ⟨g, cap, _, rfl, Nat.zero_le _, setRow_heap w g cur _ T' (0, 0) hg, hmc, hcm, ?_, ?_⟩⟩
      · simp only [List.size_toArray, List.length_append, List.length_take, List.length_drop, Array.length_toList]
        omega
      · rw [setL_eq _ _ _ (by omega), ← htake]
        exact take_mid _ _ _ _ (by simp; omega) (by omega)
theorem lx_storeI {E : Env P} {T : TypeId} {x y : Operand} {ty : TypeId} {pos : String} {after : Array Edge} {guard : Option (Nat × Bool)} {v : Value} (k : Nat) {m cap sz c : Nat} {A : Option Addr} {T' : TypeId} {xs : List Value} {j : TyI} (hl : s.loud i = true) {p : Option Bool} (hg : gOf ops t ⟨none, .store T x y, ty, pos, after, guard⟩ = some p) (hp : cb p = true)
    (hx : o1 t x = some (atI A c)) (hy : o1 t y = some v) (hT : E.f T = some j) (hk : L[k]? = some (.own A m cap T' sz xs)) (hv : (cellsL v).length = j.size) (hpos : Nat.blt 0 j.size = true) (hfit : c + j.size ≤ xs.length) (h1 : (cellsL v).all Value.oneCell' = true)
    (hgs : s.gives L → s.gives (L.set k (.own A m cap T' sz (setL xs c (cellsL v)))))
    (h : LX P n M ops s (i + 1) rest Q t (L.set k (.own A m cap T' sz (setL xs c (cellsL v))))) : LX P n M ops s i (⟨none, .store T x y, ty, pos, after, guard⟩ :: rest) Q t L :=
  lx_loud hl hg hp fun a w hf hm hs K hK => by
    obtain ⟨ad, ha, w', hr, hm'⟩ := hm.storeI hT hk hv (Nat.le_of_ble_eq_true hpos) hfit h1
    unfold Oper.wp execOp
    simp only [hf.o1 hx, hf.o1 hy, atI, ha, Instr.storeAt, Instr.sureAddr, Sem.run_bind, Sem.run_pure, Result.andThen_ok, hr]
    exact hK _ _ _ _ hf hm' (hgs hs) h
end
end Go.Proofs.YtmochicneilhhaaGreat
