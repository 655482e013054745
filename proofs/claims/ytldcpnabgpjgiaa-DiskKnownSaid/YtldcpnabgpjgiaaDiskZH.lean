/-
  Small laws for the walks of the disk's statements.
-/
import Derived.Test.YtldcpnabgpjgiaaDiskZA
import Derived.Deep.LoopGhost
import Derived.Deep.CutRange
import Derived.IntWalk
namespace Go.Proofs.Ytldcpnabgpjgiaa.Walks
open Go.RowKit Plain
set_option linter.unusedVariables false

theorem says_order (e : Int) (l : List Value) (a : Addr) (w : World) (h : OutV w l (againO (mapC e 3 (fun _ => none)) Ou.zero)) (hI : IL w (some a) [5, 6, 7, 8]) :
    Calls Try.prog 55 #[.agg l.toArray, .int .i64 0, .slice (some a) 4 4, .int .i64 1, .agg #[.int .i64 31, .int .i64 2, .int .i64 1, .int .i64 e, .int .i64 1, .int .i64 3, .slice none 0 0, .int .i64 0, .int .i64 0, .slice none 0 0]] w fun en w' => en = .returned (.bool true) ∧ Below w.heap.size w w' :=
  says_is l (againO (mapC e 3 (fun _ => none)) Ou.zero) 1 (lookW e) fiveL (some a) 4 4 none 0 w h rfl rfl rfl rfl hI (BL.nil _ _)
theorem Sys.setCell {B : Nat} {w : World} {p N : Nat} {c : Cl} (h : Sys B w p N c) {g : Nat} {l : List Value} {t : TypeId} (hb : Blk w g l t) (ht : t ≠ 3 ∧ t ≠ 5 ∧ t ≠ 88) (ht' : t ≠ 113) (i : Nat) (v : Value) : Sys B (w.setCell ⟨g, i, none⟩ v) p N c := by
  obtain ⟨r1, r2, ⟨da, dc, la, lc, cf, cs, said, am, hP, hM⟩, h2⟩ := h
  have hk := Keeps.set hb ht i v
  exact ⟨r1, r2, ⟨da, dc, la, lc, cf, cs, said, am, hP.other (hP.ne hb (Ne.symm ht')) i v, hM.same (heap_setCell_ne (hM.ne hb).1) (fun hw => heap_setCell_ne ((hM.ne hb).2 hw)) hk⟩, h2⟩
theorem bring4' (i : Int) : 0 ≤ bringI i 4 ∧ bringI i 4 < 4 := ⟨bringI_nonneg _ _, bringI_lt _ (by decide)⟩
theorem in4 {x : Int} (h : 0 ≤ x ∧ x < 4) : x = 0 ∨ x = 1 ∨ x = 2 ∨ x = 3 := by omega
theorem mem4 {x : Int} (h : 0 ≤ x ∧ x < 4) : x ∈ [(0 : Int), 1, 2, 3] := by
  rcases in4 h with rfl | rfl | rfl | rfl <;> simp
end Go.Proofs.Ytldcpnabgpjgiaa.Walks
