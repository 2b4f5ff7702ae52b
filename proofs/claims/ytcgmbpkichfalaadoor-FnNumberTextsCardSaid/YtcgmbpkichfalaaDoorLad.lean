/- What the laid variables give the walks: the table of the powers of ten, the two errors' cells, and MaxLen's cell. No condition. -/
import Derived.Test.YtcgmbpkichfalaaDoorRows
import Derived.LaidMore
import Derived.Lib.LaidTab
import Derived.Lib.ItoaNum
import Derived.Shelf.Vars
import Derived.Shelf.Unicode.PredsPay
import Derived.Stop.LaidErr
namespace Go.Proofs.YtcgmbpkichfalaaDoor
open Go.RowKit

/-- the powers of ten lie there -/
def TabW (w : World) : Prop := Lib.TabIs Tryd.prog w "internal/strconv.uint64pow10" .u64 Lib.pow10Tab
/-- .. and the two errors, and MaxLen -/
def LaidW (w : World) : Prop := TabW w ∧ (∃ t p, w.cell? ⟨1, 0, none⟩ = some (.iface t p)) ∧ (∃ t p, w.cell? ⟨2, 0, none⟩ = some (.iface t p)) ∧ ∃ m, w.cell? ⟨0, 0, none⟩ = some (.int .i64 m)
theorem gPow : Tryd.prog.globalNamed "internal/strconv.uint64pow10" = some 3 := by kernel_rfl
theorem gSyn : Tryd.prog.globalNamed "strconv.ErrSyntax" = some 1 := by kernel_rfl
theorem gRan : Tryd.prog.globalNamed "strconv.ErrRange" = some 2 := by kernel_rfl
theorem TabW.keep {w w' : World} (h : TabW w) (hb : Below w.heap.size w w') : TabW w' := TabIs_below gPow h hb
theorem LaidW.keep {w w' : World} (h : LaidW w) (hb : Below w.heap.size w w') : LaidW w' := by
  obtain ⟨h1, ⟨t2, p2, h2⟩, ⟨t3, p3, h3⟩, m, h4⟩ := h
  exact ⟨h1.keep hb, ⟨t2, p2, cell_below hb h2⟩, ⟨t3, p3, cell_below hb h3⟩, m, cell_below hb h4⟩
theorem TabW.drewN {w : World} (h : TabW w) (n : Nat) : TabW (w.drewN n) := h
theorem LaidW.drewN {w : World} (h : LaidW w) (n : Nat) : LaidW (w.drewN n) := h
theorem tab_data : (Rows.laid_internal_strconv_uint64pow10 : DataW Unit) = Lib.tabData .u64 Lib.pow10Tab := by kernel_rfl
theorem tabW_tail {r : List (String × DataW Unit)} {W : World} (h : laidMet Tryd.prog (("internal/strconv.uint64pow10", Rows.laid_internal_strconv_uint64pow10) :: r) W) : TabW W := by
  rw [tab_data] at h
  exact Lib.tabIs_of_head gPow (show (Tryd.prog.globals[3]?).map (·.type) = some 89 by kernel_rfl) Tryd.underlying89 Tryd.underlying53 (by kernel_rfl) (by kernel_rfl) h
/-- of the row that lists three -/
theorem tabW_of {W : World} (h : laidMetH Tryd.prog Rows.fnExactNumberTextRow.laid W) : TabW W := by
  rw [MakeChecks.laidMetH_plain _ _ _ (by kernel_rfl)] at h
  exact tabW_tail (h.tail.tail)
theorem star : "*" ++ "errors.errorString" = "*errors.errorString" := by decide
theorem rowErr (u : TypeId) (h : Tryd.prog.typeName? 3 u = some "*errors.errorString") : u = 94 :=
  typeName_ptr_named (nm := "errors.errorString") (by rw [star]; kernel_rfl) (by kernel_rfl) (by decide) u (by rw [star]; exact h)
theorem err_of {n : String} {text : List UInt8} {g : Nat} {r : List (String × DataW Unit)} {W : World} (h : laidMet Tryd.prog ((n, .iface "*errors.errorString" (.ptr (.agg [.lit (.string text)]))) :: r) W)
    (hg : Tryd.prog.globalNamed n = some g) (ht : (Tryd.prog.globals[g]?).map (·.type) = some 58) : ∃ t p, W.cell? ⟨g, 0, none⟩ = some (.iface t p) := by
  obtain ⟨a, s, hv, _⟩ := laid_sentinel h hg ht Tryd.underlying58 rowErr Tryd.underlying94 Tryd.underlying96 rfl rfl Tryd.underlying9 (by kernel_rfl) (by kernel_rfl)
  exact ⟨_, _, by simpa using World.var?_cell hg hv 0⟩
/-- of the rows that list five -/
theorem laidW_of {W : World} (h : laidMetH Tryd.prog Rows.fnExactParseNumberRow.laid W) (hS : W.ShapedOpen Tryd.prog) : LaidW W := by
  rw [MakeChecks.laidMetH_plain _ _ _ (by kernel_rfl)] at h
  refine ⟨tabW_tail (h.tail.tail), err_of (h.tail.tail.tail.tail) gSyn (by kernel_rfl), err_of (h.tail.tail.tail) gRan (by kernel_rfl), ?_⟩
  exact cell_of_shapedOpen_int (P := Tryd.prog) (g := 0) (t := 3) (zero := #[.int .i64 0]) hS (of_decide_eq_true (by kernel_rfl)) (by kernel_rfl) rfl (by kernel_rfl) (by kernel_rfl) Tryd.underlying3
end Go.Proofs.YtcgmbpkichfalaaDoor
