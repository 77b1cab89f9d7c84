/- A value semantics of the model's programs, sound against it, and functions read off the given program with the proofs that it runs so; no condition. -/
import Derived.Test.YtobjdbpikecnnaaOwnC
import Derived.Test.YtobjdbpikecnnaaChecked
set_option linter.all false
set_option linter.unnecessarySimpa false
set_option linter.unusedVariables false
set_option linter.unusedSimpArgs false
/- part GT -/
/- Types of the program, as data. -/
namespace Go.Val
set_option linter.unusedVariables false
set_option linter.unusedSimpArgs false
structure TEdge where
  Label : UInt8
  To : Int
  deriving DecidableEq, Inhabited
def eEdge (x : TEdge) : DVal := .agg [.int .u8 (x.Label.toNat : Int), .int .i64 x.To]
instance : Enc eEdge 2 := ⟨fun _ => rfl, fun n x => by simp only [eEdge, DVal.under, underL, under_map, and_self]⟩
attribute [go_sem] eEdge
structure TGraph where
  Final : List Bool
  Edges : List (List TEdge)
  deriving DecidableEq, Inhabited
def eGraph (x : TGraph) : DVal := .agg [.sl (List.map eB x.Final), .sl (List.map (eL eEdge) x.Edges)]
instance : Enc eGraph 2 := ⟨fun _ => rfl, fun n x => by simp only [eGraph, DVal.under, underL, under_map, and_self]⟩
attribute [go_sem] eGraph
structure Tdawg_builder where
  Graph : TGraph
  known : List (Str × Int)
  deriving DecidableEq, Inhabited
structure Tscansionref17_maker where
  g : TGraph
  ends : List Str
  deriving DecidableEq, Inhabited
def escansionref17_maker (x : Tscansionref17_maker) : DVal := .agg [.sl (List.map eB x.g.Final), .sl (List.map (eL eEdge) x.g.Edges), .sl (List.map eS x.ends)]
instance : Enc escansionref17_maker 3 := ⟨fun _ => rfl, fun n x => by simp only [escansionref17_maker, DVal.under, underL, under_map, and_self]⟩
attribute [go_sem] escansionref17_maker
end Go.Val

/- part GX -/
/- Facts of the program. -/
namespace Go.Val
set_option linter.unusedVariables false
set_option linter.unusedSimpArgs false
open Go.Proofs
noncomputable def CT : Ctx := { P := Try.prog, how := fun f i => .data, gives := fun f => .data }
theorem CT_P : CT.P = Try.prog := rfl
def someWorld : World := ⟨#[], fun _ _ => 0, 0, default, default⟩
theorem CT_gives15 : CT.gives 15 = .data := by simp [CT]
theorem CT_gives35 : CT.gives 35 = .data := by simp [CT]
theorem CT_gives34 : CT.gives 34 = .data := by simp [CT]
theorem CT_gives27 : CT.gives 27 = .data := by simp [CT]
theorem CT_gives26 : CT.gives 26 = .data := by simp [CT]
theorem CT_gives33 : CT.gives 33 = .data := by simp [CT]
theorem CT_gives55 : CT.gives 55 = .data := by simp [CT]
theorem CT_gives30 : CT.gives 30 = .data := by simp [CT]
theorem CT_gives37 : CT.gives 37 = .data := by simp [CT]
theorem CT_gives39 : CT.gives 39 = .data := by simp [CT]
theorem CT_gives50 : CT.gives 50 = .data := by simp [CT]
theorem CT_gives74 : CT.gives 74 = .data := by simp [CT]
theorem CT_gives75 : CT.gives 75 = .data := by simp [CT]
theorem CT_gives18 : CT.gives 18 = .data := by simp [CT]
theorem CT_gives22 : CT.gives 22 = .data := by simp [CT]
theorem CT_gives19 : CT.gives 19 = .data := by simp [CT]
theorem CT_gives73 : CT.gives 73 = .data := by simp [CT]
theorem CT_gives71 : CT.gives 71 = .data := by simp [CT]
theorem CT_gives70 : CT.gives 70 = .data := by simp [CT]
theorem CT_gives69 : CT.gives 69 = .data := by simp [CT]
theorem CT_gives48 : CT.gives 48 = .data := by simp [CT]
theorem CT_gives76 : CT.gives 76 = .data := by simp [CT]
theorem CT_gives77 : CT.gives 77 = .data := by simp [CT]
theorem CT_gives52 : CT.gives 52 = .data := by simp [CT]
theorem CT_gives20 : CT.gives 20 = .data := by simp [CT]
theorem CT_gives36 : CT.gives 36 = .data := by simp [CT]
theorem CT_gives38 : CT.gives 38 = .data := by simp [CT]
theorem CT_gives72 : CT.gives 72 = .data := by simp [CT]
theorem CT_gives49 : CT.gives 49 = .data := by simp [CT]
theorem CT_gives16 : CT.gives 16 = .data := by simp [CT]
theorem CT_gives51 : CT.gives 51 = .data := by simp [CT]
theorem CT_gives17 : CT.gives 17 = .data := by simp [CT]
theorem CT_gives14 : CT.gives 14 = .data := by simp [CT]
theorem CT_gives3 : CT.gives 3 = .data := by simp [CT]
theorem CT_gives4 : CT.gives 4 = .data := by simp [CT]
theorem CT_gives5 : CT.gives 5 = .data := by simp [CT]
theorem CT_gives7 : CT.gives 7 = .data := by simp [CT]
theorem CT_gives9 : CT.gives 9 = .data := by simp [CT]
theorem CT_gives10 : CT.gives 10 = .data := by simp [CT]
theorem CT_how15_0 : CT.how 15 0 = .data := by simp [CT]
theorem CT_how35_0 : CT.how 35 0 = .data := by simp [CT]
theorem CT_how34_0 : CT.how 34 0 = .data := by simp [CT]
theorem CT_how34_1 : CT.how 34 1 = .data := by simp [CT]
theorem CT_how27_0 : CT.how 27 0 = .data := by simp [CT]
theorem CT_how26_0 : CT.how 26 0 = .data := by simp [CT]
theorem CT_how33_0 : CT.how 33 0 = .data := by simp [CT]
theorem CT_how55_0 : CT.how 55 0 = .data := by simp [CT]
theorem CT_how55_1 : CT.how 55 1 = .data := by simp [CT]
theorem CT_how55_2 : CT.how 55 2 = .data := by simp [CT]
theorem CT_how30_0 : CT.how 30 0 = .data := by simp [CT]
theorem CT_how30_1 : CT.how 30 1 = .data := by simp [CT]
theorem CT_how37_0 : CT.how 37 0 = .data := by simp [CT]
theorem CT_how37_1 : CT.how 37 1 = .data := by simp [CT]
theorem CT_how39_0 : CT.how 39 0 = .data := by simp [CT]
theorem CT_how39_1 : CT.how 39 1 = .data := by simp [CT]
theorem CT_how50_0 : CT.how 50 0 = .data := by simp [CT]
theorem CT_how74_0 : CT.how 74 0 = .data := by simp [CT]
theorem CT_how75_0 : CT.how 75 0 = .data := by simp [CT]
theorem CT_how75_1 : CT.how 75 1 = .data := by simp [CT]
theorem CT_how18_0 : CT.how 18 0 = .data := by simp [CT]
theorem CT_how18_1 : CT.how 18 1 = .data := by simp [CT]
theorem CT_how22_0 : CT.how 22 0 = .data := by simp [CT]
theorem CT_how22_1 : CT.how 22 1 = .data := by simp [CT]
theorem CT_how19_0 : CT.how 19 0 = .data := by simp [CT]
theorem CT_how73_0 : CT.how 73 0 = .data := by simp [CT]
theorem CT_how73_1 : CT.how 73 1 = .data := by simp [CT]
theorem CT_how71_0 : CT.how 71 0 = .data := by simp [CT]
theorem CT_how71_1 : CT.how 71 1 = .data := by simp [CT]
theorem CT_how70_0 : CT.how 70 0 = .data := by simp [CT]
theorem CT_how70_1 : CT.how 70 1 = .data := by simp [CT]
theorem CT_how69_0 : CT.how 69 0 = .data := by simp [CT]
theorem CT_how48_0 : CT.how 48 0 = .data := by simp [CT]
theorem CT_how76_0 : CT.how 76 0 = .data := by simp [CT]
theorem CT_how76_1 : CT.how 76 1 = .data := by simp [CT]
theorem CT_how77_0 : CT.how 77 0 = .data := by simp [CT]
theorem CT_how77_1 : CT.how 77 1 = .data := by simp [CT]
theorem CT_how77_2 : CT.how 77 2 = .data := by simp [CT]
theorem CT_how52_0 : CT.how 52 0 = .data := by simp [CT]
theorem CT_how52_1 : CT.how 52 1 = .data := by simp [CT]
theorem CT_how20_0 : CT.how 20 0 = .data := by simp [CT]
theorem CT_how20_1 : CT.how 20 1 = .data := by simp [CT]
theorem CT_how36_0 : CT.how 36 0 = .data := by simp [CT]
theorem CT_how36_1 : CT.how 36 1 = .data := by simp [CT]
theorem CT_how38_0 : CT.how 38 0 = .data := by simp [CT]
theorem CT_how38_1 : CT.how 38 1 = .data := by simp [CT]
theorem CT_how72_0 : CT.how 72 0 = .data := by simp [CT]
theorem CT_how72_1 : CT.how 72 1 = .data := by simp [CT]
theorem CT_how72_2 : CT.how 72 2 = .data := by simp [CT]
theorem CT_how49_0 : CT.how 49 0 = .data := by simp [CT]
theorem CT_how49_1 : CT.how 49 1 = .data := by simp [CT]
theorem CT_how49_2 : CT.how 49 2 = .data := by simp [CT]
theorem CT_how16_0 : CT.how 16 0 = .data := by simp [CT]
theorem CT_how51_0 : CT.how 51 0 = .data := by simp [CT]
theorem CT_how51_1 : CT.how 51 1 = .data := by simp [CT]
theorem CT_how17_0 : CT.how 17 0 = .data := by simp [CT]
theorem CT_how3_0 : CT.how 3 0 = .data := by simp [CT]
theorem CT_how4_0 : CT.how 4 0 = .data := by simp [CT]
theorem CT_how5_0 : CT.how 5 0 = .data := by simp [CT]
theorem CT_how5_1 : CT.how 5 1 = .data := by simp [CT]
theorem CT_how5_2 : CT.how 5 2 = .data := by simp [CT]
theorem CT_how7_0 : CT.how 7 0 = .data := by simp [CT]
theorem CT_how9_0 : CT.how 9 0 = .data := by simp [CT]
theorem CT_how9_1 : CT.how 9 1 = .data := by simp [CT]
theorem CT_how9_2 : CT.how 9 2 = .data := by simp [CT]
theorem CT_how10_0 : CT.how 10 0 = .data := by simp [CT]
theorem CT_how10_1 : CT.how 10 1 = .data := by simp [CT]
theorem info9 : Try.prog.info? 9 = some Try.t9 := info_of someWorld Try.typeInfo9
theorem info28 : Try.prog.info? 28 = some Try.t28 := info_of someWorld Try.typeInfo28
theorem info25 : Try.prog.info? 25 = some Try.t25 := info_of someWorld Try.typeInfo25
theorem info26 : Try.prog.info? 26 = some Try.t26 := info_of someWorld Try.typeInfo26
theorem info35 : Try.prog.info? 35 = some Try.t35 := info_of someWorld Try.typeInfo35
theorem info37 : Try.prog.info? 37 = some Try.t37 := info_of someWorld Try.typeInfo37
theorem info5 : Try.prog.info? 5 = some Try.t5 := info_of someWorld Try.typeInfo5
theorem info3 : Try.prog.info? 3 = some Try.t3 := info_of someWorld Try.typeInfo3
theorem info4 : Try.prog.info? 4 = some Try.t4 := info_of someWorld Try.typeInfo4
theorem info76 : Try.prog.info? 76 = some Try.t76 := info_of someWorld Try.typeInfo76
theorem info78 : Try.prog.info? 78 = some Try.t78 := info_of someWorld Try.typeInfo78
theorem info22 : Try.prog.info? 22 = some Try.t22 := info_of someWorld Try.typeInfo22
theorem info82 : Try.prog.info? 82 = some Try.t82 := info_of someWorld Try.typeInfo82
theorem cells9 : Try.prog.cellsOf 9 = 1 := (cells_of info9).trans rfl
theorem cells28 : Try.prog.cellsOf 28 = 2 := (cells_of info28).trans rfl
theorem cells25 : Try.prog.cellsOf 25 = 1 := (cells_of info25).trans rfl
theorem cells26 : Try.prog.cellsOf 26 = 1 := (cells_of info26).trans rfl
theorem cells35 : Try.prog.cellsOf 35 = 1 := (cells_of info35).trans rfl
theorem cells37 : Try.prog.cellsOf 37 = 2 := (cells_of info37).trans rfl
theorem cells3 : Try.prog.cellsOf 3 = 1 := (cells_of info3).trans rfl
theorem cells5 : Try.prog.cellsOf 5 = 1 := (cells_of info5).trans rfl
theorem cells4 : Try.prog.cellsOf 4 = 1 := (cells_of info4).trans rfl
theorem cells76 : Try.prog.cellsOf 76 = 1 := (cells_of info76).trans rfl
theorem cells78 : Try.prog.cellsOf 78 = 3 := (cells_of info78).trans rfl
theorem cells22 : Try.prog.cellsOf 22 = 1 := (cells_of info22).trans rfl
theorem cells82 : Try.prog.cellsOf 82 = 3 := (cells_of info82).trans rfl
theorem zeros37 : zeroCVs Try.prog 37 = some [.val (.int .u8 (0 : Int)), .val (.int .i64 (0 : Int))] := by
  unfold zeroCVs isAg; rw [info37, Try.underlying37]; simp [bs, zeroCV, Try.t37]
theorem zeros5 : zeroCVs Try.prog 5 = some [.val (.int .u8 (0 : Int))] := by
  unfold zeroCVs isAg; rw [info5, Try.underlying5]; simp [bs, zeroCV, Try.t5]
theorem zeros3 : zeroCVs Try.prog 3 = some [.val (.int .i64 (0 : Int))] := by
  unfold zeroCVs isAg; rw [info3, Try.underlying3]; simp [bs, zeroCV, Try.t3]
theorem bytes3 : Try.prog.bytesOf 3 = 8 := (bytes_of info3).trans rfl
theorem zd3 : zeroD Try.prog 3 = some (.int .i64 (0 : Int)) := by
  unfold zeroD ofCells isAg; rw [zeros3, cells3, Try.underlying3]; simp [toDs, CV.toD, bs, DVal.cells]
theorem zok3 : zeroOk Try.prog 3 = true := by unfold zeroOk; rw [info3]; rfl
theorem zfits3 : zeroFits Try.prog 3 = true := by unfold zeroFits; rw [info3]; rfl
theorem zok5 : zeroOk Try.prog 5 = true := by unfold zeroOk; rw [info5]; rfl
theorem u8_5 : isU8 Try.prog 5 = true := by unfold isU8; rw [Try.underlying5]
theorem zok9 : zeroOk Try.prog 9 = true := by unfold zeroOk; rw [info9]; rfl
theorem bytes9 : Try.prog.bytesOf 9 = 16 := (bytes_of info9).trans rfl
theorem zfits9 : zeroFits Try.prog 9 = true := by unfold zeroFits; rw [info9]; rfl
theorem eqb4 {a b : Bool} : eqBin Try.prog .eql 4 (.bool a) (.bool b) = some (.bool (a == b)) := by simp [eqBin, eqD, Try.underlying4, scalarEq]
theorem neb4 {a b : Bool} : eqBin Try.prog .neq 4 (.bool a) (.bool b) = some (.bool (!(a == b))) := by simp [eqBin, eqD, Try.underlying4, scalarEq]
theorem eqs37 : Try.prog.stoodInHeld 37 = false := by kernel_rfl
theorem eqg37 : Try.prog.eqGuardType Try.prog.depth 37 = false := by kernel_rfl
theorem eqBeql37 {a0 b0 : Int} {a1 b1 : Int} : eqBin Try.prog .eql 37 (.agg [.int .u8 a0, .int .i64 a1]) (.agg [.int .u8 b0, .int .i64 b1]) = some (.bool (a0 == b0 && (a1 == b1 && true))) :=
  eqBin_eql (eqD_of Try.underlying37 eqs37 eqg37 (eqF_cons (by simp [isAg, Try.underlying5]) (by simp [eqF1, Try.underlying5, scalarEq, bs_beq']) (eqF_cons (by simp [isAg, Try.underlying3]) (by simp [eqF1, Try.underlying3, scalarEq, bs_beq']) eqF_nil)))
theorem eqBneq37 {a0 b0 : Int} {a1 b1 : Int} : eqBin Try.prog .neq 37 (.agg [.int .u8 a0, .int .i64 a1]) (.agg [.int .u8 b0, .int .i64 b1]) = some (.bool (!(a0 == b0 && (a1 == b1 && true)))) :=
  eqBin_neq (eqD_of Try.underlying37 eqs37 eqg37 (eqF_cons (by simp [isAg, Try.underlying5]) (by simp [eqF1, Try.underlying5, scalarEq, bs_beq']) (eqF_cons (by simp [isAg, Try.underlying3]) (by simp [eqF1, Try.underlying3, scalarEq, bs_beq']) eqF_nil)))
theorem bytes5 : Try.prog.bytesOf 5 = 1 := (bytes_of info5).trans rfl
theorem zfits5 : zeroFits Try.prog 5 = true := by unfold zeroFits; rw [info5]; rfl
theorem fok37 : fieldsOk Try.prog 37 = true := by
  unfold fieldsOk; rw [Try.underlying37]; simp [info5, info3]
theorem place37_0 : place Try.prog 37 0 = some (0, 1) := by
  unfold place; rw [Try.underlying37]; simp [cells5]
theorem place37_1 : place Try.prog 37 1 = some (1, 1) := by
  unfold place; rw [Try.underlying37]; simp [cells3]
theorem zok37 : zeroOk Try.prog 37 = true := by unfold zeroOk; rw [info37]; rfl
theorem bytes37 : Try.prog.bytesOf 37 = 16 := (bytes_of info37).trans rfl
theorem zfits37 : zeroFits Try.prog 37 = true := by unfold zeroFits; rw [info37]; rfl
theorem zok4 : zeroOk Try.prog 4 = true := by unfold zeroOk; rw [info4]; rfl
theorem zok35 : zeroOk Try.prog 35 = true := by unfold zeroOk; rw [info35]; rfl
theorem bytes4 : Try.prog.bytesOf 4 = 1 := (bytes_of info4).trans rfl
theorem zfits4 : zeroFits Try.prog 4 = true := by unfold zeroFits; rw [info4]; rfl
theorem bytes35 : Try.prog.bytesOf 35 = 24 := (bytes_of info35).trans rfl
theorem zfits35 : zeroFits Try.prog 35 = true := by unfold zeroFits; rw [info35]; rfl
theorem zeros28 : zeroCVs Try.prog 28 = some [.nil, .nil] := by
  unfold zeroCVs isAg; rw [info28, Try.underlying28]; simp [bs, zeroCV, Try.t28]
theorem zeros25 : zeroCVs Try.prog 25 = some [.nil] := by
  unfold zeroCVs isAg; rw [info25, Try.underlying25]; simp [bs, zeroCV, Try.t25]
theorem zeros26 : zeroCVs Try.prog 26 = some [.nil] := by
  unfold zeroCVs isAg; rw [info26, Try.underlying26]; simp [bs, zeroCV, Try.t26]
theorem fok28 : fieldsOk Try.prog 28 = true := by
  unfold fieldsOk; rw [Try.underlying28]; simp [info25, info26]
theorem place28_0 : place Try.prog 28 0 = some (0, 1) := by
  unfold place; rw [Try.underlying28]; simp [cells25]
theorem place28_1 : place Try.prog 28 1 = some (1, 1) := by
  unfold place; rw [Try.underlying28]; simp [cells26]
theorem fok78 : fieldsOk Try.prog 78 = true := by
  unfold fieldsOk; rw [Try.underlying78]; simp [info28, info76]
theorem place78_0 : place Try.prog 78 0 = some (0, 2) := by
  unfold place; rw [Try.underlying78]; simp [cells28]
theorem place78_1 : place Try.prog 78 1 = some (2, 1) := by
  unfold place; rw [Try.underlying78]; simp [cells76]
theorem zeros78 : zeroCVs Try.prog 78 = some [.nil, .nil, .val (.map none)] := by
  unfold zeroCVs isAg; rw [info78, Try.underlying78]; simp [bs, zeroCV, Try.t78]
theorem zeros76 : zeroCVs Try.prog 76 = some [.val (.map none)] := by
  unfold zeroCVs isAg; rw [info76, Try.underlying76]; simp [bs, zeroCV, Try.t76]
theorem fok82 : fieldsOk Try.prog 82 = true := by
  unfold fieldsOk; rw [Try.underlying82]; simp [info28, info22]
theorem place82_0 : place Try.prog 82 0 = some (0, 2) := by
  unfold place; rw [Try.underlying82]; simp [cells28]
theorem place82_1 : place Try.prog 82 1 = some (2, 1) := by
  unfold place; rw [Try.underlying82]; simp [cells22]
theorem zeros82 : zeroCVs Try.prog 82 = some [.nil, .nil, .nil] := by
  unfold zeroCVs isAg; rw [info82, Try.underlying82]; simp [bs, zeroCV, Try.t82]
theorem zeros22 : zeroCVs Try.prog 22 = some [.nil] := by
  unfold zeroCVs isAg; rw [info22, Try.underlying22]; simp [bs, zeroCV, Try.t22]
theorem zeros4 : zeroCVs Try.prog 4 = some [.val (.bool false)] := by
  unfold zeroCVs isAg; rw [info4, Try.underlying4]; simp [bs, zeroCV, Try.t4]
theorem zd4 : zeroD Try.prog 4 = some (.bool false) := by
  unfold zeroD ofCells isAg; rw [zeros4, cells4, Try.underlying4]; simp [toDs, CV.toD, bs, DVal.cells]
attribute [go_sem] CT_P Try.underlying22 Try.underlying3 cells9 Try.underlying9 cells28 Try.underlying28 cells25 Try.underlying25 cells26 Try.underlying26 cells35 Try.underlying35 cells37 Try.underlying37 zeros37 Try.underlying5 zeros5 zeros3 cells3 cells5 Try.underlying48 bytes3 zd3 cells4 Try.underlying4 zok3 zfits3 Try.underlying29 Try.underlying51 zok5 u8_5 zok9 bytes9 zfits9 eqb4 neb4 eqBeql37 eqBneq37 bytes5 zfits5 fok37 place37_0 place37_1 zok37 bytes37 zfits37 Try.underlying78 cells76 Try.underlying76 zok4 zok35 bytes4 zfits4 bytes35 zfits35 zeros28 zeros25 zeros26 fok28 place28_0 place28_1 fok78 place78_0 place78_1 zeros78 zeros76 cells78 Try.underlying82 cells22 fok82 place82_0 place82_1 zeros82 zeros22 cells82 Try.underlying34 zeros4 zd4
attribute [go_sem] CT_how15_0 CT_how35_0 CT_how34_0 CT_how34_1 CT_how27_0 CT_how26_0 CT_how33_0 CT_how55_0 CT_how55_1 CT_how55_2 CT_how30_0 CT_how30_1 CT_how37_0 CT_how37_1 CT_how39_0 CT_how39_1 CT_how50_0 CT_how74_0 CT_how75_0 CT_how75_1 CT_how18_0 CT_how18_1 CT_how22_0 CT_how22_1 CT_how19_0 CT_how73_0 CT_how73_1 CT_how71_0 CT_how71_1 CT_how70_0 CT_how70_1 CT_how69_0 CT_how48_0 CT_how76_0 CT_how76_1 CT_how77_0 CT_how77_1 CT_how77_2 CT_how52_0 CT_how52_1 CT_how20_0 CT_how20_1 CT_how36_0 CT_how36_1 CT_how38_0 CT_how38_1 CT_how72_0 CT_how72_1 CT_how72_2 CT_how49_0 CT_how49_1 CT_how49_2 CT_how16_0 CT_how51_0 CT_how51_1 CT_how17_0 CT_how3_0 CT_how4_0 CT_how5_0 CT_how5_1 CT_how5_2 CT_how7_0 CT_how9_0 CT_how9_1 CT_how9_2 CT_how10_0 CT_how10_1
end Go.Val

/- part GR -/
/- Typed data of the laws' arguments. -/
namespace Go.Val
open Go.Proofs
set_option linter.unusedVariables false
set_option maxRecDepth 100000
theorem mixed : Try.prog.follows .mixedOrders = true := by kernel_rfl
theorem isT_Edge {m : Nat} {ds : List DVal} (h : isT Try.prog (m + 2) 37 ds) : ∃ x : TEdge, ds = (eEdge x).cells := by
  unfold isT at h
  rw [Try.underlying37] at h
  simp only [isF] at h
  obtain ⟨a, b, rfl, h1, c, d, rfl, h2, rfl⟩ := h
  obtain ⟨n, rfl⟩ := isT_u8 Try.underlying5 h1
  obtain ⟨k, rfl, _⟩ := isT_i64 Try.underlying3 h2
  exact ⟨⟨n, k⟩, rfl⟩
theorem isT_Edges {m : Nat} {ds : List DVal} (h : isT Try.prog (m + 3) 35 ds) : ∃ l : List TEdge, ds = [eL eEdge l] ∧ l.length ≤ maxLen :=
  isT_slice Try.underlying35 h fun x hx hag _ => by
    obtain ⟨y, hy⟩ := isT_Edge hx
    obtain ⟨cs, rfl⟩ := hag (by simp [isAg, Try.underlying37])
    exact ⟨y, by simp only [DVal.cells] at hy; rw [hy]; rfl⟩
theorem isT_Graph {m : Nat} {ds : List DVal} (h : isT Try.prog (m + 5) 28 ds) : ∃ g : TGraph, ds = (eGraph g).cells ∧ g.Final.length ≤ maxLen ∧ g.Edges.length ≤ maxLen := by
  unfold isT at h
  rw [Try.underlying28] at h
  simp only [isF] at h
  obtain ⟨a, b, rfl, h1, c, d, rfl, h2, rfl⟩ := h
  obtain ⟨fs, rfl, k1⟩ := isT_slice (en := eB) Try.underlying25 h1 fun x hx _ ho => by
    obtain ⟨b, hb⟩ := isT_bool Try.underlying4 hx
    exact ⟨b, one_of hb (ho (by simp [isAg, Try.underlying4]))⟩
  obtain ⟨es, rfl, k2⟩ := isT_slice (en := eL eEdge) Try.underlying26 h2 fun x hx _ ho => by
    obtain ⟨l, hl, _⟩ := isT_Edges hx
    exact ⟨l, one_of hl (ho (by simp [isAg, Try.underlying35]))⟩
  exact ⟨⟨fs, es⟩, rfl, k1, k2⟩
theorem isT_strs {m : Nat} {ds : List DVal} (h : isT Try.prog (m + 2) 22 ds) : ∃ l : List Str, ds = [eL eS l] ∧ l.length ≤ maxLen :=
  isT_slice Try.underlying22 h fun x hx _ ho => by
    obtain ⟨s, hs, _⟩ := isT_str Try.underlying9 hx
    exact ⟨s, one_of hs (ho (by simp [isAg, Try.underlying9]))⟩
end Go.Val

/- part GF -/
/- Functions that are read off the program. -/
namespace Go.Val
set_option linter.unusedVariables false
set_option linter.unusedSimpArgs false
noncomputable section
def scansionlaw17_few.k1 : Option Bool :=
  some true
def scansionlaw17_few.b1 (l : List Str) : Int → Option (Step Int Bool)
  | i =>
    if (decide (i < (l.length : Int))) then
      (idx l i).bind fun s =>
      if (decide ((s.length : Int) > (70 : Int))) then
        some (Step.done false)
      else
        some (Step.next (IntKind.i64.wrap (i + (1 : Int))))
    else
      (scansionlaw17_few.k1).map Step.done
def scansionlaw17_few (l : List Str) : Option Bool :=
  if (decide ((l.length : Int) > (60 : Int))) then
    some false
  else
    Loop (scansionlaw17_few.b1 l) (0 : Int)
def scansionref17_Right.k1 : Option Bool :=
  some true
def scansionref17_Right.k2 (s : Int) : Option (Step Int Bool) :=
  some (Step.next (IntKind.i64.wrap (s + (1 : Int))))
def scansionref17_Right.b2 (g : TGraph) (s : Int) : Int → Option (Step Int (Step Int Bool))
  | k =>
    (idx g.Edges s).bind fun xs =>
    if (decide (k < (xs.length : Int))) then
      (idx xs k).bind fun x =>
      (if (decide (x.To < (0 : Int))) then
          some true
        else
          if (decide (x.To ≥ s)) then
            some true
          else
            if (decide (k > (0 : Int))) then
              (idx xs (IntKind.i64.wrap (k - (1 : Int)))).bind fun x1 =>
              some (decide ((x.Label.toNat : Int) ≤ (x1.Label.toNat : Int)))
            else
              some false).bind fun v1 =>
      if v1 then
        some (Step.done (Step.done false))
      else
        some (Step.next (IntKind.i64.wrap (k + (1 : Int))))
    else
      (scansionref17_Right.k2 s).map Step.done
def scansionref17_Right.b1 (g : TGraph) : Int → Option (Step Int Bool)
  | s =>
    if (decide (s < (g.Final.length : Int))) then
      Loop (scansionref17_Right.b2 g s) (0 : Int)
    else
      (scansionref17_Right.k1).map Step.done
def scansionref17_Right (g : TGraph) : Option Bool :=
  if ((decide ((g.Final.length : Int) < (1 : Int))) || ((decide ((g.Final.length : Int) > (65536 : Int))) || ((g.Edges.length : Int) != (g.Final.length : Int)))) then
    some false
  else
    Loop (scansionref17_Right.b1 g) (0 : Int)
def scansionref01_SameInts.k1 : Option Bool :=
  some true
def scansionref01_SameInts.b1 (a_ : List Int) (b : List Int) : Int → Option (Step Int Bool)
  | i =>
    if (decide (i < (a_.length : Int))) then
      (idx a_ i).bind fun n =>
      (idx b i).bind fun n1 =>
      if (n != n1) then
        some (Step.done false)
      else
        some (Step.next (IntKind.i64.wrap (i + (1 : Int))))
    else
      (scansionref01_SameInts.k1).map Step.done
def scansionref01_SameInts (a_ : List Int) (b : List Int) : Option Bool :=
  if ((a_.length : Int) != (b.length : Int)) then
    some false
  else
    Loop (scansionref01_SameInts.b1 a_ b) (0 : Int)
def dawg_Right.k1 : Option Bool :=
  some true
def dawg_Right.k2 (v1 : Int) : Option (Step Int Bool) :=
  some (Step.next (IntKind.i64.wrap (v1 + (1 : Int))))
def dawg_Right.b2 (v1 : Int) (xs : List TEdge) : Int → Option (Step Int (Step Int Bool))
  | v2 =>
    if (decide (v2 < (xs.length : Int))) then
      (idx xs v2).bind fun x =>
      (if (decide (x.To < (0 : Int))) then
          some true
        else
          if (decide (x.To ≥ v1)) then
            some true
          else
            if (decide (v2 > (0 : Int))) then
              (idx xs (IntKind.i64.wrap (v2 - (1 : Int)))).bind fun x1 =>
              some (decide ((x.Label.toNat : Int) ≤ (x1.Label.toNat : Int)))
            else
              some false).bind fun v3 =>
      if v3 then
        some (Step.done (Step.done false))
      else
        some (Step.next (IntKind.i64.wrap (v2 + (1 : Int))))
    else
      (dawg_Right.k2 v1).map Step.done
def dawg_Right.b1 (g : TGraph) : Int → Option (Step Int Bool)
  | v1 =>
    if (decide (v1 < (g.Edges.length : Int))) then
      (idx g.Edges v1).bind fun xs =>
      Loop (dawg_Right.b2 v1 xs) (0 : Int)
    else
      (dawg_Right.k1).map Step.done
def dawg_Right (g : TGraph) : Option Bool :=
  if ((decide ((g.Final.length : Int) < (1 : Int))) || ((decide ((g.Final.length : Int) > (65536 : Int))) || ((g.Edges.length : Int) != (g.Final.length : Int)))) then
    some false
  else
    Loop (dawg_Right.b1 g) (0 : Int)
def dawg_Count.k1 (out : List Int) : Option ((List Int × Int)) :=
  some (out, (0 : Int))
def dawg_Count.k2 (v : Int) (out2 : List Int) : Option (Step ((List Int × Int)) ((List Int × Int))) :=
  some (Step.next (out2, (IntKind.i64.wrap (v + (1 : Int)))))
def dawg_Count.b2 (v : Int) (xs : List TEdge) : (List Int × Int) → Option (Step ((List Int × Int)) (Step ((List Int × Int)) ((List Int × Int))))
  | (out4, v1) =>
    if (decide (v1 < (xs.length : Int))) then
      (idx xs v1).bind fun x =>
      (idx out4 v).bind fun n =>
      (idx out4 x.To).bind fun n1 =>
      some (Step.next ((List.set out4 (Int.toNat v) (mn (IntKind.i64.wrap (n + n1)) (1099511627776 : Int))), (IntKind.i64.wrap (v1 + (1 : Int)))))
    else
      (dawg_Count.k2 v out4).map Step.done
def dawg_Count.k3 (v : Int) (xs : List TEdge) (out3 : List Int) : Option (Step ((List Int × Int)) ((List Int × Int))) :=
  Loop (dawg_Count.b2 v xs) (out3, (0 : Int))
def dawg_Count.b1 (g : TGraph) : (List Int × Int) → Option (Step ((List Int × Int)) ((List Int × Int)))
  | (out1, v) =>
    if (decide (v < (g.Edges.length : Int))) then
      (idx g.Edges v).bind fun xs =>
      (idx g.Final v).bind fun b =>
      if b then
        (idx out1 v).bind fun n2 =>
        dawg_Count.k3 v xs (List.set out1 (Int.toNat v) (1 : Int))
      else
        dawg_Count.k3 v xs out1
    else
      (dawg_Count.k1 out1).map Step.done
def dawg_Count (g : TGraph) : Option ((List Int × Int)) :=
  (dawg_Right g).bind fun r =>
  if (!r) then
    some (([] : List Int), (1 : Int))
  else
    (mk 8 (0 : Int) (g.Final.length : Int)).bind fun _ =>
    Loop (dawg_Count.b1 g) ((List.replicate (Int.toNat (g.Final.length : Int)) (0 : Int)), (0 : Int))
def scansionref17_Count.k1 (out : List Int) : Option ((List Int × Int)) :=
  some (out, (0 : Int))
def scansionref17_Count.k2 (s : Int) (out2 : List Int) : Option (Step ((List Int × Int)) ((List Int × Int))) :=
  some (Step.next (out2, (IntKind.i64.wrap (s + (1 : Int)))))
def scansionref17_Count.k4 (out1 : List Int) (s : Int) (n1 : Int) : Option (Step ((List Int × Int)) ((List Int × Int))) :=
  (room 8 (out1.length + 1)).bind fun _ =>
  scansionref17_Count.k2 s (out1 ++ ([n1]))
def scansionref17_Count.b2 (g : TGraph) (out1 : List Int) (s : Int) : (Int × Int) → Option (Step ((Int × Int)) (Step ((List Int × Int)) ((List Int × Int))))
  | (n2, k) =>
    (idx g.Edges s).bind fun xs =>
    if (decide (k < (xs.length : Int))) then
      (idx xs k).bind fun x =>
      (idx out1 x.To).bind fun n3 =>
      some (Step.next ((mn (IntKind.i64.wrap (n2 + n3)) (1099511627776 : Int)), (IntKind.i64.wrap (k + (1 : Int)))))
    else
      (scansionref17_Count.k4 out1 s n2).map Step.done
def scansionref17_Count.k3 (g : TGraph) (out1 : List Int) (s : Int) (n : Int) : Option (Step ((List Int × Int)) ((List Int × Int))) :=
  Loop (scansionref17_Count.b2 g out1 s) (n, (0 : Int))
def scansionref17_Count.b1 (g : TGraph) : (List Int × Int) → Option (Step ((List Int × Int)) ((List Int × Int)))
  | (out1, s) =>
    if (decide (s < (g.Final.length : Int))) then
      (idx g.Final s).bind fun b =>
      if b then
        scansionref17_Count.k3 g out1 s (1 : Int)
      else
        scansionref17_Count.k3 g out1 s (0 : Int)
    else
      (scansionref17_Count.k1 out1).map Step.done
def scansionref17_Count (g : TGraph) : Option ((List Int × Int)) :=
  (scansionref17_Right g).bind fun r =>
  if (!r) then
    some (([] : List Int), (1 : Int))
  else
    Loop (scansionref17_Count.b1 g) ([], (0 : Int))
def scansionref17_to.k1 : Option Int :=
  some (-1 : Int)
def scansionref17_to.b1 (g : TGraph) (s : Int) (b : UInt8) : Int → Option (Step Int Int)
  | k =>
    (idx g.Edges s).bind fun xs =>
    if (decide (k < (xs.length : Int))) then
      (idx xs k).bind fun x =>
      if ((x.Label.toNat : Int) == (b.toNat : Int)) then
        some (Step.done x.To)
      else
        some (Step.next (IntKind.i64.wrap (k + (1 : Int))))
    else
      (scansionref17_to.k1).map Step.done
def scansionref17_to (g : TGraph) (s : Int) (b : UInt8) : Option Int :=
  Loop (scansionref17_to.b1 g s b) (0 : Int)
def scansionref17_Has.k1 (g : TGraph) (s : Int) : Option Bool :=
  (idx g.Final s).bind fun b =>
  some b
def scansionref17_Has.b1 (g : TGraph) (word : Str) : (Int × Int) → Option (Step ((Int × Int)) Bool)
  | (s1, i) =>
    if (decide (i < (word.length : Int))) then
      (idx word i).bind fun c =>
      (scansionref17_to g s1 c).bind fun r1 =>
      if (decide (r1 < (0 : Int))) then
        some (Step.done false)
      else
        some (Step.next (r1, (IntKind.i64.wrap (i + (1 : Int)))))
    else
      (scansionref17_Has.k1 g s1).map Step.done
def scansionref17_Has (g : TGraph) (word : Str) : Option Bool :=
  (scansionref17_Right g).bind fun r =>
  if (!r) then
    some false
  else
    Loop (scansionref17_Has.b1 g word) ((IntKind.i64.wrap ((g.Final.length : Int) - (1 : Int))), (0 : Int))
def scansionref17_Number.k1 (n : Int) : Option ((Int × Int)) :=
  some ((mn n (1099511627776 : Int)), (0 : Int))
def scansionref17_Number.k2 (i : Int) (n2 : Int) (s1 : Int) : Option (Step ((Int × Int × Int)) ((Int × Int))) :=
  some (Step.next (n2, s1, (IntKind.i64.wrap (i + (1 : Int)))))
def scansionref17_Number.k4 (g : TGraph) (word : Str) (s : Int) (i : Int) (n4 : Int) : Option (Step ((Int × Int × Int)) ((Int × Int))) :=
  (idx word i).bind fun c =>
  (scansionref17_to g s c).bind fun r2 =>
  scansionref17_Number.k2 i n4 r2
def scansionref17_Number.b2 (g : TGraph) (word : Str) (r : (List Int × Int)) (s : Int) (i : Int) : (Int × Int) → Option (Step ((Int × Int)) (Step ((Int × Int × Int)) ((Int × Int))))
  | (n5, k) =>
    ((idx g.Edges s).bind fun xs =>
      if (decide (k < (xs.length : Int))) then
        (idx xs k).bind fun x =>
        (idx word i).bind fun c1 =>
        some (decide ((x.Label.toNat : Int) < (c1.toNat : Int)))
      else
        some false).bind fun v =>
    if v then
      (idx g.Edges s).bind fun xs1 =>
      (idx xs1 k).bind fun x1 =>
      (idx r.1 x1.To).bind fun n6 =>
      some (Step.next ((IntKind.i64.wrap (n5 + n6)), (IntKind.i64.wrap (k + (1 : Int)))))
    else
      (scansionref17_Number.k4 g word s i n5).map Step.done
def scansionref17_Number.k3 (g : TGraph) (word : Str) (r : (List Int × Int)) (s : Int) (i : Int) (n3 : Int) : Option (Step ((Int × Int × Int)) ((Int × Int))) :=
  Loop (scansionref17_Number.b2 g word r s i) (n3, (0 : Int))
def scansionref17_Number.b1 (g : TGraph) (word : Str) (r : (List Int × Int)) : (Int × Int × Int) → Option (Step ((Int × Int × Int)) ((Int × Int)))
  | (n1, s, i) =>
    if (decide (i < (word.length : Int))) then
      (idx g.Final s).bind fun b =>
      if b then
        scansionref17_Number.k3 g word r s i (IntKind.i64.wrap (n1 + (1 : Int)))
      else
        scansionref17_Number.k3 g word r s i n1
    else
      (scansionref17_Number.k1 n1).map Step.done
def scansionref17_Number (g : TGraph) (word : Str) : Option ((Int × Int)) :=
  (scansionref17_Count g).bind fun r =>
  if (r.2 != (0 : Int)) then
    some ((0 : Int), r.2)
  else
    (scansionref17_Has g word).bind fun r1 =>
    if (!r1) then
      some ((0 : Int), (4 : Int))
    else
      Loop (scansionref17_Number.b1 g word r) ((0 : Int), (IntKind.i64.wrap ((g.Final.length : Int) - (1 : Int))), (0 : Int))
def scansionref17_Word.k1 (n3 : Int) (s1 : Int) (word1 : Str) : Option (Step ((Int × Int × Str)) ((Str × Int))) :=
  some (Step.next (n3, s1, word1))
def scansionref17_Word.k3 (g : TGraph) (s : Int) (word : Str) (n5 : Int) (k : Int) : Option (Step ((Int × Int × Str)) ((Str × Int))) :=
  (idx g.Edges s).bind fun xs =>
  (idx xs k).bind fun x =>
  (roomS (word.length + 1)).bind fun _ =>
  scansionref17_Word.k1 n5 x.To (word ++ ([x.Label]))
def scansionref17_Word.b2 (g : TGraph) (r : (List Int × Int)) (s : Int) (word : Str) : (Int × Int) → Option (Step ((Int × Int)) (Step ((Int × Int × Str)) ((Str × Int))))
  | (n6, k1) =>
    (idx g.Edges s).bind fun xs1 =>
    (idx xs1 k1).bind fun x1 =>
    (idx r.1 x1.To).bind fun n7 =>
    if (decide (n6 ≥ n7)) then
      some (Step.next ((IntKind.i64.wrap (n6 - n7)), (IntKind.i64.wrap (k1 + (1 : Int)))))
    else
      (scansionref17_Word.k3 g s word n6 k1).map Step.done
def scansionref17_Word.k2 (g : TGraph) (r : (List Int × Int)) (s : Int) (word : Str) (n4 : Int) : Option (Step ((Int × Int × Str)) ((Str × Int))) :=
  Loop (scansionref17_Word.b2 g r s word) (n4, (0 : Int))
def scansionref17_Word.b1 (g : TGraph) (r : (List Int × Int)) : (Int × Int × Str) → Option (Step ((Int × Int × Str)) ((Str × Int)))
  | (n2, s, word) =>
    (idx g.Final s).bind fun b =>
    if b then
      if (n2 == (0 : Int)) then
        some (Step.done (word, (0 : Int)))
      else
        scansionref17_Word.k2 g r s word (IntKind.i64.wrap (n2 - (1 : Int)))
    else
      scansionref17_Word.k2 g r s word n2
def scansionref17_Word (g : TGraph) (n : Int) : Option ((Str × Int)) :=
  (scansionref17_Count g).bind fun r =>
  if (r.2 != (0 : Int)) then
    some (([] : Str), r.2)
  else
    (if (decide (n < (0 : Int))) then
        some true
      else
        (idx r.1 (IntKind.i64.wrap ((g.Final.length : Int) - (1 : Int)))).bind fun n1 =>
        some (decide (n ≥ n1))).bind fun v =>
    if v then
      some (([] : Str), (4 : Int))
    else
      Loop (scansionref17_Word.b1 g r) (n, (IntKind.i64.wrap ((g.Final.length : Int) - (1 : Int))), ([] : Str))
def scansionref17_right.k1 : Option Bool :=
  some true
def scansionref17_right.b1 (words : List Str) : Int → Option (Step Int Bool)
  | i =>
    if (decide (i < (words.length : Int))) then
      ((idx words i).bind fun s =>
        if (decide ((s.length : Int) < (1 : Int))) then
          some true
        else
          if (decide ((s.length : Int) > (64 : Int))) then
            some true
          else
            if (decide (i > (0 : Int))) then
              (idx words (IntKind.i64.wrap (i - (1 : Int)))).bind fun s1 =>
              some (Op.bytesLess s s1 || s == s1)
            else
              some false).bind fun v =>
      if v then
        some (Step.done false)
      else
        some (Step.next (IntKind.i64.wrap (i + (1 : Int))))
    else
      (scansionref17_right.k1).map Step.done
def scansionref17_right (words : List Str) : Option Bool :=
  if (decide ((words.length : Int) > (5000 : Int))) then
    some false
  else
    Loop (scansionref17_right.b1 words) (0 : Int)
def scansionref17_one.k1 (s : Str) : Option Str :=
  some s
def scansionref17_one.b1 (ends : List Str) : (Str × Int) → Option (Step ((Str × Int)) Str)
  | (s1, i) =>
    if (decide (i < (ends.length : Int))) then
      (idx ends i).bind fun s2 =>
      (roomS (s1.length + 1)).bind fun _ =>
      (roomS (s1.length + 1 + s2.length)).bind fun _ =>
      some (Step.next (((s1 ++ ([(u8 (IntKind.u8.wrap (s2.length : Int)))])) ++ s2), (IntKind.i64.wrap (i + (1 : Int)))))
    else
      (scansionref17_one.k1 s1).map Step.done
def scansionref17_one (ends : List Str) : Option Str :=
  Loop (scansionref17_one.b1 ends) (([] : Str), (0 : Int))
def scansionref17_behind.k1 (out : List Str) : Option (List Str) :=
  some out
def scansionref17_behind.k2 (i : Int) (out2 : List Str) : Option (Step ((List Str × Int)) (List Str)) :=
  some (Step.next (out2, (IntKind.i64.wrap (i + (1 : Int)))))
def scansionref17_behind.b1 (ends : List Str) (b : UInt8) : (List Str × Int) → Option (Step ((List Str × Int)) (List Str))
  | (out1, i) =>
    if (decide (i < (ends.length : Int))) then
      ((idx ends i).bind fun s =>
        if (decide ((s.length : Int) > (0 : Int))) then
          (s[0]?).bind fun c =>
          some ((c.toNat : Int) == (b.toNat : Int))
        else
          some false).bind fun v =>
      if v then
        (idx ends i).bind fun s1 =>
        (cutL s1 (1 : Int)).bind fun _ =>
        (room 16 (out1.length + 1)).bind fun _ =>
        scansionref17_behind.k2 i (out1 ++ ([(List.drop (Int.toNat (1 : Int)) s1)]))
      else
        scansionref17_behind.k2 i out1
    else
      (scansionref17_behind.k1 out1).map Step.done
def scansionref17_behind (ends : List Str) (b : UInt8) : Option (List Str) :=
  Loop (scansionref17_behind.b1 ends b) ([], (0 : Int))
def scansionref17_Same.k2 : Option Bool :=
  some true
def scansionref17_Same.k3 (i : Int) : Option (Step Int Bool) :=
  some (Step.next (IntKind.i64.wrap (i + (1 : Int))))
def scansionref17_Same.b2 (i : Int) (xs : List TEdge) (xs1 : List TEdge) : Int → Option (Step Int (Step Int Bool))
  | k =>
    if (decide (k < (xs.length : Int))) then
      (idx xs k).bind fun x =>
      (idx xs1 k).bind fun x1 =>
      if (!((x.Label.toNat : Int) == (x1.Label.toNat : Int) && (x.To == x1.To && true))) then
        some (Step.done (Step.done false))
      else
        some (Step.next (IntKind.i64.wrap (k + (1 : Int))))
    else
      (scansionref17_Same.k3 i).map Step.done
def scansionref17_Same.b1 (a_ : TGraph) (b : TGraph) : Int → Option (Step Int Bool)
  | i =>
    if (decide (i < (a_.Edges.length : Int))) then
      (idx a_.Edges i).bind fun xs =>
      (idx b.Edges i).bind fun xs1 =>
      if ((xs.length : Int) != (xs1.length : Int)) then
        some (Step.done false)
      else
        Loop (scansionref17_Same.b2 i xs xs1) (0 : Int)
    else
      (scansionref17_Same.k2).map Step.done
def scansionref17_Same.k1 (a_ : TGraph) (b : TGraph) : Option Bool :=
  Loop (scansionref17_Same.b1 a_ b) (0 : Int)
def scansionref17_Same.b3 (a_ : TGraph) (b : TGraph) : Int → Option (Step Int Bool)
  | i1 =>
    if (decide (i1 < (a_.Final.length : Int))) then
      (idx a_.Final i1).bind fun b1 =>
      (idx b.Final i1).bind fun b2 =>
      if (!(b1 == b2)) then
        some (Step.done false)
      else
        some (Step.next (IntKind.i64.wrap (i1 + (1 : Int))))
    else
      (scansionref17_Same.k1 a_ b).map Step.done
def scansionref17_Same (a_ : TGraph) (b : TGraph) : Option Bool :=
  if (((a_.Final.length : Int) != (b.Final.length : Int)) || ((a_.Edges.length : Int) != (b.Edges.length : Int))) then
    some false
  else
    Loop (scansionref17_Same.b3 a_ b) (0 : Int)
def scansionref17_Few.k1 : Option Bool :=
  some true
def scansionref17_Few.b1 (g : TGraph) : Int → Option (Step Int Bool)
  | i =>
    if (decide (i < (g.Edges.length : Int))) then
      (idx g.Edges i).bind fun xs =>
      if (decide ((xs.length : Int) > (300 : Int))) then
        some (Step.done false)
      else
        some (Step.next (IntKind.i64.wrap (i + (1 : Int))))
    else
      (scansionref17_Few.k1).map Step.done
def scansionref17_Few (g : TGraph) (most : Int) : Option Bool :=
  if ((decide ((g.Final.length : Int) > most)) || (decide ((g.Edges.length : Int) > most))) then
    some false
  else
    Loop (scansionref17_Few.b1 g) (0 : Int)
def scansionref17_Rising.k1 (out : List Str) : Option (List Str) :=
  some out
def scansionref17_Rising.k2 (i : Int) (out2 : List Str) : Option (Step ((List Str × Int)) (List Str)) :=
  some (Step.next (out2, (IntKind.i64.wrap (i + (1 : Int)))))
def scansionref17_Rising.k3 (l : List Str) (out1 : List Str) (i : Int) (at_ : Int) : Option (Step ((List Str × Int)) (List Str)) :=
  (if (decide (at_ < (out1.length : Int))) then
      (idx out1 at_).bind fun s1 =>
      (idx l i).bind fun s2 =>
      some (s1 == s2)
    else
      some false).bind fun v1 =>
  if v1 then
    scansionref17_Rising.k2 i out1
  else
    (cutH out1 at_).bind fun _ =>
    (room 16 (0 + (List.take (Int.toNat at_) out1).length)).bind fun _ =>
    (idx l i).bind fun s3 =>
    (room 16 ((List.take (Int.toNat at_) out1).length + 1)).bind fun _ =>
    (cutL out1 at_).bind fun _ =>
    (room 16 ((List.take (Int.toNat at_) out1).length + 1 + (List.drop (Int.toNat at_) out1).length)).bind fun _ =>
    scansionref17_Rising.k2 i (((List.take (Int.toNat at_) out1) ++ ([s3])) ++ (List.drop (Int.toNat at_) out1))
def scansionref17_Rising.b2 (l : List Str) (out1 : List Str) (i : Int) : Int → Option (Step Int (Step ((List Str × Int)) (List Str)))
  | at_1 =>
    (if (decide (at_1 < (out1.length : Int))) then
        (idx out1 at_1).bind fun s4 =>
        (idx l i).bind fun s5 =>
        some (Op.bytesLess s4 s5)
      else
        some false).bind fun v2 =>
    if v2 then
      some (Step.next (IntKind.i64.wrap (at_1 + (1 : Int))))
    else
      (scansionref17_Rising.k3 l out1 i at_1).map Step.done
def scansionref17_Rising.b1 (l : List Str) : (List Str × Int) → Option (Step ((List Str × Int)) (List Str))
  | (out1, i) =>
    if (decide (i < (l.length : Int))) then
      ((idx l i).bind fun s =>
        if (decide ((s.length : Int) < (1 : Int))) then
          some true
        else
          some (decide ((s.length : Int) > (64 : Int)))).bind fun v =>
      if v then
        scansionref17_Rising.k2 i out1
      else
        Loop (scansionref17_Rising.b2 l out1 i) (0 : Int)
    else
      (scansionref17_Rising.k1 out1).map Step.done
def scansionref17_Rising (l : List Str) : Option (List Str) :=
  Loop (scansionref17_Rising.b1 l) ([], (0 : Int))
def dawg_key.k2 (out1 : List UInt8) : Option Str :=
  some out1
def dawg_key.b1 (edges : List TEdge) : (List UInt8 × Int) → Option (Step ((List UInt8 × Int)) Str)
  | (out2, v) =>
    if (decide (v < (edges.length : Int))) then
      (idx edges v).bind fun x =>
      (room 1 (out2.length + 5)).bind fun _ =>
      some (Step.next ((out2 ++ ([x.Label, (u8 (IntKind.u8.wrap (shR .i64 x.To (24 : Int)))), (u8 (IntKind.u8.wrap (shR .i64 x.To (16 : Int)))), (u8 (IntKind.u8.wrap (shR .i64 x.To (8 : Int)))), (u8 (IntKind.u8.wrap x.To))])), (IntKind.i64.wrap (v + (1 : Int)))))
    else
      (dawg_key.k2 out2).map Step.done
def dawg_key.k1 (edges : List TEdge) (out : List UInt8) : Option Str :=
  Loop (dawg_key.b1 edges) (out, (0 : Int))
def dawg_key (final : Bool) (edges : List TEdge) : Option Str :=
  if final then
    (([(u8 (0 : Int))])[0]?).bind fun n =>
    dawg_key.k1 edges (List.set ([(u8 (0 : Int))]) (Int.toNat (0 : Int)) (u8 (1 : Int)))
  else
    dawg_key.k1 edges ([(u8 (0 : Int))])
def slices_IndexFunc_string_string.k1 : Option Int :=
  some (-1 : Int)
def slices_IndexFunc_string_string.b1 (s : List Str) (f : Str → Option Bool) : Int → Option (Step Int Int)
  | v =>
    if (decide (v < (s.length : Int))) then
      (idx s v).bind fun s1 =>
      (f s1).bind fun r =>
      if r then
        some (Step.done v)
      else
        some (Step.next (IntKind.i64.wrap (v + (1 : Int))))
    else
      (slices_IndexFunc_string_string.k1).map Step.done
def slices_IndexFunc_string_string (s : List Str) (f : Str → Option Bool) : Option Int :=
  Loop (slices_IndexFunc_string_string.b1 s f) (0 : Int)
def slices_ContainsFunc_string_string (s : List Str) (f : Str → Option Bool) : Option Bool :=
  (slices_IndexFunc_string_string s f).bind fun r =>
  some (decide (r ≥ (0 : Int)))
def dawg_rise_1 (s : Str) : Option Bool :=
  some ((decide ((s.length : Int) < (1 : Int))) || (decide ((s.length : Int) > (64 : Int))))
def dawg_rise.k1 (words : List Str) : Option Bool :=
  (if (decide ((words.length : Int) ≤ (5000 : Int))) then
      (slices_ContainsFunc_string_string words (dawg_rise_1)).bind fun r =>
      some (!r)
    else
      some false).bind fun v =>
  some v
def dawg_rise.b1 (words : List Str) : Int → Option (Step Int Bool)
  | i =>
    if (decide (i < (words.length : Int))) then
      (idx words i).bind fun s =>
      (idx words (IntKind.i64.wrap (i - (1 : Int)))).bind fun s1 =>
      if (Op.bytesLess s s1 || s == s1) then
        some (Step.done false)
      else
        some (Step.next (IntKind.i64.wrap (i + (1 : Int))))
    else
      (dawg_rise.k1 words).map Step.done
def dawg_rise (words : List Str) : Option Bool :=
  Loop (dawg_rise.b1 words) (1 : Int)
def slices_IndexFunc_api_Edge_api_Edge.k1 : Option Int :=
  some (-1 : Int)
def slices_IndexFunc_api_Edge_api_Edge.b1 (s : List TEdge) (f : TEdge → Option Bool) : Int → Option (Step Int Int)
  | v =>
    if (decide (v < (s.length : Int))) then
      (idx s v).bind fun x =>
      (f x).bind fun r =>
      if r then
        some (Step.done v)
      else
        some (Step.next (IntKind.i64.wrap (v + (1 : Int))))
    else
      (slices_IndexFunc_api_Edge_api_Edge.k1).map Step.done
def slices_IndexFunc_api_Edge_api_Edge (s : List TEdge) (f : TEdge → Option Bool) : Option Int :=
  Loop (slices_IndexFunc_api_Edge_api_Edge.b1 s f) (0 : Int)
def dawg_walk_1 (x : TEdge) (p1 : Str) (p2 : Int) : Option Bool :=
  (idx p1 p2).bind fun c =>
  some ((x.Label.toNat : Int) == (c.toNat : Int))
def dawg_walk.k1 (at_ : List Int) : Option ((List Int × Bool)) :=
  some (at_, true)
def dawg_walk.b1 (g : TGraph) (word : Str) : (List Int × Int) → Option (Step ((List Int × Int)) ((List Int × Bool)))
  | (at_1, v) =>
    if (decide (v < (word.length : Int))) then
      (idx at_1 v).bind fun n =>
      (idx g.Edges n).bind fun xs =>
      (slices_IndexFunc_api_Edge_api_Edge xs (fun x0 => dawg_walk_1 x0 word v)).bind fun r =>
      if (decide (r < (0 : Int))) then
        some (Step.done (([] : List Int), false))
      else
        (idx xs r).bind fun x =>
        (room 8 (at_1.length + 1)).bind fun _ =>
        some (Step.next ((at_1 ++ ([x.To])), (IntKind.i64.wrap (v + (1 : Int)))))
    else
      (dawg_walk.k1 at_1).map Step.done
def dawg_walk (g : TGraph) (word : Str) : Option ((List Int × Bool)) :=
  Loop (dawg_walk.b1 g word) ([(IntKind.i64.wrap ((g.Final.length : Int) - (1 : Int)))], (0 : Int))
def dawg_Has (g : TGraph) (word : Str) : Option Bool :=
  (dawg_Right g).bind fun r =>
  if (!r) then
    some false
  else
    (dawg_walk g word).bind fun r1 =>
    (if r1.2 then
        (idx r1.1 (word.length : Int)).bind fun n =>
        (idx g.Final n).bind fun b =>
        some b
      else
        some false).bind fun v =>
    some v
def dawg_Number.k1 (n1 : Int) : Option ((Int × Int)) :=
  some ((mn n1 (1099511627776 : Int)), (0 : Int))
def dawg_Number.k2 (v1 : Int) (n3 : Int) : Option (Step ((Int × Int)) ((Int × Int))) :=
  some (Step.next (n3, (IntKind.i64.wrap (v1 + (1 : Int)))))
def dawg_Number.k4 (v2 : Int) (n7 : Int) : Option (Step ((Int × Int)) (Step ((Int × Int)) ((Int × Int)))) :=
  some (Step.next (n7, (IntKind.i64.wrap (v2 + (1 : Int)))))
def dawg_Number.b2 (word : Str) (r : (List Int × Int)) (v1 : Int) (xs : List TEdge) : (Int × Int) → Option (Step ((Int × Int)) (Step ((Int × Int)) ((Int × Int))))
  | (n6, v2) =>
    if (decide (v2 < (xs.length : Int))) then
      (idx xs v2).bind fun x =>
      (idx word v1).bind fun c =>
      if (decide ((x.Label.toNat : Int) < (c.toNat : Int))) then
        (idx r.1 x.To).bind fun n8 =>
        dawg_Number.k4 v2 (IntKind.i64.wrap (n6 + n8))
      else
        dawg_Number.k4 v2 n6
    else
      (dawg_Number.k2 v1 n6).map Step.done
def dawg_Number.k3 (g : TGraph) (word : Str) (r : (List Int × Int)) (v1 : Int) (n4 : Int) (n5 : Int) : Option (Step ((Int × Int)) ((Int × Int))) :=
  (idx g.Edges n4).bind fun xs =>
  Loop (dawg_Number.b2 word r v1 xs) (n5, (0 : Int))
def dawg_Number.b1 (g : TGraph) (word : Str) (r : (List Int × Int)) (r1 : (List Int × Bool)) : (Int × Int) → Option (Step ((Int × Int)) ((Int × Int)))
  | (n2, v1) =>
    if (decide (v1 < (word.length : Int))) then
      (idx r1.1 v1).bind fun n4 =>
      (idx g.Final n4).bind fun b1 =>
      if b1 then
        dawg_Number.k3 g word r v1 n4 (IntKind.i64.wrap (n2 + (1 : Int)))
      else
        dawg_Number.k3 g word r v1 n4 n2
    else
      (dawg_Number.k1 n2).map Step.done
def dawg_Number (g : TGraph) (word : Str) : Option ((Int × Int)) :=
  (dawg_Count g).bind fun r =>
  if (r.2 != (0 : Int)) then
    some ((0 : Int), r.2)
  else
    (dawg_walk g word).bind fun r1 =>
    (if (!r1.2) then
        some true
      else
        (idx r1.1 (word.length : Int)).bind fun n =>
        (idx g.Final n).bind fun b =>
        some (!b)).bind fun v =>
    if v then
      some ((0 : Int), (4 : Int))
    else
      Loop (dawg_Number.b1 g word r r1) ((0 : Int), (0 : Int))
def dawg_Word.k1 (n3 : Int) (s1 : Int) (word1 : List UInt8) : Option (Step ((Int × Int × List UInt8)) ((Str × Int))) :=
  some (Step.next (n3, s1, word1))
def dawg_Word.b2 (r : (List Int × Int)) (s : Int) (word : List UInt8) (xs : List TEdge) : (Int × Int) → Option (Step ((Int × Int)) (Step ((Int × Int × List UInt8)) ((Str × Int))))
  | (n5, v1) =>
    if (decide (v1 < (xs.length : Int))) then
      (idx xs v1).bind fun x =>
      (idx r.1 x.To).bind fun n6 =>
      if (decide (n5 < n6)) then
        (room 1 (word.length + 1)).bind fun _ =>
        (dawg_Word.k1 n5 x.To (word ++ ([x.Label]))).map Step.done
      else
        some (Step.next ((IntKind.i64.wrap (n5 - n6)), (IntKind.i64.wrap (v1 + (1 : Int)))))
    else
      (dawg_Word.k1 n5 s word).map Step.done
def dawg_Word.k2 (g : TGraph) (r : (List Int × Int)) (s : Int) (word : List UInt8) (n4 : Int) : Option (Step ((Int × Int × List UInt8)) ((Str × Int))) :=
  (idx g.Edges s).bind fun xs =>
  Loop (dawg_Word.b2 r s word xs) (n4, (0 : Int))
def dawg_Word.b1 (g : TGraph) (r : (List Int × Int)) : (Int × Int × List UInt8) → Option (Step ((Int × Int × List UInt8)) ((Str × Int)))
  | (n2, s, word) =>
    (idx g.Final s).bind fun b =>
    if b then
      if (n2 == (0 : Int)) then
        some (Step.done (word, (0 : Int)))
      else
        dawg_Word.k2 g r s word (IntKind.i64.wrap (n2 - (1 : Int)))
    else
      dawg_Word.k2 g r s word n2
def dawg_Word (g : TGraph) (n : Int) : Option ((Str × Int)) :=
  (dawg_Count g).bind fun r =>
  if (r.2 != (0 : Int)) then
    some (([] : Str), r.2)
  else
    (if (decide (n < (0 : Int))) then
        some true
      else
        (idx r.1 (IntKind.i64.wrap ((r.1.length : Int) - (1 : Int)))).bind fun n1 =>
        some (decide (n ≥ n1))).bind fun v =>
    if v then
      some (([] : Str), (4 : Int))
    else
      Loop (dawg_Word.b1 g r) (n, (IntKind.i64.wrap ((r.1.length : Int) - (1 : Int))), [])
def dawg_builder_state_1 (s : Str) (p1 : Int) (p2 : UInt8) : Option Bool :=
  (idx s p1).bind fun c =>
  some ((c.toNat : Int) != (p2.toNat : Int))
def dawg_builder_state.k3 (s1 : Int) (Final1 : List Bool) (Edges1 : List (List TEdge)) (m1 : List (Str × Int)) : Option ((Int × Tdawg_builder)) :=
  some (s1, (Tdawg_builder.mk (TGraph.mk Final1 Edges1) m1))
def dawg_builder_state.k2 (final : Bool) (edges : List TEdge) (Final : List Bool) (Edges : List (List TEdge)) (m : List (Str × Int)) : Option ((Int × Tdawg_builder)) :=
  (dawg_key final edges).bind fun r =>
  if (!(aget r m).isSome) then
    (room 1 (Final.length + 1)).bind fun _ =>
    (room 24 (Edges.length + 1)).bind fun _ =>
    dawg_builder_state.k3 (Final.length : Int) (Final ++ ([final])) (Edges ++ ([edges])) (aput r (Final.length : Int) m)
  else
    dawg_builder_state.k3 ((aget r m).getD (0 : Int)) Final Edges m
def dawg_builder_state.k4 (self : Tdawg_builder → (List Str) → Int → Option ((Int × Tdawg_builder))) (gone : Int) (texts2 : List Str) (edges1 : List TEdge) (Final2 : List Bool) (Edges2 : List (List TEdge)) (m2 : List (Str × Int)) (c : UInt8) (n : Int) : Option (Step ((List Str × List TEdge × List Bool × List (List TEdge) × List (Str × Int))) ((Int × Tdawg_builder))) :=
  (cutH texts2 n).bind fun _ =>
  (self (Tdawg_builder.mk (TGraph.mk Final2 Edges2) m2) (List.take (Int.toNat n) texts2) (IntKind.i64.wrap (gone + (1 : Int)))).bind fun r2 =>
  (room 16 (edges1.length + 1)).bind fun _ =>
  (cutL texts2 n).bind fun _ =>
  some (Step.next ((List.drop (Int.toNat n) texts2), (edges1 ++ ([(TEdge.mk c r2.1)])), r2.2.Graph.Final, r2.2.Graph.Edges, r2.2.known))
def dawg_builder_state.b1 (self : Tdawg_builder → (List Str) → Int → Option ((Int × Tdawg_builder))) (gone : Int) (final : Bool) : (List Str × List TEdge × List Bool × List (List TEdge) × List (Str × Int)) → Option (Step ((List Str × List TEdge × List Bool × List (List TEdge) × List (Str × Int))) ((Int × Tdawg_builder)))
  | (texts2, edges1, Final2, Edges2, m2) =>
    if (decide ((texts2.length : Int) > (0 : Int))) then
      (texts2[0]?).bind fun s2 =>
      (idx s2 gone).bind fun c =>
      (slices_IndexFunc_string_string texts2 (fun x0 => dawg_builder_state_1 x0 gone c)).bind fun r1 =>
      if (decide (r1 < (0 : Int))) then
        dawg_builder_state.k4 self gone texts2 edges1 Final2 Edges2 m2 c (texts2.length : Int)
      else
        dawg_builder_state.k4 self gone texts2 edges1 Final2 Edges2 m2 c r1
    else
      (dawg_builder_state.k2 final edges1 Final2 Edges2 m2).map Step.done
def dawg_builder_state.k1 (self : Tdawg_builder → (List Str) → Int → Option ((Int × Tdawg_builder))) (b : Tdawg_builder) (gone : Int) (final : Bool) (texts1 : List Str) : Option ((Int × Tdawg_builder)) :=
  Loop (dawg_builder_state.b1 self gone final) (texts1, [], b.Graph.Final, b.Graph.Edges, b.known)
def dawg_builder_state.r : Nat → Tdawg_builder → (List Str) → Int → Option ((Int × Tdawg_builder))
  | 0, _, _, _ => none
  | fu + 1, b, texts, gone =>
    (if (decide ((texts.length : Int) > (0 : Int))) then
        (texts[0]?).bind fun s =>
        some ((s.length : Int) == gone)
      else
        some false).bind fun final =>
    if final then
      (cutL texts (1 : Int)).bind fun _ =>
      dawg_builder_state.k1 (dawg_builder_state.r fu) b gone final (List.drop (Int.toNat (1 : Int)) texts)
    else
      dawg_builder_state.k1 (dawg_builder_state.r fu) b gone final texts
def dawg_builder_state (b : Tdawg_builder) (texts : List Str) (gone : Int) : Option ((Int × Tdawg_builder)) := lim fun n => dawg_builder_state.r n b texts gone
def dawg_Build (words : List Str) : Option ((TGraph × Int)) :=
  (dawg_rise words).bind fun r =>
  if (!r) then
    some ((TGraph.mk ([] : List Bool) ([] : List (List TEdge))), (1 : Int))
  else
    (dawg_builder_state (Tdawg_builder.mk (TGraph.mk [] []) []) words (0 : Int)).bind fun r1 =>
    some (r1.2.Graph, (0 : Int))
def scansionref17_maker_state.k2 (ends : List Str) (r : Str) (edges : List TEdge) (Final : List Bool) (Edges : List (List TEdge)) (ends1 : List Str) : Option ((Int × Tscansionref17_maker)) :=
  (room 16 (ends1.length + 1)).bind fun _ =>
  (if (decide ((ends.length : Int) > (0 : Int))) then
      (ends[0]?).bind fun s =>
      (room 1 (Final.length + 1)).bind fun _ =>
      some (Final ++ ([(s == ([] : Str))]))
    else
      (room 1 (Final.length + 1)).bind fun _ =>
      some (Final ++ ([false]))).bind fun Final1 =>
  (room 24 (Edges.length + 1)).bind fun _ =>
  some ((IntKind.i64.wrap (((ends1 ++ ([r])).length : Int) - (1 : Int))), (Tscansionref17_maker.mk (TGraph.mk Final1 (Edges ++ ([edges]))) (ends1 ++ ([r]))))
def scansionref17_maker_state.k3 (c : Int) (edges2 : List TEdge) (Final3 : List Bool) (Edges2 : List (List TEdge)) (ends3 : List Str) : Option (Step ((List TEdge × Int × List Bool × List (List TEdge) × List Str)) ((Int × Tscansionref17_maker))) :=
  some (Step.next (edges2, (IntKind.i64.wrap (c + (1 : Int))), Final3, Edges2, ends3))
def scansionref17_maker_state.b1 (self : Tscansionref17_maker → (List Str) → Option ((Int × Tscansionref17_maker))) (ends : List Str) (r : Str) : (List TEdge × Int × List Bool × List (List TEdge) × List Str) → Option (Step ((List TEdge × Int × List Bool × List (List TEdge) × List Str)) ((Int × Tscansionref17_maker)))
  | (edges1, c, Final2, Edges1, ends2) =>
    if (decide (c < (256 : Int))) then
      (scansionref17_behind ends (u8 (IntKind.u8.wrap c))).bind fun r1 =>
      if (decide ((r1.length : Int) > (0 : Int))) then
        (self (Tscansionref17_maker.mk (TGraph.mk Final2 Edges1) ends2) r1).bind fun r2 =>
        (room 16 (edges1.length + 1)).bind fun _ =>
        scansionref17_maker_state.k3 c (edges1 ++ ([(TEdge.mk (u8 (IntKind.u8.wrap c)) r2.1)])) r2.2.g.Final r2.2.g.Edges r2.2.ends
      else
        scansionref17_maker_state.k3 c edges1 Final2 Edges1 ends2
    else
      (scansionref17_maker_state.k2 ends r edges1 Final2 Edges1 ends2).map Step.done
def scansionref17_maker_state.k1 (self : Tscansionref17_maker → (List Str) → Option ((Int × Tscansionref17_maker))) (m : Tscansionref17_maker) (ends : List Str) (r : Str) : Option ((Int × Tscansionref17_maker)) :=
  Loop (scansionref17_maker_state.b1 self ends r) ([], (0 : Int), m.g.Final, m.g.Edges, m.ends)
def scansionref17_maker_state.b2 (self : Tscansionref17_maker → (List Str) → Option ((Int × Tscansionref17_maker))) (m : Tscansionref17_maker) (ends : List Str) (r : Str) : Int → Option (Step Int ((Int × Tscansionref17_maker)))
  | i =>
    if (decide (i < (m.ends.length : Int))) then
      (idx m.ends i).bind fun s1 =>
      if (s1 == r) then
        some (Step.done (i, m))
      else
        some (Step.next (IntKind.i64.wrap (i + (1 : Int))))
    else
      (scansionref17_maker_state.k1 self m ends r).map Step.done
def scansionref17_maker_state.r : Nat → Tscansionref17_maker → (List Str) → Option ((Int × Tscansionref17_maker))
  | 0, _, _ => none
  | fu + 1, m, ends =>
    (scansionref17_one ends).bind fun r =>
    Loop (scansionref17_maker_state.b2 (scansionref17_maker_state.r fu) m ends r) (0 : Int)
def scansionref17_maker_state (m : Tscansionref17_maker) (ends : List Str) : Option ((Int × Tscansionref17_maker)) := lim fun n => scansionref17_maker_state.r n m ends
def scansionref17_Build (words : List Str) : Option ((TGraph × Int)) :=
  (scansionref17_right words).bind fun r =>
  if (!r) then
    some ((TGraph.mk ([] : List Bool) ([] : List (List TEdge))), (1 : Int))
  else
    (scansionref17_maker_state (Tscansionref17_maker.mk (TGraph.mk [] []) []) words).bind fun r1 =>
    some (r1.2.g, (0 : Int))
def scansionlaw17_awake : Option Bool :=
  (dawg_Build ([([97, 98] : Str), ([99, 98] : Str)])).bind fun r =>
  (if (r.2 == (0 : Int)) then
      if ((r.1.Final.length : Int) == (3 : Int)) then
        (r.1.Final[0]?).bind fun b =>
        if b then
          (r.1.Edges[2]?).bind fun xs =>
          if ((xs.length : Int) == (2 : Int)) then
            (xs[1]?).bind fun x =>
            if (x.To == (1 : Int)) then
              (dawg_Has r.1 ([99, 98] : Str)).bind fun r1 =>
              some r1
            else
              some false
          else
            some false
        else
          some false
      else
        some false
    else
      some false).bind fun v =>
  some v
def scansionlaw17_DawgBuilds (l : List Str) : Option Bool :=
  scansionlaw17_awake.bind fun r =>
  (scansionlaw17_few l).bind fun r1 =>
  if ((!r) || (!r1)) then
    some r
  else
    (dawg_Build l).bind fun r2 =>
    (scansionref17_Build l).bind fun r3 =>
    (scansionref17_Same r2.1 r3.1).bind fun r4 =>
    some (r4 && (r2.2 == r3.2))
def scansionlaw17_DawgLeast.k1 : Option Bool :=
  some true
def scansionlaw17_DawgLeast.k2 (s : Int) (m1 : List (Int × Bool)) : Option (Step ((Int × List (Int × Bool))) Bool) :=
  some (Step.next ((IntKind.i64.wrap (s - (1 : Int))), m1))
def scansionlaw17_DawgLeast.b2 (r3 : (TGraph × Int)) (s : Int) : (Int × List (Int × Bool)) → Option (Step ((Int × List (Int × Bool))) (Step ((Int × List (Int × Bool))) Bool))
  | (k, m2) =>
    (idx r3.1.Edges s).bind fun xs =>
    if (decide (k < (xs.length : Int))) then
      (idx xs k).bind fun x =>
      some (Step.next ((IntKind.i64.wrap (k + (1 : Int))), (aput x.To true m2)))
    else
      (scansionlaw17_DawgLeast.k2 s m2).map Step.done
def scansionlaw17_DawgLeast.k3 (r3 : (TGraph × Int)) (s : Int) (m : List (Int × Bool)) : Option (Step ((Int × List (Int × Bool))) Bool) :=
  if (!((aget s m).getD false)) then
    some (Step.done false)
  else
    Loop (scansionlaw17_DawgLeast.b2 r3 s) ((0 : Int), m)
def scansionlaw17_DawgLeast.b3 (r3 : (TGraph × Int)) (s : Int) (m : List (Int × Bool)) : Int → Option (Step Int (Step ((Int × List (Int × Bool))) Bool))
  | t =>
    if (decide (t < s)) then
      (cut r3.1.Final s (IntKind.i64.wrap (s + (1 : Int)))).bind fun _ =>
      (cut r3.1.Edges s (IntKind.i64.wrap (s + (1 : Int)))).bind fun _ =>
      (cut r3.1.Final t (IntKind.i64.wrap (t + (1 : Int)))).bind fun _ =>
      (cut r3.1.Edges t (IntKind.i64.wrap (t + (1 : Int)))).bind fun _ =>
      (scansionref17_Same (TGraph.mk (List.drop (Int.toNat s) (List.take (Int.toNat (IntKind.i64.wrap (s + (1 : Int)))) r3.1.Final)) (List.drop (Int.toNat s) (List.take (Int.toNat (IntKind.i64.wrap (s + (1 : Int)))) r3.1.Edges))) (TGraph.mk (List.drop (Int.toNat t) (List.take (Int.toNat (IntKind.i64.wrap (t + (1 : Int)))) r3.1.Final)) (List.drop (Int.toNat t) (List.take (Int.toNat (IntKind.i64.wrap (t + (1 : Int)))) r3.1.Edges)))).bind fun r4 =>
      if r4 then
        some (Step.done (Step.done false))
      else
        some (Step.next (IntKind.i64.wrap (t + (1 : Int))))
    else
      (scansionlaw17_DawgLeast.k3 r3 s m).map Step.done
def scansionlaw17_DawgLeast.b1 (r3 : (TGraph × Int)) : (Int × List (Int × Bool)) → Option (Step ((Int × List (Int × Bool))) Bool)
  | (s, m) =>
    if (decide (s ≥ (0 : Int))) then
      Loop (scansionlaw17_DawgLeast.b3 r3 s m) (0 : Int)
    else
      (scansionlaw17_DawgLeast.k1).map Step.done
def scansionlaw17_DawgLeast (l : List Str) : Option Bool :=
  scansionlaw17_awake.bind fun r =>
  (scansionlaw17_few l).bind fun r1 =>
  if ((!r) || (!r1)) then
    some r
  else
    (scansionref17_Rising l).bind fun r2 =>
    (dawg_Build r2).bind fun r3 =>
    if ((r3.2 != (0 : Int)) || (((r3.1.Final.length : Int) != (r3.1.Edges.length : Int)) || ((r3.1.Final.length : Int) == (0 : Int)))) then
      some false
    else
      Loop (scansionlaw17_DawgLeast.b1 r3) ((IntKind.i64.wrap ((r3.1.Final.length : Int) - (1 : Int))), (aput (IntKind.i64.wrap ((r3.1.Final.length : Int) - (1 : Int))) true []))
def scansionlaw17_DawgMore (l : List Str) (word : Str) (other : Str) : Option Bool :=
  scansionlaw17_awake.bind fun r =>
  (scansionlaw17_few l).bind fun r1 =>
  if ((!r) || ((!r1) || ((decide ((word.length : Int) < (1 : Int))) || ((decide ((word.length : Int) > (64 : Int))) || (decide ((other.length : Int) > (100 : Int))))))) then
    some r
  else
    (scansionref17_Rising l).bind fun r2 =>
    (dawg_Build r2).bind fun r3 =>
    (room 16 (0 + l.length)).bind fun _ =>
    (room 16 (l.length + 1)).bind fun _ =>
    (scansionref17_Rising (l ++ ([word]))).bind fun r4 =>
    (dawg_Build r4).bind fun r5 =>
    (if (r3.2 == (0 : Int)) then
        if (r5.2 == (0 : Int)) then
          (dawg_Has r5.1 word).bind fun r6 =>
          if r6 then
            (dawg_Has r5.1 other).bind fun r7 =>
            (dawg_Has r3.1 other).bind fun r8 =>
            if r8 then
              some (r7 == true)
            else
              some (r7 == (other == word))
          else
            some false
        else
          some false
      else
        some false).bind fun v1 =>
    some v1
def scansionlaw17_DawgSum.k1 (g : TGraph) (r2 : (List Int × Int)) : Option Bool :=
  some ((r2.1.length : Int) == (g.Final.length : Int))
def scansionlaw17_DawgSum.k2 (s : Int) : Option (Step Int Bool) :=
  some (Step.next (IntKind.i64.wrap (s + (1 : Int))))
def scansionlaw17_DawgSum.k4 (r2 : (List Int × Int)) (s : Int) (n1 : Int) : Option (Step Int Bool) :=
  (idx r2.1 s).bind fun n2 =>
  if (n2 != (mn n1 (1099511627776 : Int))) then
    some (Step.done false)
  else
    scansionlaw17_DawgSum.k2 s
def scansionlaw17_DawgSum.b2 (g : TGraph) (r2 : (List Int × Int)) (s : Int) : (Int × Int) → Option (Step ((Int × Int)) (Step Int Bool))
  | (n3, k) =>
    (idx g.Edges s).bind fun xs =>
    if (decide (k < (xs.length : Int))) then
      (idx xs k).bind fun x =>
      (idx r2.1 x.To).bind fun n4 =>
      some (Step.next ((IntKind.i64.wrap (n3 + n4)), (IntKind.i64.wrap (k + (1 : Int)))))
    else
      (scansionlaw17_DawgSum.k4 r2 s n3).map Step.done
def scansionlaw17_DawgSum.k3 (g : TGraph) (r2 : (List Int × Int)) (s : Int) (n : Int) : Option (Step Int Bool) :=
  Loop (scansionlaw17_DawgSum.b2 g r2 s) (n, (0 : Int))
def scansionlaw17_DawgSum.b1 (g : TGraph) (r2 : (List Int × Int)) : Int → Option (Step Int Bool)
  | s =>
    if (decide (s < (r2.1.length : Int))) then
      (idx g.Final s).bind fun b =>
      if b then
        scansionlaw17_DawgSum.k3 g r2 s (1 : Int)
      else
        scansionlaw17_DawgSum.k3 g r2 s (0 : Int)
    else
      (scansionlaw17_DawgSum.k1 g r2).map Step.done
def scansionlaw17_DawgSum (g : TGraph) : Option Bool :=
  scansionlaw17_awake.bind fun r =>
  (scansionref17_Few g (60 : Int)).bind fun r1 =>
  if ((!r) || (!r1)) then
    some r
  else
    (dawg_Count g).bind fun r2 =>
    if (r2.2 != (0 : Int)) then
      (if (r2.2 == (1 : Int)) then
          (dawg_Right g).bind fun r3 =>
          some (!r3)
        else
          some false).bind fun v1 =>
      some v1
    else
      Loop (scansionlaw17_DawgSum.b1 g r2) (0 : Int)
def scansionlaw17_DawgAsks (g : TGraph) (word : Str) (n : Int) : Option Bool :=
  scansionlaw17_awake.bind fun r =>
  (scansionref17_Few g (60 : Int)).bind fun r1 =>
  if ((!r) || ((!r1) || (decide ((word.length : Int) > (100 : Int))))) then
    some r
  else
    (dawg_Count g).bind fun r2 =>
    (scansionref17_Count g).bind fun r3 =>
    (scansionref01_SameInts r2.1 r3.1).bind fun r4 =>
    (if (!r4) then
        some true
      else
        if (r2.2 != r3.2) then
          some true
        else
          (dawg_Right g).bind fun r5 =>
          (scansionref17_Right g).bind fun r6 =>
          if (!(r5 == r6)) then
            some true
          else
            (dawg_Has g word).bind fun r7 =>
            (scansionref17_Has g word).bind fun r8 =>
            some (!(r7 == r8))).bind fun v1 =>
    if v1 then
      some false
    else
      (if (r2.2 == (0 : Int)) then
          (idx r3.1 (IntKind.i64.wrap ((r3.1.length : Int) - (1 : Int)))).bind fun n1 =>
          some (decide (n1 > (1073741824 : Int)))
        else
          some false).bind fun v2 =>
      if v2 then
        some true
      else
        (dawg_Number g word).bind fun r9 =>
        (scansionref17_Number g word).bind fun r10 =>
        (dawg_Word g n).bind fun r11 =>
        (scansionref17_Word g n).bind fun r12 =>
        some ((r9.1 == r10.1) && ((r9.2 == r10.2) && ((r11.1 == r12.1) && (r11.2 == r12.2))))
def scansionlaw17_DawgWords.k1 (o : Str) (r2 : List Str) (r3 : (TGraph × Int)) (v2 : Bool) : Option Bool :=
  (dawg_Word r3.1 (r2.length : Int)).bind fun r5 =>
  (dawg_Count r3.1).bind fun r6 =>
  ((dawg_Has r3.1 o).bind fun r7 =>
    if (r7 == v2) then
      if (r5.2 == (4 : Int)) then
        if (r6.2 == (0 : Int)) then
          (idx r6.1 (IntKind.i64.wrap ((r6.1.length : Int) - (1 : Int)))).bind fun n =>
          some (n == (r2.length : Int))
        else
          some false
      else
        some false
    else
      some false).bind fun r8 =>
  some r8
def scansionlaw17_DawgWords.k2 (v4 : Int) (v5 : Bool) : Option (Step ((Bool × Int)) Bool) :=
  some (Step.next (v5, (IntKind.i64.wrap (v4 + (1 : Int)))))
def scansionlaw17_DawgWords.b1 (o : Str) (r2 : List Str) (r3 : (TGraph × Int)) : (Bool × Int) → Option (Step ((Bool × Int)) Bool)
  | (v3, v4) =>
    if (decide (v4 < (r2.length : Int))) then
      (idx r2 v4).bind fun s =>
      (dawg_Number r3.1 s).bind fun r9 =>
      (dawg_Word r3.1 v4).bind fun r10 =>
      if ((r9.2 != (0 : Int)) || ((r10.2 != (0 : Int)) || ((r9.1 != v4) || (!(r10.1 == s))))) then
        some (Step.done false)
      else
        if v3 then
          scansionlaw17_DawgWords.k2 v4 true
        else
          scansionlaw17_DawgWords.k2 v4 (s == o)
    else
      (scansionlaw17_DawgWords.k1 o r2 r3 v3).map Step.done
def scansionlaw17_DawgWords (t : List Str) (o : Str) : Option Bool :=
  scansionlaw17_awake.bind fun r =>
  (scansionlaw17_few t).bind fun r1 =>
  if ((!r) || ((!r1) || (decide ((o.length : Int) > (100 : Int))))) then
    some r
  else
    (scansionref17_Rising t).bind fun r2 =>
    (dawg_Build r2).bind fun r3 =>
    (if (r3.2 != (0 : Int)) then
        some true
      else
        (dawg_Right r3.1).bind fun r4 =>
        some (!r4)).bind fun v1 =>
    if v1 then
      some false
    else
      Loop (scansionlaw17_DawgWords.b1 o r2 r3) (false, (0 : Int))
end
end Go.Val

/- part GW15 -/
/- scansion/scansionlaw17.few runs as it is read off. -/
namespace Go.Val
set_option linter.unusedVariables false
set_option linter.unusedSimpArgs false
set_option maxRecDepth 20000
open Go.Proofs
theorem scansionlaw17_few_runs (l : List Str) {h : Heap} {a : Bool} (e : scansionlaw17_few l = some a) :
    Runs CT 15 [.cv (.val (.sl (List.map eS l)))] h fun o h' => o = [.cv (.val (.bool a))] ∧ h' = h := by
  refine Runs.start Try.f15 _ Try.func15 rfl (by rw [Try.ntmps15]; simp) (by rfl) (by rfl) (fun hwf hu => ?_)
  obtain ⟨D, hD, hr⟩ : ∃ D : Bool → Prop, (∀ z, D z → z = a) ∧ Holds (scansionlaw17_few l) D := ⟨fun z => z = a, fun _ h => h, Holds.intro e rfl⟩
  dsimp only [scansionlaw17_few] at hr
  change wpCode _ _ _ _ _ ⟨[(0, .cv (.val (.sl (List.map eS l))))], h.on []⟩
  refine w_seq ?_
  refine w_region rfl (by simp (disch := (apply Apart.mk; decide)) only [go_sem, Nat.reduceAdd, Nat.reduceLT, Nat.reduceMul, Nat.reduceLeDiff, Nat.lt_irrefl, Int.reduceToNat, Int.reduceLT, Int.reduceLE]; rfl) ?_
  refine (w_n ?_)
  refine w_seq ?_
  refine w_seq ?_
  refine w_region rfl (by simp (disch := (apply Apart.mk; decide)) only [go_sem, Nat.reduceAdd, Nat.reduceLT, Nat.reduceMul, Nat.reduceLeDiff, Nat.lt_irrefl, Int.reduceToNat, Int.reduceLT, Int.reduceLE]; rfl) ?_
  refine (w_n ?_)
  refine w_condH (by simp (disch := (apply Apart.mk; decide)) only [go_sem, Nat.reduceAdd, Nat.reduceLT, Nat.reduceMul, Nat.reduceLeDiff, Nat.lt_irrefl, Int.reduceToNat, Int.reduceLT, Int.reduceLE]) hr (fun c1 hr => ?_) (fun c1 hr => ?_)
  · refine w_seq ?_
    refine w_region rfl (by simp (disch := (apply Apart.mk; decide)) only [go_sem, Nat.reduceAdd, Nat.reduceLT, Nat.reduceMul, Nat.reduceLeDiff, Nat.lt_irrefl, Int.reduceToNat, Int.reduceLT, Int.reduceLE, c1]; rfl) ?_
    refine (w_n ?_)
    refine w_ret ?_
    obtain rfl := hD _ hr
    exact (w_tr (w_endR (To.cut (os' := []) (sl := [(2, .cv (.val (.bool false)))]) hwf (Nat.le_refl _) rfl (by simp (disch := (apply Apart.mk; decide)) only [go_sem, Nat.reduceAdd, Nat.reduceLT, Nat.reduceMul, Nat.reduceLeDiff, Nat.lt_irrefl, Int.reduceToNat, Int.reduceLT, Int.reduceLE, c1])) (by simp (disch := (apply Apart.mk; decide)) only [go_sem, Nat.reduceAdd, Nat.reduceLT, Nat.reduceMul, Nat.reduceLeDiff, Nat.lt_irrefl, Int.reduceToNat, Int.reduceLT, Int.reduceLE, Try.results15, results_data CT_gives15, resCell, resVal.eq_2, loadOp_sv, c1]) ⟨rfl, on_nil hwf⟩))
  · refine w_skip ?_
    refine (w_n ?_)
    refine w_seq ?_
    refine w_seq ?_
    refine w_region rfl (by simp (disch := (apply Apart.mk; decide)) only [go_sem, Nat.reduceAdd, Nat.reduceLT, Nat.reduceMul, Nat.reduceLeDiff, Nat.lt_irrefl, Int.reduceToNat, Int.reduceLT, Int.reduceLE, c1]; rfl) ?_
    refine (w_n ?_)
    refine w_K (D := D) (fun x : Unit => ⟨[], h.on []⟩) (fun x : Unit => scansionlaw17_few.k1) (fun x s' hr ht => ?_) ?_
    · dsimp only [scansionlaw17_few.k1] at hr ht
      refine (w_nT ht ?_)
      refine w_seq ?_
      refine w_region rfl (by simp (disch := (apply Apart.mk; decide)) only [go_sem, Nat.reduceAdd, Nat.reduceLT, Nat.reduceMul, Nat.reduceLeDiff, Nat.lt_irrefl, Int.reduceToNat, Int.reduceLT, Int.reduceLE, c1]; rfl) ?_
      refine (w_n ?_)
      refine w_ret ?_
      obtain rfl := hD _ hr
      exact (w_endR (To.cut (os' := []) (sl := [(2, .cv (.val (.bool true)))]) hwf (Nat.le_refl _) rfl (by simp (disch := (apply Apart.mk; decide)) only [go_sem, Nat.reduceAdd, Nat.reduceLT, Nat.reduceMul, Nat.reduceLeDiff, Nat.lt_irrefl, Int.reduceToNat, Int.reduceLT, Int.reduceLE, c1])) (by simp (disch := (apply Apart.mk; decide)) only [go_sem, Nat.reduceAdd, Nat.reduceLT, Nat.reduceMul, Nat.reduceLeDiff, Nat.lt_irrefl, Int.reduceToNat, Int.reduceLT, Int.reduceLE, Try.results15, results_data CT_gives15, resCell, resVal.eq_2, loadOp_sv, c1]) ⟨rfl, on_nil hwf⟩)
    · refine w_block ?_
      refine w_Loop (fun x : Int => ⟨[(0, .cv (.val (.sl (List.map eS l)))), (3, .cv (.val (.int .i64 x)))], h.on []⟩) hr (To.cut hwf (Nat.le_refl _) rfl (by simp (disch := (apply Apart.mk; decide)) only [go_sem, Nat.reduceAdd, Nat.reduceLT, Nat.reduceMul, Nat.reduceLeDiff, Nat.lt_irrefl, Int.reduceToNat, Int.reduceLT, Int.reduceLE, c1])) (fun W1 x hr => ?_)
      obtain ⟨i, rfl⟩ : ∃ z, z = x := ⟨x, rfl⟩
      dsimp only [scansionlaw17_few.b1] at hr
      refine w_seq ?_
      refine w_seq ?_
      refine w_region rfl (by simp (disch := (apply Apart.mk; decide)) only [go_sem, Nat.reduceAdd, Nat.reduceLT, Nat.reduceMul, Nat.reduceLeDiff, Nat.lt_irrefl, Int.reduceToNat, Int.reduceLT, Int.reduceLE, c1]; rfl) ?_
      refine (w_n ?_)
      refine w_condH (by simp (disch := (apply Apart.mk; decide)) only [go_sem, Nat.reduceAdd, Nat.reduceLT, Nat.reduceMul, Nat.reduceLeDiff, Nat.lt_irrefl, Int.reduceToNat, Int.reduceLT, Int.reduceLE, c1]) hr (fun c2 hr => ?_) (fun c2 hr => ?_)
      · refine w_skip ?_
        refine (w_n ?_)
        refine w_seq ?_
        refine w_block ?_
        refine w_seq ?_
        obtain ⟨s, n3, e4, g5, hr⟩ := hr.idx
        refine w_region rfl (by simp (disch := (apply Apart.mk; decide)) only [go_sem, Nat.reduceAdd, Nat.reduceLT, Nat.reduceMul, Nat.reduceLeDiff, Nat.lt_irrefl, Int.reduceToNat, Int.reduceLT, Int.reduceLE, n3, e4, g5, c1, c2]; rfl) ?_
        refine (w_n ?_)
        refine w_condH (by simp (disch := (apply Apart.mk; decide)) only [go_sem, Nat.reduceAdd, Nat.reduceLT, Nat.reduceMul, Nat.reduceLeDiff, Nat.lt_irrefl, Int.reduceToNat, Int.reduceLT, Int.reduceLE, c1, c2]) hr (fun c6 hr => ?_) (fun c6 hr => ?_)
        · refine w_seq ?_
          refine w_region rfl (by simp (disch := (apply Apart.mk; decide)) only [go_sem, Nat.reduceAdd, Nat.reduceLT, Nat.reduceMul, Nat.reduceLeDiff, Nat.lt_irrefl, Int.reduceToNat, Int.reduceLT, Int.reduceLE, c1, c2, c6]; rfl) ?_
          refine (w_n ?_)
          refine w_ret ?_
          obtain rfl := hD _ hr
          exact (w_br (w_tr (w_tr (w_br (w_tr (w_tr (w_endR (To.cut (os' := []) (sl := [(2, .cv (.val (.bool false)))]) hwf (Nat.le_refl _) rfl (by simp (disch := (apply Apart.mk; decide)) only [go_sem, Nat.reduceAdd, Nat.reduceLT, Nat.reduceMul, Nat.reduceLeDiff, Nat.lt_irrefl, Int.reduceToNat, Int.reduceLT, Int.reduceLE, c1, c2, c6])) (by simp (disch := (apply Apart.mk; decide)) only [go_sem, Nat.reduceAdd, Nat.reduceLT, Nat.reduceMul, Nat.reduceLeDiff, Nat.lt_irrefl, Int.reduceToNat, Int.reduceLT, Int.reduceLE, Try.results15, results_data CT_gives15, resCell, resVal.eq_2, loadOp_sv, c1, c2, c6]) ⟨rfl, on_nil hwf⟩)))))))
        · refine w_skip ?_
          refine (w_bn (w_n ?_))
          refine w_region rfl (by simp (disch := (apply Apart.mk; decide)) only [go_sem, Nat.reduceAdd, Nat.reduceLT, Nat.reduceMul, Nat.reduceLeDiff, Nat.lt_irrefl, Int.reduceToNat, Int.reduceLT, Int.reduceLE, c1, c2, c6]; rfl) ?_
          exact (w_k ⟨(IntKind.i64.wrap (i + (1 : Int))), hr, (To.cut hwf (Nat.le_refl _) rfl (by simp (disch := (apply Apart.mk; decide)) only [go_sem, Nat.reduceAdd, Nat.reduceLT, Nat.reduceMul, Nat.reduceLeDiff, Nat.lt_irrefl, Int.reduceToNat, Int.reduceLT, Int.reduceLE, c1, c2, c6]))⟩)
      · refine w_exit ?_
        exact (w_te (w_te (w_bx (w_k ⟨(), (hr).map, (To.cut hwf (Nat.le_refl _) rfl (by simp (disch := (apply Apart.mk; decide)) only [go_sem, Nat.reduceAdd, Nat.reduceLT, Nat.reduceMul, Nat.reduceLeDiff, Nat.lt_irrefl, Int.reduceToNat, Int.reduceLT, Int.reduceLE, c1, c2]))⟩))))
end Go.Val

/- part GW27 -/
/- scansion/dawg.Right runs as it is read off. -/
namespace Go.Val
set_option linter.unusedVariables false
set_option linter.unusedSimpArgs false
set_option maxRecDepth 20000
open Go.Proofs
theorem dawg_Right_runs (g : TGraph) {h : Heap} {a : Bool} (e : dawg_Right g = some a) :
    Runs CT 27 [.cv (.val (.agg [.sl (List.map eB g.Final), .sl (List.map (eL eEdge) g.Edges)]))] h fun o h' => o = [.cv (.val (.bool a))] ∧ h' = h := by
  refine Runs.start Try.f27 _ Try.func27 rfl (by rw [Try.ntmps27]; simp) (by rfl) (by rfl) (fun hwf hu => ?_)
  obtain ⟨D, hD, hr⟩ : ∃ D : Bool → Prop, (∀ z, D z → z = a) ∧ Holds (dawg_Right g) D := ⟨fun z => z = a, fun _ h => h, Holds.intro e rfl⟩
  dsimp only [dawg_Right] at hr
  change wpCode _ _ _ _ _ ⟨[(0, .cv (.val (.agg [.sl (List.map eB g.Final), .sl (List.map (eL eEdge) g.Edges)])))], h.on []⟩
  refine w_seq ?_
  refine w_region rfl (by simp (disch := (apply Apart.mk; decide)) only [go_sem, Nat.reduceAdd, Nat.reduceLT, Nat.reduceMul, Nat.reduceLeDiff, Nat.lt_irrefl, Int.reduceToNat, Int.reduceLT, Int.reduceLE]; rfl) ?_
  refine (w_n ?_)
  refine w_seq ?_
  refine w_region rfl (by simp (disch := (apply Apart.mk; decide)) only [go_sem, Nat.reduceAdd, Nat.reduceLT, Nat.reduceMul, Nat.reduceLeDiff, Nat.lt_irrefl, Int.reduceToNat, Int.reduceLT, Int.reduceLE]; rfl) ?_
  refine (w_n ?_)
  refine w_seq ?_
  refine w_joinR (sj := ⟨[(1, .cv (.val (.ptr (some (h.n + 0, 0))))), (23, .cv (.val (.bool ((decide ((g.Final.length : Int) < (1 : Int))) || ((decide ((g.Final.length : Int) > (65536 : Int))) || ((g.Edges.length : Int) != (g.Final.length : Int)))))))], h.on [some (.cells [.val (.sl (List.map eB g.Final)), .val (.sl (List.map (eL eEdge) g.Edges))])]⟩) (w_ops rfl ?_) ?_
  · refine w_upto 3 rfl (by simp (disch := (apply Apart.mk; decide)) only [go_sem, Nat.reduceAdd, Nat.reduceLT, Nat.reduceMul, Nat.reduceLeDiff, Nat.lt_irrefl, Int.reduceToNat, Int.reduceLT, Int.reduceLE]; rfl) ?_
    rcases Bool.eq_false_or_eq_true (decide ((g.Final.length : Int) < (1 : Int))) with c1 | c1
    · refine w_ops_end (by simp (disch := (apply Apart.mk; decide)) only [go_sem, Nat.reduceAdd, Nat.reduceLT, Nat.reduceMul, Nat.reduceLeDiff, Nat.lt_irrefl, Int.reduceToNat, Int.reduceLT, Int.reduceLE, c1]; rfl) ?_
      exact w_k (To.cut hwf (Nat.le_refl _) rfl (by simp (disch := (apply Apart.mk; decide)) only [go_sem, Nat.reduceAdd, Nat.reduceLT, Nat.reduceMul, Nat.reduceLeDiff, Nat.lt_irrefl, Int.reduceToNat, Int.reduceLT, Int.reduceLE, c1]))
    · refine w_upto 4 rfl (by simp (disch := (apply Apart.mk; decide)) only [go_sem, Nat.reduceAdd, Nat.reduceLT, Nat.reduceMul, Nat.reduceLeDiff, Nat.lt_irrefl, Int.reduceToNat, Int.reduceLT, Int.reduceLE, c1]; rfl) ?_
      rcases Bool.eq_false_or_eq_true (decide ((g.Final.length : Int) > (65536 : Int))) with c2 | c2
      · refine w_ops_end (by simp (disch := (apply Apart.mk; decide)) only [go_sem, Nat.reduceAdd, Nat.reduceLT, Nat.reduceMul, Nat.reduceLeDiff, Nat.lt_irrefl, Int.reduceToNat, Int.reduceLT, Int.reduceLE, c1, c2]; rfl) ?_
        exact w_k (To.cut hwf (Nat.le_refl _) rfl (by simp (disch := (apply Apart.mk; decide)) only [go_sem, Nat.reduceAdd, Nat.reduceLT, Nat.reduceMul, Nat.reduceLeDiff, Nat.lt_irrefl, Int.reduceToNat, Int.reduceLT, Int.reduceLE, c1, c2]))
      · refine w_ops_end (by simp (disch := (apply Apart.mk; decide)) only [go_sem, Nat.reduceAdd, Nat.reduceLT, Nat.reduceMul, Nat.reduceLeDiff, Nat.lt_irrefl, Int.reduceToNat, Int.reduceLT, Int.reduceLE, c1, c2]; rfl) ?_
        exact w_k (To.cut hwf (Nat.le_refl _) rfl (by simp (disch := (apply Apart.mk; decide)) only [go_sem, Nat.reduceAdd, Nat.reduceLT, Nat.reduceMul, Nat.reduceLeDiff, Nat.lt_irrefl, Int.reduceToNat, Int.reduceLT, Int.reduceLE, c1, c2]))
  refine w_condH (by simp (disch := (apply Apart.mk; decide)) only [go_sem, Nat.reduceAdd, Nat.reduceLT, Nat.reduceMul, Nat.reduceLeDiff, Nat.lt_irrefl, Int.reduceToNat, Int.reduceLT, Int.reduceLE]) hr (fun c3 hr => ?_) (fun c3 hr => ?_)
  · refine w_seq ?_
    refine w_region rfl (by simp (disch := (apply Apart.mk; decide)) only [go_sem, Nat.reduceAdd, Nat.reduceLT, Nat.reduceMul, Nat.reduceLeDiff, Nat.lt_irrefl, Int.reduceToNat, Int.reduceLT, Int.reduceLE, c3]; rfl) ?_
    refine (w_n ?_)
    refine w_ret ?_
    obtain rfl := hD _ hr
    exact (w_tr (w_endR (To.cut (os' := []) (sl := [(2, .cv (.val (.bool false)))]) hwf (Nat.le_refl _) rfl (by simp (disch := (apply Apart.mk; decide)) only [go_sem, Nat.reduceAdd, Nat.reduceLT, Nat.reduceMul, Nat.reduceLeDiff, Nat.lt_irrefl, Int.reduceToNat, Int.reduceLT, Int.reduceLE, c3])) (by simp (disch := (apply Apart.mk; decide)) only [go_sem, Nat.reduceAdd, Nat.reduceLT, Nat.reduceMul, Nat.reduceLeDiff, Nat.lt_irrefl, Int.reduceToNat, Int.reduceLT, Int.reduceLE, Try.results27, results_data CT_gives27, resCell, resVal.eq_2, loadOp_sv, c3]) ⟨rfl, on_nil hwf⟩))
  · refine w_skip ?_
    refine (w_n ?_)
    refine w_seq ?_
    refine w_seq ?_
    refine w_region rfl (by simp (disch := (apply Apart.mk; decide)) only [go_sem, Nat.reduceAdd, Nat.reduceLT, Nat.reduceMul, Nat.reduceLeDiff, Nat.lt_irrefl, Int.reduceToNat, Int.reduceLT, Int.reduceLE, c3]; rfl) ?_
    refine (w_n ?_)
    refine w_K (D := D) (fun x : Unit => ⟨[], h.on []⟩) (fun x : Unit => dawg_Right.k1) (fun x s' hr ht => ?_) ?_
    · dsimp only [dawg_Right.k1] at hr ht
      refine (w_nT ht ?_)
      refine w_seq ?_
      refine w_region rfl (by simp (disch := (apply Apart.mk; decide)) only [go_sem, Nat.reduceAdd, Nat.reduceLT, Nat.reduceMul, Nat.reduceLeDiff, Nat.lt_irrefl, Int.reduceToNat, Int.reduceLT, Int.reduceLE, c3]; rfl) ?_
      refine (w_n ?_)
      refine w_ret ?_
      obtain rfl := hD _ hr
      exact (w_endR (To.cut (os' := []) (sl := [(2, .cv (.val (.bool true)))]) hwf (Nat.le_refl _) rfl (by simp (disch := (apply Apart.mk; decide)) only [go_sem, Nat.reduceAdd, Nat.reduceLT, Nat.reduceMul, Nat.reduceLeDiff, Nat.lt_irrefl, Int.reduceToNat, Int.reduceLT, Int.reduceLE, c3])) (by simp (disch := (apply Apart.mk; decide)) only [go_sem, Nat.reduceAdd, Nat.reduceLT, Nat.reduceMul, Nat.reduceLeDiff, Nat.lt_irrefl, Int.reduceToNat, Int.reduceLT, Int.reduceLE, Try.results27, results_data CT_gives27, resCell, resVal.eq_2, loadOp_sv, c3]) ⟨rfl, on_nil hwf⟩)
    · refine w_block ?_
      refine w_Loop (fun x : Int => ⟨[(25, .cv (.val (.sl (List.map (eL eEdge) g.Edges)))), (26, .cv (.val (.int .i64 (g.Edges.length : Int)))), (27, .cv (.val (.int .i64 x)))], h.on []⟩) hr (To.cut hwf (Nat.le_refl _) rfl (by simp (disch := (apply Apart.mk; decide)) only [go_sem, Nat.reduceAdd, Nat.reduceLT, Nat.reduceMul, Nat.reduceLeDiff, Nat.lt_irrefl, Int.reduceToNat, Int.reduceLT, Int.reduceLE, c3])) (fun W1 x hr => ?_)
      obtain ⟨v1, rfl⟩ : ∃ z, z = x := ⟨x, rfl⟩
      dsimp only [dawg_Right.b1] at hr
      refine w_seq ?_
      refine w_region rfl (by simp (disch := (apply Apart.mk; decide)) only [go_sem, Nat.reduceAdd, Nat.reduceLT, Nat.reduceMul, Nat.reduceLeDiff, Nat.lt_irrefl, Int.reduceToNat, Int.reduceLT, Int.reduceLE, c3]; rfl) ?_
      refine (w_n ?_)
      refine w_seq ?_
      refine w_condH (by simp (disch := (apply Apart.mk; decide)) only [go_sem, Nat.reduceAdd, Nat.reduceLT, Nat.reduceMul, Nat.reduceLeDiff, Nat.lt_irrefl, Int.reduceToNat, Int.reduceLT, Int.reduceLE, c3]) hr (fun c4 hr => ?_) (fun c4 hr => ?_)
      · refine w_skip ?_
        refine (w_n ?_)
        refine w_seq ?_
        refine w_K (D := (Aft W1 D)) (fun x : Unit => ⟨[(25, .cv (.val (.sl (List.map (eL eEdge) g.Edges)))), (26, .cv (.val (.int .i64 (g.Edges.length : Int)))), (27, .cv (.val (.int .i64 v1)))], h.on []⟩) (fun x : Unit => dawg_Right.k2 v1) (fun x s' hr ht => ?_) ?_
        · dsimp only [dawg_Right.k2] at hr ht
          refine (w_nT ht ?_)
          refine w_region rfl (by simp (disch := (apply Apart.mk; decide)) only [go_sem, Nat.reduceAdd, Nat.reduceLT, Nat.reduceMul, Nat.reduceLeDiff, Nat.lt_irrefl, Int.reduceToNat, Int.reduceLT, Int.reduceLE, c3, c4]; rfl) ?_
          exact (w_k ⟨(IntKind.i64.wrap (v1 + (1 : Int))), hr, (To.cut hwf (Nat.le_refl _) rfl (by simp (disch := (apply Apart.mk; decide)) only [go_sem, Nat.reduceAdd, Nat.reduceLT, Nat.reduceMul, Nat.reduceLeDiff, Nat.lt_irrefl, Int.reduceToNat, Int.reduceLT, Int.reduceLE, c3, c4]))⟩)
        · refine w_block ?_
          refine w_seq ?_
          obtain ⟨xs, n5, e6, g7, hr⟩ := hr.idx
          refine w_region rfl (by simp (disch := (apply Apart.mk; decide)) only [go_sem, Nat.reduceAdd, Nat.reduceLT, Nat.reduceMul, Nat.reduceLeDiff, Nat.lt_irrefl, Int.reduceToNat, Int.reduceLT, Int.reduceLE, n5, e6, g7, c3, c4]; rfl) ?_
          refine (w_n ?_)
          refine w_seq ?_
          refine w_region rfl (by simp (disch := (apply Apart.mk; decide)) only [go_sem, Nat.reduceAdd, Nat.reduceLT, Nat.reduceMul, Nat.reduceLeDiff, Nat.lt_irrefl, Int.reduceToNat, Int.reduceLT, Int.reduceLE, c3, c4]; rfl) ?_
          refine (w_n ?_)
          refine w_block ?_
          refine w_Loop (fun x : Int => ⟨[(4, .cv (.val (.int .i64 v1))), (5, .cv (.val (.sl (List.map eEdge xs)))), (25, .cv (.val (.sl (List.map (eL eEdge) g.Edges)))), (26, .cv (.val (.int .i64 (g.Edges.length : Int)))), (27, .cv (.val (.int .i64 v1))), (32, .cv (.val (.sl (List.map eEdge xs)))), (33, .cv (.val (.int .i64 (xs.length : Int)))), (34, .cv (.val (.int .i64 x)))], h.on []⟩) hr (To.cut hwf (Nat.le_refl _) rfl (by simp (disch := (apply Apart.mk; decide)) only [go_sem, Nat.reduceAdd, Nat.reduceLT, Nat.reduceMul, Nat.reduceLeDiff, Nat.lt_irrefl, Int.reduceToNat, Int.reduceLT, Int.reduceLE, c3, c4])) (fun W2 x hr => ?_)
          obtain ⟨v2, rfl⟩ : ∃ z, z = x := ⟨x, rfl⟩
          dsimp only [dawg_Right.b2] at hr
          refine w_seq ?_
          refine w_region rfl (by simp (disch := (apply Apart.mk; decide)) only [go_sem, Nat.reduceAdd, Nat.reduceLT, Nat.reduceMul, Nat.reduceLeDiff, Nat.lt_irrefl, Int.reduceToNat, Int.reduceLT, Int.reduceLE, c3, c4]; rfl) ?_
          refine (w_n ?_)
          refine w_seq ?_
          refine w_condH (by simp (disch := (apply Apart.mk; decide)) only [go_sem, Nat.reduceAdd, Nat.reduceLT, Nat.reduceMul, Nat.reduceLeDiff, Nat.lt_irrefl, Int.reduceToNat, Int.reduceLT, Int.reduceLE, c3, c4]) hr (fun c8 hr => ?_) (fun c8 hr => ?_)
          · refine w_skip ?_
            refine (w_n ?_)
            refine w_seq ?_
            refine w_block ?_
            refine w_seq ?_
            obtain ⟨x, n9, e10, g11, hr⟩ := hr.idx
            refine w_region rfl (by simp (disch := (apply Apart.mk; decide)) only [go_sem, Nat.reduceAdd, Nat.reduceLT, Nat.reduceMul, Nat.reduceLeDiff, Nat.lt_irrefl, Int.reduceToNat, Int.reduceLT, Int.reduceLE, n9, e10, g11, c3, c4, c8]; rfl) ?_
            refine (w_n ?_)
            obtain ⟨v3, v18, hr⟩ := hr.bind
            refine w_joinR (sj := ⟨[(4, .cv (.val (.int .i64 v1))), (5, .cv (.val (.sl (List.map eEdge xs)))), (25, .cv (.val (.sl (List.map (eL eEdge) g.Edges)))), (26, .cv (.val (.int .i64 (g.Edges.length : Int)))), (27, .cv (.val (.int .i64 v1))), (32, .cv (.val (.sl (List.map eEdge xs)))), (33, .cv (.val (.int .i64 (xs.length : Int)))), (34, .cv (.val (.int .i64 v2))), (62, .cv (.val (.bool v3)))], h.on []⟩) (w_drawn [0, 1, 2, 3, 4, 5, 6, 7, 8, 9, 10, 11, 12, 13, 14, 15, 16, 17, 18, 19, 20, 21, 22, 23] (by rfl) ?_) ?_
            · have hr := Holds.intro (D := fun z => z = v3) v18 rfl
              refine p_run (l := [0, 1, 2, 3]) (pend' := [3, 2, 1, 0]) (by simp (disch := (apply Apart.mk; decide)) only [go_sem, Nat.reduceAdd, Nat.reduceLT, Nat.reduceMul, Nat.reduceLeDiff, Nat.lt_irrefl, Int.reduceToNat, Int.reduceLT, Int.reduceLE]; rfl) rfl ?_
              rcases hr.ite with ⟨c12, hr⟩ | ⟨c12, hr⟩
              · refine p_run (l := [4, 5, 6, 7, 8, 9, 10, 11, 12, 13, 14, 15, 16, 17, 18, 19, 20, 21, 22, 23]) (pend' := [23, 22, 21, 20, 19, 18, 17, 16, 15, 14, 13, 12, 11, 10, 9, 8, 7, 6, 5, 4, 3, 2, 1, 0]) (by simp (disch := (apply Apart.mk; decide)) only [go_sem, Nat.reduceAdd, Nat.reduceLT, Nat.reduceMul, Nat.reduceLeDiff, Nat.lt_irrefl, Int.reduceToNat, Int.reduceLT, Int.reduceLE, c12]; rfl) rfl ?_
                refine p_end (by simp (disch := (apply Apart.mk; decide)) only [go_sem, Nat.reduceAdd, Nat.reduceLT, Nat.reduceMul, Nat.reduceLeDiff, Nat.lt_irrefl, Int.reduceToNat, Int.reduceLT, Int.reduceLE, c12]) ?_
                obtain rfl : _ = v3 := hr
                exact w_k (To.cut hwf (Nat.le_refl _) rfl (by simp (disch := (apply Apart.mk; decide)) only [go_sem, Nat.reduceAdd, Nat.reduceLT, Nat.reduceMul, Nat.reduceLeDiff, Nat.lt_irrefl, Int.reduceToNat, Int.reduceLT, Int.reduceLE, c3, c4, c8, c12]))
              · refine p_run (l := [4, 5, 6, 7, 8, 9]) (pend' := [9, 8, 7, 6, 5, 4, 3, 2, 1, 0]) (by simp (disch := (apply Apart.mk; decide)) only [go_sem, Nat.reduceAdd, Nat.reduceLT, Nat.reduceMul, Nat.reduceLeDiff, Nat.lt_irrefl, Int.reduceToNat, Int.reduceLT, Int.reduceLE, c12]; rfl) rfl ?_
                rcases hr.ite with ⟨c13, hr⟩ | ⟨c13, hr⟩
                · refine p_run (l := [10, 11, 12, 13, 14, 15, 16, 17, 18, 19, 20, 21, 22, 23]) (pend' := [23, 22, 21, 20, 19, 18, 17, 16, 15, 14, 13, 12, 11, 10, 9, 8, 7, 6, 5, 4, 3, 2, 1, 0]) (by simp (disch := (apply Apart.mk; decide)) only [go_sem, Nat.reduceAdd, Nat.reduceLT, Nat.reduceMul, Nat.reduceLeDiff, Nat.lt_irrefl, Int.reduceToNat, Int.reduceLT, Int.reduceLE, c12, c13]; rfl) rfl ?_
                  refine p_end (by simp (disch := (apply Apart.mk; decide)) only [go_sem, Nat.reduceAdd, Nat.reduceLT, Nat.reduceMul, Nat.reduceLeDiff, Nat.lt_irrefl, Int.reduceToNat, Int.reduceLT, Int.reduceLE, c12, c13]) ?_
                  obtain rfl : _ = v3 := hr
                  exact w_k (To.cut hwf (Nat.le_refl _) rfl (by simp (disch := (apply Apart.mk; decide)) only [go_sem, Nat.reduceAdd, Nat.reduceLT, Nat.reduceMul, Nat.reduceLeDiff, Nat.lt_irrefl, Int.reduceToNat, Int.reduceLT, Int.reduceLE, c3, c4, c8, c12, c13]))
                · refine p_run (l := [10, 11, 12]) (pend' := [12, 11, 10, 9, 8, 7, 6, 5, 4, 3, 2, 1, 0]) (by simp (disch := (apply Apart.mk; decide)) only [go_sem, Nat.reduceAdd, Nat.reduceLT, Nat.reduceMul, Nat.reduceLeDiff, Nat.lt_irrefl, Int.reduceToNat, Int.reduceLT, Int.reduceLE, c12, c13]; rfl) rfl ?_
                  rcases hr.ite with ⟨c14, hr⟩ | ⟨c14, hr⟩
                  · obtain ⟨x1, n15, e16, g17, hr⟩ := hr.idx
                    refine p_run (l := [13, 14, 15, 16, 17, 18, 19, 20, 21, 22, 23]) (pend' := [23, 22, 21, 20, 19, 18, 17, 16, 15, 14, 13, 12, 11, 10, 9, 8, 7, 6, 5, 4, 3, 2, 1, 0]) (by simp (disch := (apply Apart.mk; decide)) only [go_sem, Nat.reduceAdd, Nat.reduceLT, Nat.reduceMul, Nat.reduceLeDiff, Nat.lt_irrefl, Int.reduceToNat, Int.reduceLT, Int.reduceLE, c12, c13, c14, n15, e16, g17]; rfl) rfl ?_
                    refine p_end (by simp (disch := (apply Apart.mk; decide)) only [go_sem, Nat.reduceAdd, Nat.reduceLT, Nat.reduceMul, Nat.reduceLeDiff, Nat.lt_irrefl, Int.reduceToNat, Int.reduceLT, Int.reduceLE, c12, c13, c14, n15, e16, g17]) ?_
                    obtain rfl : _ = v3 := hr
                    exact w_k (To.cut hwf (Nat.le_refl _) rfl (by simp (disch := (apply Apart.mk; decide)) only [go_sem, Nat.reduceAdd, Nat.reduceLT, Nat.reduceMul, Nat.reduceLeDiff, Nat.lt_irrefl, Int.reduceToNat, Int.reduceLT, Int.reduceLE, c3, c4, c8, c12, c13, c14]))
                  · refine p_run (l := [13, 14, 15, 16, 17, 18, 19, 20, 21, 22, 23]) (pend' := [23, 22, 21, 20, 19, 18, 17, 16, 15, 14, 13, 12, 11, 10, 9, 8, 7, 6, 5, 4, 3, 2, 1, 0]) (by simp (disch := (apply Apart.mk; decide)) only [go_sem, Nat.reduceAdd, Nat.reduceLT, Nat.reduceMul, Nat.reduceLeDiff, Nat.lt_irrefl, Int.reduceToNat, Int.reduceLT, Int.reduceLE, c12, c13, c14]; rfl) rfl ?_
                    refine p_end (by simp (disch := (apply Apart.mk; decide)) only [go_sem, Nat.reduceAdd, Nat.reduceLT, Nat.reduceMul, Nat.reduceLeDiff, Nat.lt_irrefl, Int.reduceToNat, Int.reduceLT, Int.reduceLE, c12, c13, c14]) ?_
                    obtain rfl : _ = v3 := hr
                    exact w_k (To.cut hwf (Nat.le_refl _) rfl (by simp (disch := (apply Apart.mk; decide)) only [go_sem, Nat.reduceAdd, Nat.reduceLT, Nat.reduceMul, Nat.reduceLeDiff, Nat.lt_irrefl, Int.reduceToNat, Int.reduceLT, Int.reduceLE, c3, c4, c8, c12, c13, c14]))
            refine w_condH (by simp (disch := (apply Apart.mk; decide)) only [go_sem, Nat.reduceAdd, Nat.reduceLT, Nat.reduceMul, Nat.reduceLeDiff, Nat.lt_irrefl, Int.reduceToNat, Int.reduceLT, Int.reduceLE, c3, c4, c8]) hr (fun c19 hr => ?_) (fun c19 hr => ?_)
            · refine w_seq ?_
              refine w_region rfl (by simp (disch := (apply Apart.mk; decide)) only [go_sem, Nat.reduceAdd, Nat.reduceLT, Nat.reduceMul, Nat.reduceLeDiff, Nat.lt_irrefl, Int.reduceToNat, Int.reduceLT, Int.reduceLE, c3, c4, c8, c19]; rfl) ?_
              refine (w_n ?_)
              refine w_ret ?_
              obtain rfl := hD _ hr
              exact (w_br (w_tr (w_tr (w_br (w_br (w_tr (w_tr (w_tr (w_br (w_tr (w_tr (w_endR (To.cut (os' := []) (sl := [(2, .cv (.val (.bool false)))]) hwf (Nat.le_refl _) rfl (by simp (disch := (apply Apart.mk; decide)) only [go_sem, Nat.reduceAdd, Nat.reduceLT, Nat.reduceMul, Nat.reduceLeDiff, Nat.lt_irrefl, Int.reduceToNat, Int.reduceLT, Int.reduceLE, c3, c4, c8, c19])) (by simp (disch := (apply Apart.mk; decide)) only [go_sem, Nat.reduceAdd, Nat.reduceLT, Nat.reduceMul, Nat.reduceLeDiff, Nat.lt_irrefl, Int.reduceToNat, Int.reduceLT, Int.reduceLE, Try.results27, results_data CT_gives27, resCell, resVal.eq_2, loadOp_sv, c3, c4, c8, c19]) ⟨rfl, on_nil hwf⟩))))))))))))
            · refine w_skip ?_
              refine (w_bn (w_n ?_))
              refine w_region rfl (by simp (disch := (apply Apart.mk; decide)) only [go_sem, Nat.reduceAdd, Nat.reduceLT, Nat.reduceMul, Nat.reduceLeDiff, Nat.lt_irrefl, Int.reduceToNat, Int.reduceLT, Int.reduceLE, c3, c4, c8, c19]; rfl) ?_
              exact (w_k ⟨(IntKind.i64.wrap (v2 + (1 : Int))), hr, (To.cut hwf (Nat.le_refl _) rfl (by simp (disch := (apply Apart.mk; decide)) only [go_sem, Nat.reduceAdd, Nat.reduceLT, Nat.reduceMul, Nat.reduceLeDiff, Nat.lt_irrefl, Int.reduceToNat, Int.reduceLT, Int.reduceLE, c3, c4, c8, c19]))⟩)
          · refine w_exit ?_
            exact (w_te (w_te (w_bx (w_bn (w_k ⟨(), (hr).map, (To.cut hwf (Nat.le_refl _) rfl (by simp (disch := (apply Apart.mk; decide)) only [go_sem, Nat.reduceAdd, Nat.reduceLT, Nat.reduceMul, Nat.reduceLeDiff, Nat.lt_irrefl, Int.reduceToNat, Int.reduceLT, Int.reduceLE, c3, c4, c8]))⟩)))))
      · refine w_exit ?_
        exact (w_te (w_te (w_bx (w_k ⟨(), (hr).map, (To.cut hwf (Nat.le_refl _) rfl (by simp (disch := (apply Apart.mk; decide)) only [go_sem, Nat.reduceAdd, Nat.reduceLT, Nat.reduceMul, Nat.reduceLeDiff, Nat.lt_irrefl, Int.reduceToNat, Int.reduceLT, Int.reduceLE, c3, c4]))⟩))))
end Go.Val

/- part GW26 -/
/- scansion/dawg.Count runs as it is read off. -/
namespace Go.Val
set_option linter.unusedVariables false
set_option linter.unusedSimpArgs false
set_option maxRecDepth 20000
open Go.Proofs
theorem dawg_Count_runs (g : TGraph) {h : Heap} {a : (List Int × Int)} (e : dawg_Count g = some a) :
    Runs CT 26 [.cv (.val (.agg [.sl (List.map eB g.Final), .sl (List.map (eL eEdge) g.Edges)]))] h fun o h' => o = [.cv (.val (.sl (List.map eI a.1))), .cv (.val (.int .i64 a.2))] ∧ h' = h := by
  refine Runs.start Try.f26 _ Try.func26 rfl (by rw [Try.ntmps26]; simp) (by rfl) (by rfl) (fun hwf hu => ?_)
  obtain ⟨D, hD, hr⟩ : ∃ D : (List Int × Int) → Prop, (∀ z, D z → z = a) ∧ Holds (dawg_Count g) D := ⟨fun z => z = a, fun _ h => h, Holds.intro e rfl⟩
  dsimp only [dawg_Count] at hr
  change wpCode _ _ _ _ _ ⟨[(0, .cv (.val (.agg [.sl (List.map eB g.Final), .sl (List.map (eL eEdge) g.Edges)])))], h.on []⟩
  refine w_seq ?_
  refine w_region rfl (by simp (disch := (apply Apart.mk; decide)) only [go_sem, Nat.reduceAdd, Nat.reduceLT, Nat.reduceMul, Nat.reduceLeDiff, Nat.lt_irrefl, Int.reduceToNat, Int.reduceLT, Int.reduceLE]; rfl) ?_
  refine (w_n ?_)
  refine w_seq ?_
  refine w_seq ?_
  refine w_ops rfl ?_
  refine w_upto 1 rfl (by simp (disch := (apply Apart.mk; decide)) only [go_sem, Nat.reduceAdd, Nat.reduceLT, Nat.reduceMul, Nat.reduceLeDiff, Nat.lt_irrefl, Int.reduceToNat, Int.reduceLT, Int.reduceLE]; rfl) ?_
  obtain ⟨r, e1, hr⟩ := hr.bind
  refine w_call' (out := ?o_e1) (hp := ?p_e1) rfl (by simp (disch := (apply Apart.mk; decide)) only [go_sem, Nat.reduceAdd, Nat.reduceLT, Nat.reduceMul, Nat.reduceLeDiff, Nat.lt_irrefl, Int.reduceToNat, Int.reduceLT, Int.reduceLE, Option.getD_some]; rfl) (by simp (disch := (apply Apart.mk; decide)) only [go_sem, Nat.reduceAdd, Nat.reduceLT, Nat.reduceMul, Nat.reduceLeDiff, Nat.lt_irrefl, Int.reduceToNat, Int.reduceLT, Int.reduceLE, Option.getD_some]; rfl) (by simp (disch := (apply Apart.mk; decide)) only [go_sem, Nat.reduceAdd, Nat.reduceLT, Nat.reduceMul, Nat.reduceLeDiff, Nat.lt_irrefl, Int.reduceToNat, Int.reduceLT, Int.reduceLE, Option.getD_some]; rfl) ?c_e1 ?d_e1 ?_
  case c_e1 => exact dawg_Right_runs g e1
  case d_e1 => rfl
  refine w_ops_end (by simp (disch := (apply Apart.mk; decide)) only [go_sem, Nat.reduceAdd, Nat.reduceLT, Nat.reduceMul, Nat.reduceLeDiff, Nat.lt_irrefl, Int.reduceToNat, Int.reduceLT, Int.reduceLE]; rfl) ?_
  refine (w_n ?_)
  refine w_condH (by simp (disch := (apply Apart.mk; decide)) only [go_sem, Nat.reduceAdd, Nat.reduceLT, Nat.reduceMul, Nat.reduceLeDiff, Nat.lt_irrefl, Int.reduceToNat, Int.reduceLT, Int.reduceLE]) hr (fun c2 hr => ?_) (fun c2 hr => ?_)
  · refine w_seq ?_
    refine w_region rfl (by simp (disch := (apply Apart.mk; decide)) only [go_sem, Nat.reduceAdd, Nat.reduceLT, Nat.reduceMul, Nat.reduceLeDiff, Nat.lt_irrefl, Int.reduceToNat, Int.reduceLT, Int.reduceLE, c2]; rfl) ?_
    refine (w_n ?_)
    refine w_ret ?_
    obtain rfl := hD _ hr
    exact (w_tr (w_endR (To.cut (os' := []) (sl := [(2, .cv (.val (.sl (List.map eI ([] : List Int))))), (3, .cv (.val (.int .i64 (1 : Int))))]) hwf (Nat.le_refl _) rfl (by simp (disch := (apply Apart.mk; decide)) only [go_sem, Nat.reduceAdd, Nat.reduceLT, Nat.reduceMul, Nat.reduceLeDiff, Nat.lt_irrefl, Int.reduceToNat, Int.reduceLT, Int.reduceLE, c2])) (by simp (disch := (apply Apart.mk; decide)) only [go_sem, Nat.reduceAdd, Nat.reduceLT, Nat.reduceMul, Nat.reduceLeDiff, Nat.lt_irrefl, Int.reduceToNat, Int.reduceLT, Int.reduceLE, Try.results26, results_data CT_gives26, resCell, resVal.eq_2, loadOp_sv, c2]) ⟨rfl, on_nil hwf⟩))
  · refine w_skip ?_
    refine (w_n ?_)
    refine w_seq ?_
    obtain ⟨n3, n4, hr⟩ := hr.mk
    refine w_region rfl (by simp (disch := (apply Apart.mk; decide)) only [go_sem, Nat.reduceAdd, Nat.reduceLT, Nat.reduceMul, Nat.reduceLeDiff, Nat.lt_irrefl, Int.reduceToNat, Int.reduceLT, Int.reduceLE, n3, n4, c2]; rfl) ?_
    refine (w_n ?_)
    refine w_seq ?_
    refine w_seq ?_
    refine w_region rfl (by simp (disch := (apply Apart.mk; decide)) only [go_sem, Nat.reduceAdd, Nat.reduceLT, Nat.reduceMul, Nat.reduceLeDiff, Nat.lt_irrefl, Int.reduceToNat, Int.reduceLT, Int.reduceLE, c2]; rfl) ?_
    refine (w_n ?_)
    refine w_K (D := D) (fun x : List Int => ⟨[(4, .cv (.row 3 (List.map eI x)))], h.on []⟩) (fun x : List Int => dawg_Count.k1 x) (fun x s' hr ht => ?_) ?_
    · obtain ⟨out, rfl⟩ : ∃ z, z = x := ⟨x, rfl⟩
      dsimp only [dawg_Count.k1] at hr ht
      refine (w_nT ht ?_)
      refine w_seq ?_
      refine w_region rfl (by simp (disch := (apply Apart.mk; decide)) only [go_sem, Nat.reduceAdd, Nat.reduceLT, Nat.reduceMul, Nat.reduceLeDiff, Nat.lt_irrefl, Int.reduceToNat, Int.reduceLT, Int.reduceLE, c2]; rfl) ?_
      refine (w_n ?_)
      refine w_ret ?_
      obtain rfl := hD _ hr
      exact (w_endR (.fix _ _ (.slot 2) 3 _ (by simp (disch := (apply Apart.mk; decide)) only [go_sem, Nat.reduceAdd, Nat.reduceLT, Nat.reduceMul, Nat.reduceLeDiff, Nat.lt_irrefl, Int.reduceToNat, Int.reduceLT, Int.reduceLE, c2]; rfl) (To.cut (os' := []) (sl := [(2, .cv (.val (.sl (List.map eI out)))), (3, .cv (.val (.int .i64 (0 : Int))))]) hwf (Nat.le_refl _) rfl (by simp (disch := (apply Apart.mk; decide)) only [go_sem, Nat.reduceAdd, Nat.reduceLT, Nat.reduceMul, Nat.reduceLeDiff, Nat.lt_irrefl, Int.reduceToNat, Int.reduceLT, Int.reduceLE, c2]))) (by simp (disch := (apply Apart.mk; decide)) only [go_sem, Nat.reduceAdd, Nat.reduceLT, Nat.reduceMul, Nat.reduceLeDiff, Nat.lt_irrefl, Int.reduceToNat, Int.reduceLT, Int.reduceLE, Try.results26, results_data CT_gives26, resCell, resVal.eq_2, loadOp_sv, c2]) ⟨rfl, on_nil hwf⟩)
    · refine w_block ?_
      refine w_Loop (fun x : (List Int × Int) => ⟨[(1, .cv (.val (.ptr (some (h.n + 0, 0))))), (4, .cv (.row 3 (List.map eI x.1))), (17, .cv (.val (.sl (List.map (eL eEdge) g.Edges)))), (18, .cv (.val (.int .i64 (g.Edges.length : Int)))), (19, .cv (.val (.int .i64 x.2)))], h.on [some (.cells [.val (.sl (List.map eB g.Final)), .val (.sl (List.map (eL eEdge) g.Edges))])]⟩) hr (To.cut hwf (Nat.le_refl _) rfl (by simp (disch := (apply Apart.mk; decide)) only [go_sem, Nat.reduceAdd, Nat.reduceLT, Nat.reduceMul, Nat.reduceLeDiff, Nat.lt_irrefl, Int.reduceToNat, Int.reduceLT, Int.reduceLE, c2])) (fun W1 x hr => ?_)
      obtain ⟨out1, v⟩ := x
      dsimp only [dawg_Count.b1] at hr
      refine w_seq ?_
      refine w_region rfl (by simp (disch := (apply Apart.mk; decide)) only [go_sem, Nat.reduceAdd, Nat.reduceLT, Nat.reduceMul, Nat.reduceLeDiff, Nat.lt_irrefl, Int.reduceToNat, Int.reduceLT, Int.reduceLE, c2]; rfl) ?_
      refine (w_n ?_)
      refine w_seq ?_
      refine w_condH (by simp (disch := (apply Apart.mk; decide)) only [go_sem, Nat.reduceAdd, Nat.reduceLT, Nat.reduceMul, Nat.reduceLeDiff, Nat.lt_irrefl, Int.reduceToNat, Int.reduceLT, Int.reduceLE, c2]) hr (fun c5 hr => ?_) (fun c5 hr => ?_)
      · refine w_skip ?_
        refine (w_n ?_)
        refine w_seq ?_
        refine w_K (D := (Aft W1 D)) (fun x : List Int => ⟨[(1, .cv (.val (.ptr (some (h.n + 0, 0))))), (4, .cv (.row 3 (List.map eI x))), (17, .cv (.val (.sl (List.map (eL eEdge) g.Edges)))), (18, .cv (.val (.int .i64 (g.Edges.length : Int)))), (19, .cv (.val (.int .i64 v)))], h.on [some (.cells [.val (.sl (List.map eB g.Final)), .val (.sl (List.map (eL eEdge) g.Edges))])]⟩) (fun x : List Int => dawg_Count.k2 v x) (fun x s' hr ht => ?_) ?_
        · obtain ⟨out2, rfl⟩ : ∃ z, z = x := ⟨x, rfl⟩
          dsimp only [dawg_Count.k2] at hr ht
          refine (w_nT ht ?_)
          refine w_region rfl (by simp (disch := (apply Apart.mk; decide)) only [go_sem, Nat.reduceAdd, Nat.reduceLT, Nat.reduceMul, Nat.reduceLeDiff, Nat.lt_irrefl, Int.reduceToNat, Int.reduceLT, Int.reduceLE, c2, c5]; rfl) ?_
          exact (w_k ⟨(out2, (IntKind.i64.wrap (v + (1 : Int)))), hr, (To.cut hwf (Nat.le_refl _) rfl (by simp (disch := (apply Apart.mk; decide)) only [go_sem, Nat.reduceAdd, Nat.reduceLT, Nat.reduceMul, Nat.reduceLeDiff, Nat.lt_irrefl, Int.reduceToNat, Int.reduceLT, Int.reduceLE, c2, c5]))⟩)
        · refine w_block ?_
          refine w_seq ?_
          obtain ⟨xs, n6, e7, g8, hr⟩ := hr.idx
          refine w_region rfl (by simp (disch := (apply Apart.mk; decide)) only [go_sem, Nat.reduceAdd, Nat.reduceLT, Nat.reduceMul, Nat.reduceLeDiff, Nat.lt_irrefl, Int.reduceToNat, Int.reduceLT, Int.reduceLE, n6, e7, g8, c2, c5]; rfl) ?_
          refine (w_n ?_)
          refine w_seq ?_
          refine w_seq ?_
          obtain ⟨b, n9, e10, g11, hr⟩ := hr.idx
          refine w_region rfl (by simp (disch := (apply Apart.mk; decide)) only [go_sem, Nat.reduceAdd, Nat.reduceLT, Nat.reduceMul, Nat.reduceLeDiff, Nat.lt_irrefl, Int.reduceToNat, Int.reduceLT, Int.reduceLE, n9, e10, g11, c2, c5]; rfl) ?_
          refine (w_n ?_)
          refine w_K (D := (Aft W1 D)) (fun x : List Int => ⟨[(1, .cv (.val (.ptr (some (h.n + 0, 0))))), (4, .cv (.row 3 (List.map eI x))), (5, .cv (.val (.int .i64 v))), (6, .cv (.val (.sl (List.map eEdge xs)))), (17, .cv (.val (.sl (List.map (eL eEdge) g.Edges)))), (18, .cv (.val (.int .i64 (g.Edges.length : Int)))), (19, .cv (.val (.int .i64 v)))], h.on [some (.cells [.val (.sl (List.map eB g.Final)), .val (.sl (List.map (eL eEdge) g.Edges))])]⟩) (fun x : List Int => dawg_Count.k3 v xs x) (fun x s' hr ht => ?_) ?_
          · obtain ⟨out3, rfl⟩ : ∃ z, z = x := ⟨x, rfl⟩
            dsimp only [dawg_Count.k3] at hr ht
            refine (w_nT ht ?_)
            refine w_seq ?_
            refine w_region rfl (by simp (disch := (apply Apart.mk; decide)) only [go_sem, Nat.reduceAdd, Nat.reduceLT, Nat.reduceMul, Nat.reduceLeDiff, Nat.lt_irrefl, Int.reduceToNat, Int.reduceLT, Int.reduceLE, c2, c5]; rfl) ?_
            refine (w_n ?_)
            refine w_block ?_
            refine w_Loop (fun x : (List Int × Int) => ⟨[(1, .cv (.val (.ptr (some (h.n + 0, 0))))), (4, .cv (.row 3 (List.map eI x.1))), (5, .cv (.val (.int .i64 v))), (17, .cv (.val (.sl (List.map (eL eEdge) g.Edges)))), (18, .cv (.val (.int .i64 (g.Edges.length : Int)))), (19, .cv (.val (.int .i64 v))), (32, .cv (.val (.sl (List.map eEdge xs)))), (33, .cv (.val (.int .i64 (xs.length : Int)))), (34, .cv (.val (.int .i64 x.2)))], h.on [some (.cells [.val (.sl (List.map eB g.Final)), .val (.sl (List.map (eL eEdge) g.Edges))])]⟩) hr (To.cut hwf (Nat.le_refl _) rfl (by simp (disch := (apply Apart.mk; decide)) only [go_sem, Nat.reduceAdd, Nat.reduceLT, Nat.reduceMul, Nat.reduceLeDiff, Nat.lt_irrefl, Int.reduceToNat, Int.reduceLT, Int.reduceLE, c2, c5])) (fun W2 x hr => ?_)
            obtain ⟨out4, v1⟩ := x
            dsimp only [dawg_Count.b2] at hr
            refine w_seq ?_
            refine w_region rfl (by simp (disch := (apply Apart.mk; decide)) only [go_sem, Nat.reduceAdd, Nat.reduceLT, Nat.reduceMul, Nat.reduceLeDiff, Nat.lt_irrefl, Int.reduceToNat, Int.reduceLT, Int.reduceLE, c2, c5]; rfl) ?_
            refine (w_n ?_)
            refine w_seq ?_
            refine w_condH (by simp (disch := (apply Apart.mk; decide)) only [go_sem, Nat.reduceAdd, Nat.reduceLT, Nat.reduceMul, Nat.reduceLeDiff, Nat.lt_irrefl, Int.reduceToNat, Int.reduceLT, Int.reduceLE, c2, c5]) hr (fun c12 hr => ?_) (fun c12 hr => ?_)
            · refine w_skip ?_
              refine (w_n ?_)
              refine w_seq ?_
              refine w_block ?_
              refine w_seq ?_
              obtain ⟨x, n13, e14, g15, hr⟩ := hr.idx
              refine w_region rfl (by simp (disch := (apply Apart.mk; decide)) only [go_sem, Nat.reduceAdd, Nat.reduceLT, Nat.reduceMul, Nat.reduceLeDiff, Nat.lt_irrefl, Int.reduceToNat, Int.reduceLT, Int.reduceLE, n13, e14, g15, c2, c5, c12]; rfl) ?_
              refine (w_n ?_)
              refine w_drawn [0, 1, 2, 3, 4, 5, 6, 7, 8, 9, 10, 11, 12, 13, 14] (by rfl) ?_
              obtain ⟨n, n16, e17, g18, hr⟩ := hr.idx
              obtain ⟨n1, n19, e20, g21, hr⟩ := hr.idx
              refine p_run (l := [0, 1, 2, 3, 4, 5, 6, 7, 8, 9, 10, 11, 12, 13]) (pend' := [13, 12, 11, 10, 9, 8, 7, 6, 5, 4, 3, 2, 1, 0]) (by simp (disch := (apply Apart.mk; decide)) only [go_sem, Nat.reduceAdd, Nat.reduceLT, Nat.reduceMul, Nat.reduceLeDiff, Nat.lt_irrefl, Int.reduceToNat, Int.reduceLT, Int.reduceLE, n16, e17, g18, n19, e20, g21]; rfl) rfl ?_
              refine p_op (pend' := []) rfl (by simp (disch := (apply Apart.mk; decide)) only [go_sem, Nat.reduceAdd, Nat.reduceLT, Nat.reduceMul, Nat.reduceLeDiff, Nat.lt_irrefl, Int.reduceToNat, Int.reduceLT, Int.reduceLE, n16, e17, g18, n19, e20, g21]) (by simp (disch := (apply Apart.mk; decide)) only [go_sem, Nat.reduceAdd, Nat.reduceLT, Nat.reduceMul, Nat.reduceLeDiff, Nat.lt_irrefl, Int.reduceToNat, Int.reduceLT, Int.reduceLE, n16, e17, g18, n19, e20, g21]; rfl) (by rfl) ?_
              refine p_end (by simp (disch := (apply Apart.mk; decide)) only [go_sem, Nat.reduceAdd, Nat.reduceLT, Nat.reduceMul, Nat.reduceLeDiff, Nat.lt_irrefl, Int.reduceToNat, Int.reduceLT, Int.reduceLE, n16, e17, g18, n19, e20, g21, n16, e17, g18]) ?_
              refine (w_bn (w_n ?_))
              refine w_region rfl (by simp (disch := (apply Apart.mk; decide)) only [go_sem, Nat.reduceAdd, Nat.reduceLT, Nat.reduceMul, Nat.reduceLeDiff, Nat.lt_irrefl, Int.reduceToNat, Int.reduceLT, Int.reduceLE, c2, c5, c12]; rfl) ?_
              exact (w_k ⟨((List.set out4 (Int.toNat v) (mn (IntKind.i64.wrap (n + n1)) (1099511627776 : Int))), (IntKind.i64.wrap (v1 + (1 : Int)))), hr, (To.cut hwf (Nat.le_refl _) rfl (by simp (disch := (apply Apart.mk; decide)) only [go_sem, Nat.reduceAdd, Nat.reduceLT, Nat.reduceMul, Nat.reduceLeDiff, Nat.lt_irrefl, Int.reduceToNat, Int.reduceLT, Int.reduceLE, c2, c5, c12]))⟩)
            · refine w_exit ?_
              exact (w_te (w_te (w_bx (w_bn (w_k ⟨out4, (hr).map, (To.cut hwf (Nat.le_refl _) rfl (by simp (disch := (apply Apart.mk; decide)) only [go_sem, Nat.reduceAdd, Nat.reduceLT, Nat.reduceMul, Nat.reduceLeDiff, Nat.lt_irrefl, Int.reduceToNat, Int.reduceLT, Int.reduceLE, c2, c5, c12]))⟩)))))
          · refine w_condH (by simp (disch := (apply Apart.mk; decide)) only [go_sem, Nat.reduceAdd, Nat.reduceLT, Nat.reduceMul, Nat.reduceLeDiff, Nat.lt_irrefl, Int.reduceToNat, Int.reduceLT, Int.reduceLE, c2, c5]) hr (fun c22 hr => ?_) (fun c22 hr => ?_)
            · obtain ⟨n2, n23, e24, g25, hr⟩ := hr.idx
              refine w_region rfl (by simp (disch := (apply Apart.mk; decide)) only [go_sem, Nat.reduceAdd, Nat.reduceLT, Nat.reduceMul, Nat.reduceLeDiff, Nat.lt_irrefl, Int.reduceToNat, Int.reduceLT, Int.reduceLE, n23, e24, g25, c2, c5, c22]; rfl) ?_
              exact (w_k ⟨(List.set out1 (Int.toNat v) (1 : Int)), hr, (To.cut hwf (Nat.le_refl _) rfl (by simp (disch := (apply Apart.mk; decide)) only [go_sem, Nat.reduceAdd, Nat.reduceLT, Nat.reduceMul, Nat.reduceLeDiff, Nat.lt_irrefl, Int.reduceToNat, Int.reduceLT, Int.reduceLE, c2, c5, c22]))⟩)
            · refine w_skip ?_
              exact (w_k ⟨out1, hr, (To.cut hwf (Nat.le_refl _) rfl (by simp (disch := (apply Apart.mk; decide)) only [go_sem, Nat.reduceAdd, Nat.reduceLT, Nat.reduceMul, Nat.reduceLeDiff, Nat.lt_irrefl, Int.reduceToNat, Int.reduceLT, Int.reduceLE, c2, c5, c22]))⟩)
      · refine w_exit ?_
        exact (w_te (w_te (w_bx (w_k ⟨out1, (hr).map, (To.cut hwf (Nat.le_refl _) rfl (by simp (disch := (apply Apart.mk; decide)) only [go_sem, Nat.reduceAdd, Nat.reduceLT, Nat.reduceMul, Nat.reduceLeDiff, Nat.lt_irrefl, Int.reduceToNat, Int.reduceLT, Int.reduceLE, c2, c5]))⟩))))
end Go.Val

/- part GW19 -/
/- scansion/scansionref17.Rising runs as it is read off. -/
namespace Go.Val
set_option linter.unusedVariables false
set_option linter.unusedSimpArgs false
set_option maxRecDepth 20000
open Go.Proofs
theorem scansionref17_Rising_runs (l : List Str) {h : Heap} {a : List Str} (e : scansionref17_Rising l = some a) :
    Runs CT 19 [.cv (.val (.sl (List.map eS l)))] h fun o h' => o = [.cv (.val (.sl (List.map eS a)))] ∧ h' = h := by
  refine Runs.start Try.f19 _ Try.func19 rfl (by rw [Try.ntmps19]; simp) (by rfl) (by rfl) (fun hwf hu => ?_)
  obtain ⟨D, hD, hr⟩ : ∃ D : List Str → Prop, (∀ z, D z → z = a) ∧ Holds (scansionref17_Rising l) D := ⟨fun z => z = a, fun _ h => h, Holds.intro e rfl⟩
  dsimp only [scansionref17_Rising] at hr
  change wpCode _ _ _ _ _ ⟨[(0, .cv (.val (.sl (List.map eS l))))], h.on []⟩
  refine w_seq ?_
  refine w_region rfl (by simp (disch := (apply Apart.mk; decide)) only [go_sem, Nat.reduceAdd, Nat.reduceLT, Nat.reduceMul, Nat.reduceLeDiff, Nat.lt_irrefl, Int.reduceToNat, Int.reduceLT, Int.reduceLE]; rfl) ?_
  refine (w_n ?_)
  refine w_seq ?_
  refine w_region rfl (by simp (disch := (apply Apart.mk; decide)) only [go_sem, Nat.reduceAdd, Nat.reduceLT, Nat.reduceMul, Nat.reduceLeDiff, Nat.lt_irrefl, Int.reduceToNat, Int.reduceLT, Int.reduceLE]; rfl) ?_
  refine (w_n ?_)
  refine w_seq ?_
  refine w_seq ?_
  refine w_region rfl (by simp (disch := (apply Apart.mk; decide)) only [go_sem, Nat.reduceAdd, Nat.reduceLT, Nat.reduceMul, Nat.reduceLeDiff, Nat.lt_irrefl, Int.reduceToNat, Int.reduceLT, Int.reduceLE]; rfl) ?_
  refine (w_n ?_)
  refine w_K (D := D) (fun x : List Str => ⟨[(3, .cv (.row 9 (List.map eS x)))], h.on []⟩) (fun x : List Str => scansionref17_Rising.k1 x) (fun x s' hr ht => ?_) ?_
  · obtain ⟨out, rfl⟩ : ∃ z, z = x := ⟨x, rfl⟩
    dsimp only [scansionref17_Rising.k1] at hr ht
    refine (w_nT ht ?_)
    refine w_seq ?_
    refine w_region rfl (by simp (disch := (apply Apart.mk; decide)) only [go_sem, Nat.reduceAdd, Nat.reduceLT, Nat.reduceMul, Nat.reduceLeDiff, Nat.lt_irrefl, Int.reduceToNat, Int.reduceLT, Int.reduceLE]; rfl) ?_
    refine (w_n ?_)
    refine w_ret ?_
    obtain rfl := hD _ hr
    exact (w_endR (.fix _ _ (.slot 2) 9 _ (by simp (disch := (apply Apart.mk; decide)) only [go_sem, Nat.reduceAdd, Nat.reduceLT, Nat.reduceMul, Nat.reduceLeDiff, Nat.lt_irrefl, Int.reduceToNat, Int.reduceLT, Int.reduceLE]; rfl) (To.cut (os' := []) (sl := [(2, .cv (.val (.sl (List.map eS out))))]) hwf (Nat.le_refl _) rfl (by simp (disch := (apply Apart.mk; decide)) only [go_sem, Nat.reduceAdd, Nat.reduceLT, Nat.reduceMul, Nat.reduceLeDiff, Nat.lt_irrefl, Int.reduceToNat, Int.reduceLT, Int.reduceLE]))) (by simp (disch := (apply Apart.mk; decide)) only [go_sem, Nat.reduceAdd, Nat.reduceLT, Nat.reduceMul, Nat.reduceLeDiff, Nat.lt_irrefl, Int.reduceToNat, Int.reduceLT, Int.reduceLE, Try.results19, results_data CT_gives19, resCell, resVal.eq_2, loadOp_sv]) ⟨rfl, on_nil hwf⟩)
  · refine w_block ?_
    refine w_Loop (fun x : (List Str × Int) => ⟨[(0, .cv (.val (.sl (List.map eS l)))), (3, .cv (.row 9 (List.map eS x.1))), (4, .cv (.val (.int .i64 x.2)))], h.on []⟩) hr (To.cut hwf (Nat.le_refl _) rfl (by simp (disch := (apply Apart.mk; decide)) only [go_sem, Nat.reduceAdd, Nat.reduceLT, Nat.reduceMul, Nat.reduceLeDiff, Nat.lt_irrefl, Int.reduceToNat, Int.reduceLT, Int.reduceLE])) (fun W1 x hr => ?_)
    obtain ⟨out1, i⟩ := x
    dsimp only [scansionref17_Rising.b1] at hr
    refine w_seq ?_
    refine w_seq ?_
    refine w_region rfl (by simp (disch := (apply Apart.mk; decide)) only [go_sem, Nat.reduceAdd, Nat.reduceLT, Nat.reduceMul, Nat.reduceLeDiff, Nat.lt_irrefl, Int.reduceToNat, Int.reduceLT, Int.reduceLE]; rfl) ?_
    refine (w_n ?_)
    refine w_condH (by simp (disch := (apply Apart.mk; decide)) only [go_sem, Nat.reduceAdd, Nat.reduceLT, Nat.reduceMul, Nat.reduceLeDiff, Nat.lt_irrefl, Int.reduceToNat, Int.reduceLT, Int.reduceLE]) hr (fun c1 hr => ?_) (fun c1 hr => ?_)
    · refine w_skip ?_
      refine (w_n ?_)
      refine w_seq ?_
      refine w_K (D := (Aft W1 D)) (fun x : List Str => ⟨[(0, .cv (.val (.sl (List.map eS l)))), (3, .cv (.row 9 (List.map eS x))), (4, .cv (.val (.int .i64 i)))], h.on []⟩) (fun x : List Str => scansionref17_Rising.k2 i x) (fun x s' hr ht => ?_) ?_
      · obtain ⟨out2, rfl⟩ : ∃ z, z = x := ⟨x, rfl⟩
        dsimp only [scansionref17_Rising.k2] at hr ht
        refine (w_nT ht ?_)
        refine w_region rfl (by simp (disch := (apply Apart.mk; decide)) only [go_sem, Nat.reduceAdd, Nat.reduceLT, Nat.reduceMul, Nat.reduceLeDiff, Nat.lt_irrefl, Int.reduceToNat, Int.reduceLT, Int.reduceLE, c1]; rfl) ?_
        exact (w_k ⟨(out2, (IntKind.i64.wrap (i + (1 : Int)))), hr, (To.cut hwf (Nat.le_refl _) rfl (by simp (disch := (apply Apart.mk; decide)) only [go_sem, Nat.reduceAdd, Nat.reduceLT, Nat.reduceMul, Nat.reduceLeDiff, Nat.lt_irrefl, Int.reduceToNat, Int.reduceLT, Int.reduceLE, c1]))⟩)
      · refine w_block ?_
        refine w_seq ?_
        obtain ⟨v, v6, hr⟩ := hr.bind
        refine w_joinR (sj := ⟨[(0, .cv (.val (.sl (List.map eS l)))), (3, .cv (.row 9 (List.map eS out1))), (4, .cv (.val (.int .i64 i))), (26, .cv (.val (.bool v)))], h.on []⟩) (w_ops rfl ?_) ?_
        · have hr := Holds.intro (D := fun z => z = v) v6 rfl
          obtain ⟨s, n2, e3, g4, hr⟩ := hr.idx
          refine w_upto 7 rfl (by simp (disch := (apply Apart.mk; decide)) only [go_sem, Nat.reduceAdd, Nat.reduceLT, Nat.reduceMul, Nat.reduceLeDiff, Nat.lt_irrefl, Int.reduceToNat, Int.reduceLT, Int.reduceLE, n2, e3, g4]; rfl) ?_
          rcases hr.ite with ⟨c5, hr⟩ | ⟨c5, hr⟩
          · refine w_ops_end (by simp (disch := (apply Apart.mk; decide)) only [go_sem, Nat.reduceAdd, Nat.reduceLT, Nat.reduceMul, Nat.reduceLeDiff, Nat.lt_irrefl, Int.reduceToNat, Int.reduceLT, Int.reduceLE, n2, e3, g4, c5]; rfl) ?_
            obtain rfl : _ = v := hr
            exact w_k (To.cut hwf (Nat.le_refl _) rfl (by simp (disch := (apply Apart.mk; decide)) only [go_sem, Nat.reduceAdd, Nat.reduceLT, Nat.reduceMul, Nat.reduceLeDiff, Nat.lt_irrefl, Int.reduceToNat, Int.reduceLT, Int.reduceLE, c1, c5]))
          · refine w_ops_end (by simp (disch := (apply Apart.mk; decide)) only [go_sem, Nat.reduceAdd, Nat.reduceLT, Nat.reduceMul, Nat.reduceLeDiff, Nat.lt_irrefl, Int.reduceToNat, Int.reduceLT, Int.reduceLE, n2, e3, g4, c5]; rfl) ?_
            obtain rfl : _ = v := hr
            exact w_k (To.cut hwf (Nat.le_refl _) rfl (by simp (disch := (apply Apart.mk; decide)) only [go_sem, Nat.reduceAdd, Nat.reduceLT, Nat.reduceMul, Nat.reduceLeDiff, Nat.lt_irrefl, Int.reduceToNat, Int.reduceLT, Int.reduceLE, c1, c5]))
        refine w_condH (by simp (disch := (apply Apart.mk; decide)) only [go_sem, Nat.reduceAdd, Nat.reduceLT, Nat.reduceMul, Nat.reduceLeDiff, Nat.lt_irrefl, Int.reduceToNat, Int.reduceLT, Int.reduceLE, c1]) hr (fun c7 hr => ?_) (fun c7 hr => ?_)
        · refine w_exit ?_
          exact (w_te (w_bx (w_k ⟨out1, hr, (To.cut hwf (Nat.le_refl _) rfl (by simp (disch := (apply Apart.mk; decide)) only [go_sem, Nat.reduceAdd, Nat.reduceLT, Nat.reduceMul, Nat.reduceLeDiff, Nat.lt_irrefl, Int.reduceToNat, Int.reduceLT, Int.reduceLE, c1, c7]))⟩)))
        · refine w_skip ?_
          refine (w_n ?_)
          refine w_seq ?_
          refine w_region rfl (by simp (disch := (apply Apart.mk; decide)) only [go_sem, Nat.reduceAdd, Nat.reduceLT, Nat.reduceMul, Nat.reduceLeDiff, Nat.lt_irrefl, Int.reduceToNat, Int.reduceLT, Int.reduceLE, c1, c7]; rfl) ?_
          refine (w_n ?_)
          refine w_seq ?_
          refine w_K (D := (Aft W1 D)) (fun x : Int => ⟨[(0, .cv (.val (.sl (List.map eS l)))), (3, .cv (.row 9 (List.map eS out1))), (4, .cv (.val (.int .i64 i))), (5, .cv (.val (.int .i64 x)))], h.on []⟩) (fun x : Int => scansionref17_Rising.k3 l out1 i x) (fun x s' hr ht => ?_) ?_
          · obtain ⟨at_, rfl⟩ : ∃ z, z = x := ⟨x, rfl⟩
            dsimp only [scansionref17_Rising.k3] at hr ht
            refine (w_nT ht ?_)
            refine w_seq ?_
            obtain ⟨v1, v15, hr⟩ := hr.bind
            refine w_joinR (sj := ⟨[(0, .cv (.val (.sl (List.map eS l)))), (3, .cv (.row 9 (List.map eS out1))), (4, .cv (.val (.int .i64 i))), (5, .cv (.val (.int .i64 at_))), (58, .cv (.val (.bool v1)))], h.on []⟩) (w_drawn [0, 1, 2, 3, 4, 5, 6, 7, 8, 9, 10, 11, 12, 13, 14] (by rfl) ?_) ?_
            · have hr := Holds.intro (D := fun z => z = v1) v15 rfl
              refine p_run (l := [0, 1, 2, 3, 4]) (pend' := [4, 3, 2, 1, 0]) (by simp (disch := (apply Apart.mk; decide)) only [go_sem, Nat.reduceAdd, Nat.reduceLT, Nat.reduceMul, Nat.reduceLeDiff, Nat.lt_irrefl, Int.reduceToNat, Int.reduceLT, Int.reduceLE]; rfl) rfl ?_
              rcases hr.ite with ⟨c8, hr⟩ | ⟨c8, hr⟩
              · obtain ⟨s1, n9, e10, g11, hr⟩ := hr.idx
                obtain ⟨s2, n12, e13, g14, hr⟩ := hr.idx
                refine p_run (l := [5, 6, 7, 8, 9, 10, 11, 12, 13, 14]) (pend' := [14, 13, 12, 11, 10, 9, 8, 7, 6, 5, 4, 3, 2, 1, 0]) (by simp (disch := (apply Apart.mk; decide)) only [go_sem, Nat.reduceAdd, Nat.reduceLT, Nat.reduceMul, Nat.reduceLeDiff, Nat.lt_irrefl, Int.reduceToNat, Int.reduceLT, Int.reduceLE, c8, n9, e10, g11, n12, e13, g14]; rfl) rfl ?_
                refine p_end (by simp (disch := (apply Apart.mk; decide)) only [go_sem, Nat.reduceAdd, Nat.reduceLT, Nat.reduceMul, Nat.reduceLeDiff, Nat.lt_irrefl, Int.reduceToNat, Int.reduceLT, Int.reduceLE, c8, n9, e10, g11, n12, e13, g14]) ?_
                obtain rfl : _ = v1 := hr
                exact w_k (To.cut hwf (Nat.le_refl _) rfl (by simp (disch := (apply Apart.mk; decide)) only [go_sem, Nat.reduceAdd, Nat.reduceLT, Nat.reduceMul, Nat.reduceLeDiff, Nat.lt_irrefl, Int.reduceToNat, Int.reduceLT, Int.reduceLE, c1, c7, c8]))
              · refine p_run (l := [5, 6, 7, 8, 9, 10, 11, 12, 13, 14]) (pend' := [14, 13, 12, 11, 10, 9, 8, 7, 6, 5, 4, 3, 2, 1, 0]) (by simp (disch := (apply Apart.mk; decide)) only [go_sem, Nat.reduceAdd, Nat.reduceLT, Nat.reduceMul, Nat.reduceLeDiff, Nat.lt_irrefl, Int.reduceToNat, Int.reduceLT, Int.reduceLE, c8]; rfl) rfl ?_
                refine p_end (by simp (disch := (apply Apart.mk; decide)) only [go_sem, Nat.reduceAdd, Nat.reduceLT, Nat.reduceMul, Nat.reduceLeDiff, Nat.lt_irrefl, Int.reduceToNat, Int.reduceLT, Int.reduceLE, c8]) ?_
                obtain rfl : _ = v1 := hr
                exact w_k (To.cut hwf (Nat.le_refl _) rfl (by simp (disch := (apply Apart.mk; decide)) only [go_sem, Nat.reduceAdd, Nat.reduceLT, Nat.reduceMul, Nat.reduceLeDiff, Nat.lt_irrefl, Int.reduceToNat, Int.reduceLT, Int.reduceLE, c1, c7, c8]))
            refine w_condH (by simp (disch := (apply Apart.mk; decide)) only [go_sem, Nat.reduceAdd, Nat.reduceLT, Nat.reduceMul, Nat.reduceLeDiff, Nat.lt_irrefl, Int.reduceToNat, Int.reduceLT, Int.reduceLE, c1, c7]) hr (fun c16 hr => ?_) (fun c16 hr => ?_)
            · refine w_exit ?_
              exact (w_te (w_bx (w_k ⟨out1, hr, (To.cut hwf (Nat.le_refl _) rfl (by simp (disch := (apply Apart.mk; decide)) only [go_sem, Nat.reduceAdd, Nat.reduceLT, Nat.reduceMul, Nat.reduceLeDiff, Nat.lt_irrefl, Int.reduceToNat, Int.reduceLT, Int.reduceLE, c1, c7, c16]))⟩)))
            · refine w_skip ?_
              refine (w_n ?_)
              refine w_seq ?_
              obtain ⟨n17, n18, hr⟩ := hr.cutH
              obtain ⟨n19, hr⟩ := hr.room
              refine w_region rfl (by simp (disch := (apply Apart.mk; decide)) only [go_sem, Nat.reduceAdd, Nat.reduceLT, Nat.reduceMul, Nat.reduceLeDiff, Nat.lt_irrefl, Int.reduceToNat, Int.reduceLT, Int.reduceLE, n17, n18, n19, c1, c7, c16]; rfl) ?_
              refine (w_n ?_)
              refine w_seq ?_
              obtain ⟨s3, n20, e21, g22, hr⟩ := hr.idx
              obtain ⟨n23, hr⟩ := hr.room
              refine w_region rfl (by simp (disch := (apply Apart.mk; decide)) only [go_sem, Nat.reduceAdd, Nat.reduceLT, Nat.reduceMul, Nat.reduceLeDiff, Nat.lt_irrefl, Int.reduceToNat, Int.reduceLT, Int.reduceLE, n20, e21, g22, n23, c1, c7, c16]; rfl) ?_
              refine (w_n ?_)
              obtain ⟨n24, n25, hr⟩ := hr.cutL
              obtain ⟨n26, hr⟩ := hr.room
              refine w_region rfl (by simp (disch := (apply Apart.mk; decide)) only [go_sem, Nat.reduceAdd, Nat.reduceLT, Nat.reduceMul, Nat.reduceLeDiff, Nat.lt_irrefl, Int.reduceToNat, Int.reduceLT, Int.reduceLE, n24, n25, n26, c1, c7, c16]; rfl) ?_
              exact (w_bn (w_k ⟨(((List.take (Int.toNat at_) out1) ++ ([s3])) ++ (List.drop (Int.toNat at_) out1)), hr, (To.cut hwf (Nat.le_refl _) rfl (by simp (disch := (apply Apart.mk; decide)) only [go_sem, Nat.reduceAdd, Nat.reduceLT, Nat.reduceMul, Nat.reduceLeDiff, Nat.lt_irrefl, Int.reduceToNat, Int.reduceLT, Int.reduceLE, c1, c7, c16]))⟩))
          · refine w_block ?_
            refine w_Loop (fun x : Int => ⟨[(0, .cv (.val (.sl (List.map eS l)))), (3, .cv (.row 9 (List.map eS out1))), (4, .cv (.val (.int .i64 i))), (5, .cv (.val (.int .i64 x)))], h.on []⟩) hr (To.cut hwf (Nat.le_refl _) rfl (by simp (disch := (apply Apart.mk; decide)) only [go_sem, Nat.reduceAdd, Nat.reduceLT, Nat.reduceMul, Nat.reduceLeDiff, Nat.lt_irrefl, Int.reduceToNat, Int.reduceLT, Int.reduceLE, c1, c7])) (fun W2 x hr => ?_)
            obtain ⟨at_1, rfl⟩ : ∃ z, z = x := ⟨x, rfl⟩
            dsimp only [scansionref17_Rising.b2] at hr
            refine w_seq ?_
            obtain ⟨v2, v34, hr⟩ := hr.bind
            refine w_joinR (sj := ⟨[(0, .cv (.val (.sl (List.map eS l)))), (3, .cv (.row 9 (List.map eS out1))), (4, .cv (.val (.int .i64 i))), (5, .cv (.val (.int .i64 at_1))), (41, .cv (.val (.bool v2)))], h.on []⟩) (w_drawn [0, 1, 2, 3, 4, 5, 6, 7, 8, 9, 10, 11, 12, 13, 14] (by rfl) ?_) ?_
            · have hr := Holds.intro (D := fun z => z = v2) v34 rfl
              refine p_run (l := [0, 1, 2, 3, 4]) (pend' := [4, 3, 2, 1, 0]) (by simp (disch := (apply Apart.mk; decide)) only [go_sem, Nat.reduceAdd, Nat.reduceLT, Nat.reduceMul, Nat.reduceLeDiff, Nat.lt_irrefl, Int.reduceToNat, Int.reduceLT, Int.reduceLE]; rfl) rfl ?_
              rcases hr.ite with ⟨c27, hr⟩ | ⟨c27, hr⟩
              · obtain ⟨s4, n28, e29, g30, hr⟩ := hr.idx
                obtain ⟨s5, n31, e32, g33, hr⟩ := hr.idx
                refine p_run (l := [5, 6, 7, 8, 9, 10, 11, 12, 13, 14]) (pend' := [14, 13, 12, 11, 10, 9, 8, 7, 6, 5, 4, 3, 2, 1, 0]) (by simp (disch := (apply Apart.mk; decide)) only [go_sem, Nat.reduceAdd, Nat.reduceLT, Nat.reduceMul, Nat.reduceLeDiff, Nat.lt_irrefl, Int.reduceToNat, Int.reduceLT, Int.reduceLE, c27, n28, e29, g30, n31, e32, g33]; rfl) rfl ?_
                refine p_end (by simp (disch := (apply Apart.mk; decide)) only [go_sem, Nat.reduceAdd, Nat.reduceLT, Nat.reduceMul, Nat.reduceLeDiff, Nat.lt_irrefl, Int.reduceToNat, Int.reduceLT, Int.reduceLE, c27, n28, e29, g30, n31, e32, g33]) ?_
                obtain rfl : _ = v2 := hr
                exact w_k (To.cut hwf (Nat.le_refl _) rfl (by simp (disch := (apply Apart.mk; decide)) only [go_sem, Nat.reduceAdd, Nat.reduceLT, Nat.reduceMul, Nat.reduceLeDiff, Nat.lt_irrefl, Int.reduceToNat, Int.reduceLT, Int.reduceLE, c1, c7, c27]))
              · refine p_run (l := [5, 6, 7, 8, 9, 10, 11, 12, 13, 14]) (pend' := [14, 13, 12, 11, 10, 9, 8, 7, 6, 5, 4, 3, 2, 1, 0]) (by simp (disch := (apply Apart.mk; decide)) only [go_sem, Nat.reduceAdd, Nat.reduceLT, Nat.reduceMul, Nat.reduceLeDiff, Nat.lt_irrefl, Int.reduceToNat, Int.reduceLT, Int.reduceLE, c27]; rfl) rfl ?_
                refine p_end (by simp (disch := (apply Apart.mk; decide)) only [go_sem, Nat.reduceAdd, Nat.reduceLT, Nat.reduceMul, Nat.reduceLeDiff, Nat.lt_irrefl, Int.reduceToNat, Int.reduceLT, Int.reduceLE, c27]) ?_
                obtain rfl : _ = v2 := hr
                exact w_k (To.cut hwf (Nat.le_refl _) rfl (by simp (disch := (apply Apart.mk; decide)) only [go_sem, Nat.reduceAdd, Nat.reduceLT, Nat.reduceMul, Nat.reduceLeDiff, Nat.lt_irrefl, Int.reduceToNat, Int.reduceLT, Int.reduceLE, c1, c7, c27]))
            refine w_condH (by simp (disch := (apply Apart.mk; decide)) only [go_sem, Nat.reduceAdd, Nat.reduceLT, Nat.reduceMul, Nat.reduceLeDiff, Nat.lt_irrefl, Int.reduceToNat, Int.reduceLT, Int.reduceLE, c1, c7]) hr (fun c35 hr => ?_) (fun c35 hr => ?_)
            · refine w_skip ?_
              refine (w_n ?_)
              refine w_block ?_
              refine w_region rfl (by simp (disch := (apply Apart.mk; decide)) only [go_sem, Nat.reduceAdd, Nat.reduceLT, Nat.reduceMul, Nat.reduceLeDiff, Nat.lt_irrefl, Int.reduceToNat, Int.reduceLT, Int.reduceLE, c1, c7, c35]; rfl) ?_
              exact (w_bn (w_k ⟨(IntKind.i64.wrap (at_1 + (1 : Int))), hr, (To.cut hwf (Nat.le_refl _) rfl (by simp (disch := (apply Apart.mk; decide)) only [go_sem, Nat.reduceAdd, Nat.reduceLT, Nat.reduceMul, Nat.reduceLeDiff, Nat.lt_irrefl, Int.reduceToNat, Int.reduceLT, Int.reduceLE, c1, c7, c35]))⟩))
            · refine w_exit ?_
              exact (w_te (w_te (w_bx (w_k ⟨at_1, (hr).map, (To.cut hwf (Nat.le_refl _) rfl (by simp (disch := (apply Apart.mk; decide)) only [go_sem, Nat.reduceAdd, Nat.reduceLT, Nat.reduceMul, Nat.reduceLeDiff, Nat.lt_irrefl, Int.reduceToNat, Int.reduceLT, Int.reduceLE, c1, c7, c35]))⟩))))
    · refine w_exit ?_
      exact (w_te (w_te (w_bx (w_k ⟨out1, (hr).map, (To.cut hwf (Nat.le_refl _) rfl (by simp (disch := (apply Apart.mk; decide)) only [go_sem, Nat.reduceAdd, Nat.reduceLT, Nat.reduceMul, Nat.reduceLeDiff, Nat.lt_irrefl, Int.reduceToNat, Int.reduceLT, Int.reduceLE, c1]))⟩))))
end Go.Val

/- part GW76 -/
/- slices.IndexFunc[[]scansion/api.Edge,scansion/api.Edge] runs as it is read off. -/
namespace Go.Val
set_option linter.unusedVariables false
set_option linter.unusedSimpArgs false
set_option maxRecDepth 20000
open Go.Proofs
theorem slices_IndexFunc_api_Edge_api_Edge_runs (s : List TEdge) (f : TEdge → Option Bool) (fid_f : FuncId) (caps_f : List DVal) {h : Heap} (h_f : ∀ os x0 r, f x0 = some r → Runs CT fid_f ([.cv (.val (.agg [.int .u8 (x0.Label.toNat : Int), .int .i64 x0.To]))] ++ sval caps_f) (h.on os) fun o h' => o = [.cv (.val (.bool r))] ∧ h' = h.on os) {a : Int} (e : slices_IndexFunc_api_Edge_api_Edge s f = some a) :
    Runs CT 76 [.cv (.val (.sl (List.map eEdge s))), .cv (.val (.fn fid_f [] caps_f))] h fun o h' => o = [.cv (.val (.int .i64 a))] ∧ h' = h := by
  refine Runs.start Try.f76 _ Try.func76 rfl (by rw [Try.ntmps76]; simp) (by rfl) (by rfl) (fun hwf hu => ?_)
  have u_f : underL h.n caps_f := (hu (.cv (.val (.fn fid_f [] caps_f))) (by simp)).2
  obtain ⟨D, hD, hr⟩ : ∃ D : Int → Prop, (∀ z, D z → z = a) ∧ Holds (slices_IndexFunc_api_Edge_api_Edge s f) D := ⟨fun z => z = a, fun _ h => h, Holds.intro e rfl⟩
  dsimp only [slices_IndexFunc_api_Edge_api_Edge] at hr
  change wpCode _ _ _ _ _ ⟨[(0, .cv (.val (.sl (List.map eEdge s)))), (1, .cv (.val (.fn fid_f [] caps_f)))], h.on []⟩
  refine w_seq ?_
  refine w_region rfl (by simp (disch := (apply Apart.mk; decide)) only [go_sem, Nat.reduceAdd, Nat.reduceLT, Nat.reduceMul, Nat.reduceLeDiff, Nat.lt_irrefl, Int.reduceToNat, Int.reduceLT, Int.reduceLE, under_add u_f]; rfl) ?_
  refine (w_n ?_)
  refine w_seq ?_
  refine w_seq ?_
  refine w_region rfl (by simp (disch := (apply Apart.mk; decide)) only [go_sem, Nat.reduceAdd, Nat.reduceLT, Nat.reduceMul, Nat.reduceLeDiff, Nat.lt_irrefl, Int.reduceToNat, Int.reduceLT, Int.reduceLE, under_add u_f]; rfl) ?_
  refine (w_n ?_)
  refine w_K (D := D) (fun x : Unit => ⟨[], h.on []⟩) (fun x : Unit => slices_IndexFunc_api_Edge_api_Edge.k1) (fun x s' hr ht => ?_) ?_
  · dsimp only [slices_IndexFunc_api_Edge_api_Edge.k1] at hr ht
    refine (w_nT ht ?_)
    refine w_seq ?_
    refine w_region rfl (by simp (disch := (apply Apart.mk; decide)) only [go_sem, Nat.reduceAdd, Nat.reduceLT, Nat.reduceMul, Nat.reduceLeDiff, Nat.lt_irrefl, Int.reduceToNat, Int.reduceLT, Int.reduceLE, under_add u_f]; rfl) ?_
    refine (w_n ?_)
    refine w_ret ?_
    obtain rfl := hD _ hr
    exact (w_endR (To.cut (os' := []) (sl := [(4, .cv (.val (.int .i64 (-1 : Int))))]) hwf (Nat.le_refl _) rfl (by simp (disch := (apply Apart.mk; decide)) only [go_sem, Nat.reduceAdd, Nat.reduceLT, Nat.reduceMul, Nat.reduceLeDiff, Nat.lt_irrefl, Int.reduceToNat, Int.reduceLT, Int.reduceLE, under_add u_f])) (by simp (disch := (apply Apart.mk; decide)) only [go_sem, Nat.reduceAdd, Nat.reduceLT, Nat.reduceMul, Nat.reduceLeDiff, Nat.lt_irrefl, Int.reduceToNat, Int.reduceLT, Int.reduceLE, under_add u_f, Try.results76, results_data CT_gives76, resCell, resVal.eq_2, loadOp_sv]) ⟨rfl, on_nil hwf⟩)
  · refine w_block ?_
    refine w_Loop (fun x : Int => ⟨[(0, .cv (.val (.sl (List.map eEdge s)))), (1, .cv (.val (.fn fid_f [] caps_f))), (7, .cv (.val (.int .i64 (s.length : Int)))), (8, .cv (.val (.int .i64 x)))], h.on []⟩) hr (To.cut hwf (Nat.le_refl _) rfl (by simp (disch := (apply Apart.mk; decide)) only [go_sem, Nat.reduceAdd, Nat.reduceLT, Nat.reduceMul, Nat.reduceLeDiff, Nat.lt_irrefl, Int.reduceToNat, Int.reduceLT, Int.reduceLE, under_add u_f])) (fun W1 x hr => ?_)
    obtain ⟨v, rfl⟩ : ∃ z, z = x := ⟨x, rfl⟩
    dsimp only [slices_IndexFunc_api_Edge_api_Edge.b1] at hr
    refine w_seq ?_
    refine w_region rfl (by simp (disch := (apply Apart.mk; decide)) only [go_sem, Nat.reduceAdd, Nat.reduceLT, Nat.reduceMul, Nat.reduceLeDiff, Nat.lt_irrefl, Int.reduceToNat, Int.reduceLT, Int.reduceLE, under_add u_f]; rfl) ?_
    refine (w_n ?_)
    refine w_seq ?_
    refine w_condH (by simp (disch := (apply Apart.mk; decide)) only [go_sem, Nat.reduceAdd, Nat.reduceLT, Nat.reduceMul, Nat.reduceLeDiff, Nat.lt_irrefl, Int.reduceToNat, Int.reduceLT, Int.reduceLE, under_add u_f]) hr (fun c1 hr => ?_) (fun c1 hr => ?_)
    · refine w_skip ?_
      refine (w_n ?_)
      refine w_seq ?_
      refine w_block ?_
      refine w_seq ?_
      refine w_region rfl (by simp (disch := (apply Apart.mk; decide)) only [go_sem, Nat.reduceAdd, Nat.reduceLT, Nat.reduceMul, Nat.reduceLeDiff, Nat.lt_irrefl, Int.reduceToNat, Int.reduceLT, Int.reduceLE, under_add u_f, c1]; rfl) ?_
      refine (w_n ?_)
      refine w_seq ?_
      refine w_ops rfl ?_
      obtain ⟨x, n2, e3, g4, hr⟩ := hr.idx
      refine w_upto 5 rfl (by simp (disch := (apply Apart.mk; decide)) only [go_sem, Nat.reduceAdd, Nat.reduceLT, Nat.reduceMul, Nat.reduceLeDiff, Nat.lt_irrefl, Int.reduceToNat, Int.reduceLT, Int.reduceLE, under_add u_f, n2, e3, g4]; rfl) ?_
      obtain ⟨r, e5, hr⟩ := hr.bind
      refine w_call' (out := ?o_e5) (hp := ?p_e5) rfl (by simp (disch := (apply Apart.mk; decide)) only [go_sem, Nat.reduceAdd, Nat.reduceLT, Nat.reduceMul, Nat.reduceLeDiff, Nat.lt_irrefl, Int.reduceToNat, Int.reduceLT, Int.reduceLE, under_add u_f, n2, e3, g4]; rfl) (by simp (disch := (apply Apart.mk; decide)) only [go_sem, Nat.reduceAdd, Nat.reduceLT, Nat.reduceMul, Nat.reduceLeDiff, Nat.lt_irrefl, Int.reduceToNat, Int.reduceLT, Int.reduceLE, under_add u_f, n2, e3, g4]; rfl) (by simp (disch := (apply Apart.mk; decide)) only [go_sem, Nat.reduceAdd, Nat.reduceLT, Nat.reduceMul, Nat.reduceLeDiff, Nat.lt_irrefl, Int.reduceToNat, Int.reduceLT, Int.reduceLE, under_add u_f, n2, e3, g4]; rfl) ?c_e5 ?d_e5 ?_
      case c_e5 => exact h_f _ _ _ e5
      case d_e5 => rfl
      refine w_ops_nil ?_
      refine (w_n ?_)
      refine w_condH (by simp (disch := (apply Apart.mk; decide)) only [go_sem, Nat.reduceAdd, Nat.reduceLT, Nat.reduceMul, Nat.reduceLeDiff, Nat.lt_irrefl, Int.reduceToNat, Int.reduceLT, Int.reduceLE, under_add u_f, c1]) hr (fun c6 hr => ?_) (fun c6 hr => ?_)
      · refine w_seq ?_
        refine w_region rfl (by simp (disch := (apply Apart.mk; decide)) only [go_sem, Nat.reduceAdd, Nat.reduceLT, Nat.reduceMul, Nat.reduceLeDiff, Nat.lt_irrefl, Int.reduceToNat, Int.reduceLT, Int.reduceLE, under_add u_f, c1, c6]; rfl) ?_
        refine (w_n ?_)
        refine w_ret ?_
        obtain rfl := hD _ hr
        exact (w_br (w_tr (w_tr (w_br (w_tr (w_tr (w_endR (To.cut (os' := []) (sl := [(4, .cv (.val (.int .i64 v)))]) hwf (Nat.le_refl _) rfl (by simp (disch := (apply Apart.mk; decide)) only [go_sem, Nat.reduceAdd, Nat.reduceLT, Nat.reduceMul, Nat.reduceLeDiff, Nat.lt_irrefl, Int.reduceToNat, Int.reduceLT, Int.reduceLE, under_add u_f, c1, c6])) (by simp (disch := (apply Apart.mk; decide)) only [go_sem, Nat.reduceAdd, Nat.reduceLT, Nat.reduceMul, Nat.reduceLeDiff, Nat.lt_irrefl, Int.reduceToNat, Int.reduceLT, Int.reduceLE, under_add u_f, Try.results76, results_data CT_gives76, resCell, resVal.eq_2, loadOp_sv, c1, c6]) ⟨rfl, on_nil hwf⟩)))))))
      · refine w_skip ?_
        refine (w_bn (w_n ?_))
        refine w_region rfl (by simp (disch := (apply Apart.mk; decide)) only [go_sem, Nat.reduceAdd, Nat.reduceLT, Nat.reduceMul, Nat.reduceLeDiff, Nat.lt_irrefl, Int.reduceToNat, Int.reduceLT, Int.reduceLE, under_add u_f, c1, c6]; rfl) ?_
        exact (w_k ⟨(IntKind.i64.wrap (v + (1 : Int))), hr, (To.cut hwf (Nat.le_refl _) rfl (by simp (disch := (apply Apart.mk; decide)) only [go_sem, Nat.reduceAdd, Nat.reduceLT, Nat.reduceMul, Nat.reduceLeDiff, Nat.lt_irrefl, Int.reduceToNat, Int.reduceLT, Int.reduceLE, under_add u_f, c1, c6]))⟩)
    · refine w_exit ?_
      exact (w_te (w_te (w_bx (w_k ⟨(), (hr).map, (To.cut hwf (Nat.le_refl _) rfl (by simp (disch := (apply Apart.mk; decide)) only [go_sem, Nat.reduceAdd, Nat.reduceLT, Nat.reduceMul, Nat.reduceLeDiff, Nat.lt_irrefl, Int.reduceToNat, Int.reduceLT, Int.reduceLE, under_add u_f, c1]))⟩))))
end Go.Val

/- part GW77 -/
/- scansion/dawg.walk$1 runs as it is read off. -/
namespace Go.Val
set_option linter.unusedVariables false
set_option linter.unusedSimpArgs false
set_option maxRecDepth 20000
open Go.Proofs
theorem dawg_walk_1_runs (x : TEdge) (p1 : Str) (p2 : Int) (l1 : Nat) (l2 : Nat) {h : Heap} (ha1 : h.at_ l1 = some (.cells [.val (.str (bs p1))])) (ha2 : h.at_ l2 = some (.cells [.val (.int .i64 p2)])) (hn1_2 : l1 ≠ l2) {a : Bool} (e : dawg_walk_1 x p1 p2 = some a) :
    Runs CT 77 [.cv (.val (.agg [.int .u8 (x.Label.toNat : Int), .int .i64 x.To])), .cv (.val (.ptr (some (l1, 0)))), .cv (.val (.ptr (some (l2, 0))))] h fun o h' => o = [.cv (.val (.bool a))] ∧ h' = h := by
  refine Runs.start Try.f77 _ Try.func77 rfl (by rw [Try.ntmps77]; simp) (by rfl) (by rfl) (fun hwf hu => ?_)
  have hl1 := (hwf _ _ ha1).1
  have hl2 := (hwf _ _ ha2).1
  obtain ⟨D, hD, hr⟩ : ∃ D : Bool → Prop, (∀ z, D z → z = a) ∧ Holds (dawg_walk_1 x p1 p2) D := ⟨fun z => z = a, fun _ h => h, Holds.intro e rfl⟩
  dsimp only [dawg_walk_1] at hr
  change wpCode _ _ _ _ _ ⟨[(0, .cv (.val (.agg [.int .u8 (x.Label.toNat : Int), .int .i64 x.To]))), (1, .cv (.val (.ptr (some (l1, 0))))), (2, .cv (.val (.ptr (some (l2, 0)))))], h.on []⟩
  refine w_seq ?_
  refine w_region rfl (by simp (disch := (apply Apart.mk; decide)) only [go_sem, Nat.reduceAdd, Nat.reduceLT, Nat.reduceMul, Nat.reduceLeDiff, Nat.lt_irrefl, Int.reduceToNat, Int.reduceLT, Int.reduceLE, ha1, on_atB hl1, lt_add hl1, lt_at hl1, ha2, on_atB hl2, lt_add hl2, lt_at hl2]; rfl) ?_
  refine (w_n ?_)
  refine w_seq ?_
  refine w_drawn [0, 1, 2, 3, 4, 5, 6] (by rfl) ?_
  obtain ⟨c, n1, e2, g3, hr⟩ := hr.idx
  refine p_run (l := [0, 1, 2, 3, 4, 5]) (pend' := [5, 4, 3, 2, 1, 0]) (by simp (disch := (apply Apart.mk; decide)) only [go_sem, Nat.reduceAdd, Nat.reduceLT, Nat.reduceMul, Nat.reduceLeDiff, Nat.lt_irrefl, Int.reduceToNat, Int.reduceLT, Int.reduceLE, ha1, on_atB hl1, lt_add hl1, lt_at hl1, ha2, on_atB hl2, lt_add hl2, lt_at hl2, n1, e2, g3]; rfl) rfl ?_
  refine p_op (pend' := []) rfl (by simp (disch := (apply Apart.mk; decide)) only [go_sem, Nat.reduceAdd, Nat.reduceLT, Nat.reduceMul, Nat.reduceLeDiff, Nat.lt_irrefl, Int.reduceToNat, Int.reduceLT, Int.reduceLE, ha1, on_atB hl1, lt_add hl1, lt_at hl1, ha2, on_atB hl2, lt_add hl2, lt_at hl2, n1, e2, g3]) (by simp (disch := (apply Apart.mk; decide)) only [go_sem, Nat.reduceAdd, Nat.reduceLT, Nat.reduceMul, Nat.reduceLeDiff, Nat.lt_irrefl, Int.reduceToNat, Int.reduceLT, Int.reduceLE, ha1, on_atB hl1, lt_add hl1, lt_at hl1, ha2, on_atB hl2, lt_add hl2, lt_at hl2, n1, e2, g3]; rfl) (by rfl) ?_
  refine p_end (by simp (disch := (apply Apart.mk; decide)) only [go_sem, Nat.reduceAdd, Nat.reduceLT, Nat.reduceMul, Nat.reduceLeDiff, Nat.lt_irrefl, Int.reduceToNat, Int.reduceLT, Int.reduceLE, ha1, on_atB hl1, lt_add hl1, lt_at hl1, ha2, on_atB hl2, lt_add hl2, lt_at hl2, n1, e2, g3]) ?_
  refine (w_n ?_)
  refine w_ret ?_
  obtain rfl := hD _ hr
  exact (w_endR (To.cut (os' := []) (sl := [(4, .cv (.val (.bool ((x.Label.toNat : Int) == (c.toNat : Int)))))]) hwf (Nat.le_refl _) (by first | rfl | (simp (disch := (apply Apart.mk; decide)) only [go_sem, Nat.reduceAdd, Nat.reduceLT, Nat.reduceMul, Nat.reduceLeDiff, Nat.lt_irrefl, Int.reduceToNat, Int.reduceLT, Int.reduceLE, ha1, on_atB hl1, lt_add hl1, lt_at hl1, ha2, on_atB hl2, lt_add hl2, lt_at hl2]; rfl)) (by simp (disch := (apply Apart.mk; decide)) only [go_sem, Nat.reduceAdd, Nat.reduceLT, Nat.reduceMul, Nat.reduceLeDiff, Nat.lt_irrefl, Int.reduceToNat, Int.reduceLT, Int.reduceLE, ha1, on_atB hl1, lt_add hl1, lt_at hl1, ha2, on_atB hl2, lt_add hl2, lt_at hl2])) (by simp (disch := (apply Apart.mk; decide)) only [go_sem, Nat.reduceAdd, Nat.reduceLT, Nat.reduceMul, Nat.reduceLeDiff, Nat.lt_irrefl, Int.reduceToNat, Int.reduceLT, Int.reduceLE, ha1, on_atB hl1, lt_add hl1, lt_at hl1, ha2, on_atB hl2, lt_add hl2, lt_at hl2, Try.results77, results_data CT_gives77, resCell, resVal.eq_2, loadOp_sv]) ⟨rfl, on_nil hwf⟩)
end Go.Val

/- part GW52 -/
/- scansion/dawg.walk runs as it is read off. -/
namespace Go.Val
set_option linter.unusedVariables false
set_option linter.unusedSimpArgs false
set_option maxRecDepth 20000
open Go.Proofs
theorem dawg_walk_runs (g : TGraph) (word : Str) {h : Heap} {a : (List Int × Bool)} (e : dawg_walk g word = some a) :
    Runs CT 52 [.cv (.val (.agg [.sl (List.map eB g.Final), .sl (List.map (eL eEdge) g.Edges)])), .cv (.val (.str (bs word)))] h fun o h' => o = [.cv (.val (.sl (List.map eI a.1))), .cv (.val (.bool a.2))] ∧ h' = h := by
  refine Runs.start Try.f52 _ Try.func52 rfl (by rw [Try.ntmps52]; simp) (by rfl) (by rfl) (fun hwf hu => ?_)
  obtain ⟨D, hD, hr⟩ : ∃ D : (List Int × Bool) → Prop, (∀ z, D z → z = a) ∧ Holds (dawg_walk g word) D := ⟨fun z => z = a, fun _ h => h, Holds.intro e rfl⟩
  dsimp only [dawg_walk] at hr
  change wpCode _ _ _ _ _ ⟨[(0, .cv (.val (.agg [.sl (List.map eB g.Final), .sl (List.map (eL eEdge) g.Edges)]))), (1, .cv (.val (.str (bs word))))], h.on []⟩
  refine w_seq ?_
  refine w_region rfl (by simp (disch := (apply Apart.mk; decide)) only [go_sem, Nat.reduceAdd, Nat.reduceLT, Nat.reduceMul, Nat.reduceLeDiff, Nat.lt_irrefl, Int.reduceToNat, Int.reduceLT, Int.reduceLE]; rfl) ?_
  refine (w_n ?_)
  refine w_seq ?_
  refine w_region rfl (by simp (disch := (apply Apart.mk; decide)) only [go_sem, Nat.reduceAdd, Nat.reduceLT, Nat.reduceMul, Nat.reduceLeDiff, Nat.lt_irrefl, Int.reduceToNat, Int.reduceLT, Int.reduceLE]; rfl) ?_
  refine (w_n ?_)
  refine w_seq ?_
  refine w_seq ?_
  refine w_region rfl (by simp (disch := (apply Apart.mk; decide)) only [go_sem, Nat.reduceAdd, Nat.reduceLT, Nat.reduceMul, Nat.reduceLeDiff, Nat.lt_irrefl, Int.reduceToNat, Int.reduceLT, Int.reduceLE]; rfl) ?_
  refine (w_n ?_)
  refine w_K (D := D) (fun x : List Int => ⟨[(6, .cv (.row 3 (List.map eI x)))], h.on []⟩) (fun x : List Int => dawg_walk.k1 x) (fun x s' hr ht => ?_) ?_
  · obtain ⟨at_, rfl⟩ : ∃ z, z = x := ⟨x, rfl⟩
    dsimp only [dawg_walk.k1] at hr ht
    refine (w_nT ht ?_)
    refine w_seq ?_
    refine w_region rfl (by simp (disch := (apply Apart.mk; decide)) only [go_sem, Nat.reduceAdd, Nat.reduceLT, Nat.reduceMul, Nat.reduceLeDiff, Nat.lt_irrefl, Int.reduceToNat, Int.reduceLT, Int.reduceLE]; rfl) ?_
    refine (w_n ?_)
    refine w_ret ?_
    obtain rfl := hD _ hr
    exact (w_endR (.fix _ _ (.slot 4) 3 _ (by simp (disch := (apply Apart.mk; decide)) only [go_sem, Nat.reduceAdd, Nat.reduceLT, Nat.reduceMul, Nat.reduceLeDiff, Nat.lt_irrefl, Int.reduceToNat, Int.reduceLT, Int.reduceLE]; rfl) (To.cut (os' := []) (sl := [(4, .cv (.val (.sl (List.map eI at_)))), (5, .cv (.val (.bool true)))]) hwf (Nat.le_refl _) rfl (by simp (disch := (apply Apart.mk; decide)) only [go_sem, Nat.reduceAdd, Nat.reduceLT, Nat.reduceMul, Nat.reduceLeDiff, Nat.lt_irrefl, Int.reduceToNat, Int.reduceLT, Int.reduceLE]))) (by simp (disch := (apply Apart.mk; decide)) only [go_sem, Nat.reduceAdd, Nat.reduceLT, Nat.reduceMul, Nat.reduceLeDiff, Nat.lt_irrefl, Int.reduceToNat, Int.reduceLT, Int.reduceLE, Try.results52, results_data CT_gives52, resCell, resVal.eq_2, loadOp_sv]) ⟨rfl, on_nil hwf⟩)
  · refine w_block ?_
    refine w_Loop (fun x : (List Int × Int) => ⟨[(2, .cv (.val (.ptr (some (h.n + 0, 0))))), (3, .cv (.val (.ptr (some (h.n + 1, 0))))), (6, .cv (.row 3 (List.map eI x.1))), (16, .cv (.val (.int .i64 (word.length : Int)))), (17, .cv (.val (.int .i64 x.2)))], h.on [some (.cells [.val (.sl (List.map eB g.Final)), .val (.sl (List.map (eL eEdge) g.Edges))]), some (.cells [.val (.str (bs word))])]⟩) hr (To.cut hwf (Nat.le_refl _) rfl (by simp (disch := (apply Apart.mk; decide)) only [go_sem, Nat.reduceAdd, Nat.reduceLT, Nat.reduceMul, Nat.reduceLeDiff, Nat.lt_irrefl, Int.reduceToNat, Int.reduceLT, Int.reduceLE])) (fun W1 x hr => ?_)
    obtain ⟨at_1, v⟩ := x
    dsimp only [dawg_walk.b1] at hr
    refine w_seq ?_
    refine w_region rfl (by simp (disch := (apply Apart.mk; decide)) only [go_sem, Nat.reduceAdd, Nat.reduceLT, Nat.reduceMul, Nat.reduceLeDiff, Nat.lt_irrefl, Int.reduceToNat, Int.reduceLT, Int.reduceLE]; rfl) ?_
    refine (w_n ?_)
    refine w_seq ?_
    refine w_condH (by simp (disch := (apply Apart.mk; decide)) only [go_sem, Nat.reduceAdd, Nat.reduceLT, Nat.reduceMul, Nat.reduceLeDiff, Nat.lt_irrefl, Int.reduceToNat, Int.reduceLT, Int.reduceLE]) hr (fun c1 hr => ?_) (fun c1 hr => ?_)
    · refine w_skip ?_
      refine (w_n ?_)
      refine w_seq ?_
      refine w_block ?_
      refine w_seq ?_
      refine w_region rfl (by simp (disch := (apply Apart.mk; decide)) only [go_sem, Nat.reduceAdd, Nat.reduceLT, Nat.reduceMul, Nat.reduceLeDiff, Nat.lt_irrefl, Int.reduceToNat, Int.reduceLT, Int.reduceLE, c1]; rfl) ?_
      refine (w_n ?_)
      refine w_seq ?_
      refine w_drawn [0, 1, 2, 3, 4, 5, 6, 7, 8] (by rfl) ?_
      obtain ⟨n, n2, e3, g4, hr⟩ := hr.idx
      obtain ⟨xs, n5, e6, g7, hr⟩ := hr.idx
      refine p_run (l := [0, 1, 2, 3, 4, 5, 6, 7]) (pend' := [7, 6, 5, 4, 3, 2, 1, 0]) (by simp (disch := (apply Apart.mk; decide)) only [go_sem, Nat.reduceAdd, Nat.reduceLT, Nat.reduceMul, Nat.reduceLeDiff, Nat.lt_irrefl, Int.reduceToNat, Int.reduceLT, Int.reduceLE, n2, e3, g4, n5, e6, g7]; rfl) rfl ?_
      refine p_op (pend' := []) rfl (by simp (disch := (apply Apart.mk; decide)) only [go_sem, Nat.reduceAdd, Nat.reduceLT, Nat.reduceMul, Nat.reduceLeDiff, Nat.lt_irrefl, Int.reduceToNat, Int.reduceLT, Int.reduceLE, n2, e3, g4, n5, e6, g7]) (by simp (disch := (apply Apart.mk; decide)) only [go_sem, Nat.reduceAdd, Nat.reduceLT, Nat.reduceMul, Nat.reduceLeDiff, Nat.lt_irrefl, Int.reduceToNat, Int.reduceLT, Int.reduceLE, n2, e3, g4, n5, e6, g7]; rfl) (by rfl) ?_
      refine p_end (by simp (disch := (apply Apart.mk; decide)) only [go_sem, Nat.reduceAdd, Nat.reduceLT, Nat.reduceMul, Nat.reduceLeDiff, Nat.lt_irrefl, Int.reduceToNat, Int.reduceLT, Int.reduceLE, n2, e3, g4, n5, e6, g7]) ?_
      refine (w_n ?_)
      refine w_seq ?_
      refine w_ops rfl ?_
      refine w_upto 2 rfl (by simp (disch := (apply Apart.mk; decide)) only [go_sem, Nat.reduceAdd, Nat.reduceLT, Nat.reduceMul, Nat.reduceLeDiff, Nat.lt_irrefl, Int.reduceToNat, Int.reduceLT, Int.reduceLE]; rfl) ?_
      obtain ⟨r, e8, hr⟩ := hr.bind
      refine w_call' (out := ?o_e8) (hp := ?p_e8) rfl (by simp (disch := (apply Apart.mk; decide)) only [go_sem, Nat.reduceAdd, Nat.reduceLT, Nat.reduceMul, Nat.reduceLeDiff, Nat.lt_irrefl, Int.reduceToNat, Int.reduceLT, Int.reduceLE, Option.getD_some]; rfl) (by simp (disch := (apply Apart.mk; decide)) only [go_sem, Nat.reduceAdd, Nat.reduceLT, Nat.reduceMul, Nat.reduceLeDiff, Nat.lt_irrefl, Int.reduceToNat, Int.reduceLT, Int.reduceLE, Option.getD_some]; rfl) (by simp (disch := (apply Apart.mk; decide)) only [go_sem, Nat.reduceAdd, Nat.reduceLT, Nat.reduceMul, Nat.reduceLeDiff, Nat.lt_irrefl, Int.reduceToNat, Int.reduceLT, Int.reduceLE, Option.getD_some]; rfl) ?c_e8 ?d_e8 ?_
      case c_e8 => (refine slices_IndexFunc_api_Edge_api_Edge_runs xs (fun x0 => dawg_walk_1 x0 word v) _ _ ?_ e8; (exact (fun os x0 r e => dawg_walk_1_runs x0 word v (h.n + 1) (h.n + 2) (by simp (disch := (apply Apart.mk; decide)) only [go_sem, Nat.reduceAdd, Nat.reduceLT, Nat.reduceMul, Nat.reduceLeDiff, Nat.lt_irrefl, Int.reduceToNat, Int.reduceLT, Int.reduceLE]) (by simp (disch := (apply Apart.mk; decide)) only [go_sem, Nat.reduceAdd, Nat.reduceLT, Nat.reduceMul, Nat.reduceLeDiff, Nat.lt_irrefl, Int.reduceToNat, Int.reduceLT, Int.reduceLE]) (by first | omega | assumption | exact Ne.symm (by assumption)) e)))
      case d_e8 => rfl
      refine w_ops_end (by simp (disch := (apply Apart.mk; decide)) only [go_sem, Nat.reduceAdd, Nat.reduceLT, Nat.reduceMul, Nat.reduceLeDiff, Nat.lt_irrefl, Int.reduceToNat, Int.reduceLT, Int.reduceLE]; rfl) ?_
      refine (w_n ?_)
      refine w_seq ?_
      refine w_seq ?_
      refine w_region rfl (by simp (disch := (apply Apart.mk; decide)) only [go_sem, Nat.reduceAdd, Nat.reduceLT, Nat.reduceMul, Nat.reduceLeDiff, Nat.lt_irrefl, Int.reduceToNat, Int.reduceLT, Int.reduceLE, c1]; rfl) ?_
      refine (w_n ?_)
      refine w_condH (by simp (disch := (apply Apart.mk; decide)) only [go_sem, Nat.reduceAdd, Nat.reduceLT, Nat.reduceMul, Nat.reduceLeDiff, Nat.lt_irrefl, Int.reduceToNat, Int.reduceLT, Int.reduceLE, c1]) hr (fun c9 hr => ?_) (fun c9 hr => ?_)
      · refine w_seq ?_
        refine w_region rfl (by simp (disch := (apply Apart.mk; decide)) only [go_sem, Nat.reduceAdd, Nat.reduceLT, Nat.reduceMul, Nat.reduceLeDiff, Nat.lt_irrefl, Int.reduceToNat, Int.reduceLT, Int.reduceLE, c1, c9]; rfl) ?_
        refine (w_n ?_)
        refine w_ret ?_
        obtain rfl := hD _ hr
        exact (w_tr (w_br (w_tr (w_tr (w_br (w_tr (w_tr (w_endR (To.cut (os' := []) (sl := [(4, .cv (.val (.sl (List.map eI ([] : List Int))))), (5, .cv (.val (.bool false)))]) hwf (Nat.le_refl _) rfl (by simp (disch := (apply Apart.mk; decide)) only [go_sem, Nat.reduceAdd, Nat.reduceLT, Nat.reduceMul, Nat.reduceLeDiff, Nat.lt_irrefl, Int.reduceToNat, Int.reduceLT, Int.reduceLE, c1, c9])) (by simp (disch := (apply Apart.mk; decide)) only [go_sem, Nat.reduceAdd, Nat.reduceLT, Nat.reduceMul, Nat.reduceLeDiff, Nat.lt_irrefl, Int.reduceToNat, Int.reduceLT, Int.reduceLE, Try.results52, results_data CT_gives52, resCell, resVal.eq_2, loadOp_sv, c1, c9]) ⟨rfl, on_nil hwf⟩))))))))
      · refine w_skip ?_
        refine (w_n ?_)
        obtain ⟨x, n10, e11, g12, hr⟩ := hr.idx
        obtain ⟨n13, hr⟩ := hr.room
        refine w_region rfl (by simp (disch := (apply Apart.mk; decide)) only [go_sem, Nat.reduceAdd, Nat.reduceLT, Nat.reduceMul, Nat.reduceLeDiff, Nat.lt_irrefl, Int.reduceToNat, Int.reduceLT, Int.reduceLE, n10, e11, g12, n13, c1, c9]; rfl) ?_
        refine (w_bn (w_n ?_))
        refine w_region rfl (by simp (disch := (apply Apart.mk; decide)) only [go_sem, Nat.reduceAdd, Nat.reduceLT, Nat.reduceMul, Nat.reduceLeDiff, Nat.lt_irrefl, Int.reduceToNat, Int.reduceLT, Int.reduceLE, c1, c9]; rfl) ?_
        exact (w_k ⟨((at_1 ++ ([x.To])), (IntKind.i64.wrap (v + (1 : Int)))), hr, (To.cut hwf (Nat.le_refl _) rfl (by simp (disch := (apply Apart.mk; decide)) only [go_sem, Nat.reduceAdd, Nat.reduceLT, Nat.reduceMul, Nat.reduceLeDiff, Nat.lt_irrefl, Int.reduceToNat, Int.reduceLT, Int.reduceLE, c1, c9]))⟩)
    · refine w_exit ?_
      exact (w_te (w_te (w_bx (w_k ⟨at_1, (hr).map, (To.cut hwf (Nat.le_refl _) rfl (by simp (disch := (apply Apart.mk; decide)) only [go_sem, Nat.reduceAdd, Nat.reduceLT, Nat.reduceMul, Nat.reduceLeDiff, Nat.lt_irrefl, Int.reduceToNat, Int.reduceLT, Int.reduceLE, c1]))⟩))))
end Go.Val

/- part GW20 -/
/- scansion/dawg.Has runs as it is read off. -/
namespace Go.Val
set_option linter.unusedVariables false
set_option linter.unusedSimpArgs false
set_option maxRecDepth 20000
open Go.Proofs
theorem dawg_Has_runs (g : TGraph) (word : Str) {h : Heap} {a : Bool} (e : dawg_Has g word = some a) :
    Runs CT 20 [.cv (.val (.agg [.sl (List.map eB g.Final), .sl (List.map (eL eEdge) g.Edges)])), .cv (.val (.str (bs word)))] h fun o h' => o = [.cv (.val (.bool a))] ∧ h' = h := by
  refine Runs.start Try.f20 _ Try.func20 rfl (by rw [Try.ntmps20]; simp) (by rfl) (by rfl) (fun hwf hu => ?_)
  obtain ⟨D, hD, hr⟩ : ∃ D : Bool → Prop, (∀ z, D z → z = a) ∧ Holds (dawg_Has g word) D := ⟨fun z => z = a, fun _ h => h, Holds.intro e rfl⟩
  dsimp only [dawg_Has] at hr
  change wpCode _ _ _ _ _ ⟨[(0, .cv (.val (.agg [.sl (List.map eB g.Final), .sl (List.map (eL eEdge) g.Edges)]))), (1, .cv (.val (.str (bs word))))], h.on []⟩
  refine w_seq ?_
  refine w_region rfl (by simp (disch := (apply Apart.mk; decide)) only [go_sem, Nat.reduceAdd, Nat.reduceLT, Nat.reduceMul, Nat.reduceLeDiff, Nat.lt_irrefl, Int.reduceToNat, Int.reduceLT, Int.reduceLE]; rfl) ?_
  refine (w_n ?_)
  refine w_seq ?_
  refine w_seq ?_
  refine w_ops rfl ?_
  refine w_upto 1 rfl (by simp (disch := (apply Apart.mk; decide)) only [go_sem, Nat.reduceAdd, Nat.reduceLT, Nat.reduceMul, Nat.reduceLeDiff, Nat.lt_irrefl, Int.reduceToNat, Int.reduceLT, Int.reduceLE]; rfl) ?_
  obtain ⟨r, e1, hr⟩ := hr.bind
  refine w_call' (out := ?o_e1) (hp := ?p_e1) rfl (by simp (disch := (apply Apart.mk; decide)) only [go_sem, Nat.reduceAdd, Nat.reduceLT, Nat.reduceMul, Nat.reduceLeDiff, Nat.lt_irrefl, Int.reduceToNat, Int.reduceLT, Int.reduceLE, Option.getD_some]; rfl) (by simp (disch := (apply Apart.mk; decide)) only [go_sem, Nat.reduceAdd, Nat.reduceLT, Nat.reduceMul, Nat.reduceLeDiff, Nat.lt_irrefl, Int.reduceToNat, Int.reduceLT, Int.reduceLE, Option.getD_some]; rfl) (by simp (disch := (apply Apart.mk; decide)) only [go_sem, Nat.reduceAdd, Nat.reduceLT, Nat.reduceMul, Nat.reduceLeDiff, Nat.lt_irrefl, Int.reduceToNat, Int.reduceLT, Int.reduceLE, Option.getD_some]; rfl) ?c_e1 ?d_e1 ?_
  case c_e1 => exact dawg_Right_runs g e1
  case d_e1 => rfl
  refine w_ops_end (by simp (disch := (apply Apart.mk; decide)) only [go_sem, Nat.reduceAdd, Nat.reduceLT, Nat.reduceMul, Nat.reduceLeDiff, Nat.lt_irrefl, Int.reduceToNat, Int.reduceLT, Int.reduceLE]; rfl) ?_
  refine (w_n ?_)
  refine w_condH (by simp (disch := (apply Apart.mk; decide)) only [go_sem, Nat.reduceAdd, Nat.reduceLT, Nat.reduceMul, Nat.reduceLeDiff, Nat.lt_irrefl, Int.reduceToNat, Int.reduceLT, Int.reduceLE]) hr (fun c2 hr => ?_) (fun c2 hr => ?_)
  · refine w_seq ?_
    refine w_region rfl (by simp (disch := (apply Apart.mk; decide)) only [go_sem, Nat.reduceAdd, Nat.reduceLT, Nat.reduceMul, Nat.reduceLeDiff, Nat.lt_irrefl, Int.reduceToNat, Int.reduceLT, Int.reduceLE, c2]; rfl) ?_
    refine (w_n ?_)
    refine w_ret ?_
    obtain rfl := hD _ hr
    exact (w_tr (w_endR (To.cut (os' := []) (sl := [(4, .cv (.val (.bool false)))]) hwf (Nat.le_refl _) rfl (by simp (disch := (apply Apart.mk; decide)) only [go_sem, Nat.reduceAdd, Nat.reduceLT, Nat.reduceMul, Nat.reduceLeDiff, Nat.lt_irrefl, Int.reduceToNat, Int.reduceLT, Int.reduceLE, c2])) (by simp (disch := (apply Apart.mk; decide)) only [go_sem, Nat.reduceAdd, Nat.reduceLT, Nat.reduceMul, Nat.reduceLeDiff, Nat.lt_irrefl, Int.reduceToNat, Int.reduceLT, Int.reduceLE, Try.results20, results_data CT_gives20, resCell, resVal.eq_2, loadOp_sv, c2]) ⟨rfl, on_nil hwf⟩))
  · refine w_skip ?_
    refine (w_n ?_)
    refine w_seq ?_
    refine w_ops rfl ?_
    refine w_upto 2 rfl (by simp (disch := (apply Apart.mk; decide)) only [go_sem, Nat.reduceAdd, Nat.reduceLT, Nat.reduceMul, Nat.reduceLeDiff, Nat.lt_irrefl, Int.reduceToNat, Int.reduceLT, Int.reduceLE]; rfl) ?_
    obtain ⟨r1, e3, hr⟩ := hr.bind
    refine w_call' (out := ?o_e3) (hp := ?p_e3) rfl (by simp (disch := (apply Apart.mk; decide)) only [go_sem, Nat.reduceAdd, Nat.reduceLT, Nat.reduceMul, Nat.reduceLeDiff, Nat.lt_irrefl, Int.reduceToNat, Int.reduceLT, Int.reduceLE, Option.getD_some]; rfl) (by simp (disch := (apply Apart.mk; decide)) only [go_sem, Nat.reduceAdd, Nat.reduceLT, Nat.reduceMul, Nat.reduceLeDiff, Nat.lt_irrefl, Int.reduceToNat, Int.reduceLT, Int.reduceLE, Option.getD_some]; rfl) (by simp (disch := (apply Apart.mk; decide)) only [go_sem, Nat.reduceAdd, Nat.reduceLT, Nat.reduceMul, Nat.reduceLeDiff, Nat.lt_irrefl, Int.reduceToNat, Int.reduceLT, Int.reduceLE, Option.getD_some]; rfl) ?c_e3 ?d_e3 ?_
    case c_e3 => exact dawg_walk_runs g word e3
    case d_e3 => rfl
    refine w_ops_end (by simp (disch := (apply Apart.mk; decide)) only [go_sem, Nat.reduceAdd, Nat.reduceLT, Nat.reduceMul, Nat.reduceLeDiff, Nat.lt_irrefl, Int.reduceToNat, Int.reduceLT, Int.reduceLE]; rfl) ?_
    refine (w_n ?_)
    obtain ⟨v, v11, hr⟩ := hr.bind
    refine w_joinR (sj := ⟨[(4, .cv (.val (.bool v)))], h.on []⟩) (w_drawn [0, 1, 2, 3, 4, 5, 6, 7, 8, 9, 10, 11, 12] (by rfl) ?_) ?_
    · have hr := Holds.intro (D := fun z => z = v) v11 rfl
      refine p_run (l := [0, 1]) (pend' := [1, 0]) (by simp (disch := (apply Apart.mk; decide)) only [go_sem, Nat.reduceAdd, Nat.reduceLT, Nat.reduceMul, Nat.reduceLeDiff, Nat.lt_irrefl, Int.reduceToNat, Int.reduceLT, Int.reduceLE]; rfl) rfl ?_
      rcases hr.ite with ⟨c4, hr⟩ | ⟨c4, hr⟩
      · obtain ⟨n, n5, e6, g7, hr⟩ := hr.idx
        obtain ⟨b, n8, e9, g10, hr⟩ := hr.idx
        refine p_run (l := [2, 3, 4, 5, 6, 7, 8, 9, 10, 11]) (pend' := [11, 10, 9, 8, 7, 6, 5, 4, 3, 2, 1, 0]) (by simp (disch := (apply Apart.mk; decide)) only [go_sem, Nat.reduceAdd, Nat.reduceLT, Nat.reduceMul, Nat.reduceLeDiff, Nat.lt_irrefl, Int.reduceToNat, Int.reduceLT, Int.reduceLE, c4, n5, e6, g7, n8, e9, g10]; rfl) rfl ?_
        refine p_op (pend' := []) rfl (by simp (disch := (apply Apart.mk; decide)) only [go_sem, Nat.reduceAdd, Nat.reduceLT, Nat.reduceMul, Nat.reduceLeDiff, Nat.lt_irrefl, Int.reduceToNat, Int.reduceLT, Int.reduceLE, c4, n5, e6, g7, n8, e9, g10]) (by simp (disch := (apply Apart.mk; decide)) only [go_sem, Nat.reduceAdd, Nat.reduceLT, Nat.reduceMul, Nat.reduceLeDiff, Nat.lt_irrefl, Int.reduceToNat, Int.reduceLT, Int.reduceLE, c4, n5, e6, g7, n8, e9, g10]; rfl) (by rfl) ?_
        refine p_end (by simp (disch := (apply Apart.mk; decide)) only [go_sem, Nat.reduceAdd, Nat.reduceLT, Nat.reduceMul, Nat.reduceLeDiff, Nat.lt_irrefl, Int.reduceToNat, Int.reduceLT, Int.reduceLE, c4, n5, e6, g7, n8, e9, g10]) ?_
        obtain rfl : _ = v := hr
        exact w_k (To.cut hwf (Nat.le_refl _) rfl (by simp (disch := (apply Apart.mk; decide)) only [go_sem, Nat.reduceAdd, Nat.reduceLT, Nat.reduceMul, Nat.reduceLeDiff, Nat.lt_irrefl, Int.reduceToNat, Int.reduceLT, Int.reduceLE, c2, c4]))
      · refine p_run (l := [2, 3, 4, 5, 6, 7, 8, 9, 10, 11]) (pend' := [11, 10, 9, 8, 7, 6, 5, 4, 3, 2, 1, 0]) (by simp (disch := (apply Apart.mk; decide)) only [go_sem, Nat.reduceAdd, Nat.reduceLT, Nat.reduceMul, Nat.reduceLeDiff, Nat.lt_irrefl, Int.reduceToNat, Int.reduceLT, Int.reduceLE, c4]; rfl) rfl ?_
        refine p_op (pend' := []) rfl (by simp (disch := (apply Apart.mk; decide)) only [go_sem, Nat.reduceAdd, Nat.reduceLT, Nat.reduceMul, Nat.reduceLeDiff, Nat.lt_irrefl, Int.reduceToNat, Int.reduceLT, Int.reduceLE, c4]) (by simp (disch := (apply Apart.mk; decide)) only [go_sem, Nat.reduceAdd, Nat.reduceLT, Nat.reduceMul, Nat.reduceLeDiff, Nat.lt_irrefl, Int.reduceToNat, Int.reduceLT, Int.reduceLE, c4]; rfl) (by rfl) ?_
        refine p_end (by simp (disch := (apply Apart.mk; decide)) only [go_sem, Nat.reduceAdd, Nat.reduceLT, Nat.reduceMul, Nat.reduceLeDiff, Nat.lt_irrefl, Int.reduceToNat, Int.reduceLT, Int.reduceLE, c4]) ?_
        obtain rfl : _ = v := hr
        exact w_k (To.cut hwf (Nat.le_refl _) rfl (by simp (disch := (apply Apart.mk; decide)) only [go_sem, Nat.reduceAdd, Nat.reduceLT, Nat.reduceMul, Nat.reduceLeDiff, Nat.lt_irrefl, Int.reduceToNat, Int.reduceLT, Int.reduceLE, c2, c4]))
    refine w_ret ?_
    obtain rfl := hD _ hr
    exact (w_endR (To.cut (os' := []) (sl := [(4, .cv (.val (.bool v)))]) hwf (Nat.le_refl _) rfl (by simp (disch := (apply Apart.mk; decide)) only [go_sem, Nat.reduceAdd, Nat.reduceLT, Nat.reduceMul, Nat.reduceLeDiff, Nat.lt_irrefl, Int.reduceToNat, Int.reduceLT, Int.reduceLE, c2])) (by simp (disch := (apply Apart.mk; decide)) only [go_sem, Nat.reduceAdd, Nat.reduceLT, Nat.reduceMul, Nat.reduceLeDiff, Nat.lt_irrefl, Int.reduceToNat, Int.reduceLT, Int.reduceLE, Try.results20, results_data CT_gives20, resCell, resVal.eq_2, loadOp_sv, c2]) ⟨rfl, on_nil hwf⟩)
end Go.Val

/- part GW36 -/
/- scansion/dawg.Number runs as it is read off. -/
namespace Go.Val
set_option linter.unusedVariables false
set_option linter.unusedSimpArgs false
set_option maxRecDepth 20000
open Go.Proofs
theorem dawg_Number_runs (g : TGraph) (word : Str) {h : Heap} {a : (Int × Int)} (e : dawg_Number g word = some a) :
    Runs CT 36 [.cv (.val (.agg [.sl (List.map eB g.Final), .sl (List.map (eL eEdge) g.Edges)])), .cv (.val (.str (bs word)))] h fun o h' => o = [.cv (.val (.int .i64 a.1)), .cv (.val (.int .i64 a.2))] ∧ h' = h := by
  refine Runs.start Try.f36 _ Try.func36 rfl (by rw [Try.ntmps36]; simp) (by rfl) (by rfl) (fun hwf hu => ?_)
  obtain ⟨D, hD, hr⟩ : ∃ D : (Int × Int) → Prop, (∀ z, D z → z = a) ∧ Holds (dawg_Number g word) D := ⟨fun z => z = a, fun _ h => h, Holds.intro e rfl⟩
  dsimp only [dawg_Number] at hr
  change wpCode _ _ _ _ _ ⟨[(0, .cv (.val (.agg [.sl (List.map eB g.Final), .sl (List.map (eL eEdge) g.Edges)]))), (1, .cv (.val (.str (bs word))))], h.on []⟩
  refine w_seq ?_
  refine w_region rfl (by simp (disch := (apply Apart.mk; decide)) only [go_sem, Nat.reduceAdd, Nat.reduceLT, Nat.reduceMul, Nat.reduceLeDiff, Nat.lt_irrefl, Int.reduceToNat, Int.reduceLT, Int.reduceLE]; rfl) ?_
  refine (w_n ?_)
  refine w_seq ?_
  refine w_ops rfl ?_
  refine w_upto 1 rfl (by simp (disch := (apply Apart.mk; decide)) only [go_sem, Nat.reduceAdd, Nat.reduceLT, Nat.reduceMul, Nat.reduceLeDiff, Nat.lt_irrefl, Int.reduceToNat, Int.reduceLT, Int.reduceLE]; rfl) ?_
  obtain ⟨r, e1, hr⟩ := hr.bind
  refine w_call' (out := ?o_e1) (hp := ?p_e1) rfl (by simp (disch := (apply Apart.mk; decide)) only [go_sem, Nat.reduceAdd, Nat.reduceLT, Nat.reduceMul, Nat.reduceLeDiff, Nat.lt_irrefl, Int.reduceToNat, Int.reduceLT, Int.reduceLE, Option.getD_some]; rfl) (by simp (disch := (apply Apart.mk; decide)) only [go_sem, Nat.reduceAdd, Nat.reduceLT, Nat.reduceMul, Nat.reduceLeDiff, Nat.lt_irrefl, Int.reduceToNat, Int.reduceLT, Int.reduceLE, Option.getD_some]; rfl) (by simp (disch := (apply Apart.mk; decide)) only [go_sem, Nat.reduceAdd, Nat.reduceLT, Nat.reduceMul, Nat.reduceLeDiff, Nat.lt_irrefl, Int.reduceToNat, Int.reduceLT, Int.reduceLE, Option.getD_some]; rfl) ?c_e1 ?d_e1 ?_
  case c_e1 => exact dawg_Count_runs g e1
  case d_e1 => rfl
  refine w_ops_end (by simp (disch := (apply Apart.mk; decide)) only [go_sem, Nat.reduceAdd, Nat.reduceLT, Nat.reduceMul, Nat.reduceLeDiff, Nat.lt_irrefl, Int.reduceToNat, Int.reduceLT, Int.reduceLE]; rfl) ?_
  refine (w_n ?_)
  refine w_seq ?_
  refine w_seq ?_
  refine w_region rfl (by simp (disch := (apply Apart.mk; decide)) only [go_sem, Nat.reduceAdd, Nat.reduceLT, Nat.reduceMul, Nat.reduceLeDiff, Nat.lt_irrefl, Int.reduceToNat, Int.reduceLT, Int.reduceLE]; rfl) ?_
  refine (w_n ?_)
  refine w_condH (by simp (disch := (apply Apart.mk; decide)) only [go_sem, Nat.reduceAdd, Nat.reduceLT, Nat.reduceMul, Nat.reduceLeDiff, Nat.lt_irrefl, Int.reduceToNat, Int.reduceLT, Int.reduceLE]) hr (fun c2 hr => ?_) (fun c2 hr => ?_)
  · refine w_seq ?_
    refine w_region rfl (by simp (disch := (apply Apart.mk; decide)) only [go_sem, Nat.reduceAdd, Nat.reduceLT, Nat.reduceMul, Nat.reduceLeDiff, Nat.lt_irrefl, Int.reduceToNat, Int.reduceLT, Int.reduceLE, c2]; rfl) ?_
    refine (w_n ?_)
    refine w_ret ?_
    obtain rfl := hD _ hr
    exact (w_tr (w_endR (To.cut (os' := []) (sl := [(4, .cv (.val (.int .i64 (0 : Int)))), (5, .cv (.val (.int .i64 r.2)))]) hwf (Nat.le_refl _) rfl (by simp (disch := (apply Apart.mk; decide)) only [go_sem, Nat.reduceAdd, Nat.reduceLT, Nat.reduceMul, Nat.reduceLeDiff, Nat.lt_irrefl, Int.reduceToNat, Int.reduceLT, Int.reduceLE, c2])) (by simp (disch := (apply Apart.mk; decide)) only [go_sem, Nat.reduceAdd, Nat.reduceLT, Nat.reduceMul, Nat.reduceLeDiff, Nat.lt_irrefl, Int.reduceToNat, Int.reduceLT, Int.reduceLE, Try.results36, results_data CT_gives36, resCell, resVal.eq_2, loadOp_sv, c2]) ⟨rfl, on_nil hwf⟩))
  · refine w_skip ?_
    refine (w_n ?_)
    refine w_seq ?_
    refine w_ops rfl ?_
    refine w_upto 2 rfl (by simp (disch := (apply Apart.mk; decide)) only [go_sem, Nat.reduceAdd, Nat.reduceLT, Nat.reduceMul, Nat.reduceLeDiff, Nat.lt_irrefl, Int.reduceToNat, Int.reduceLT, Int.reduceLE]; rfl) ?_
    obtain ⟨r1, e3, hr⟩ := hr.bind
    refine w_call' (out := ?o_e3) (hp := ?p_e3) rfl (by simp (disch := (apply Apart.mk; decide)) only [go_sem, Nat.reduceAdd, Nat.reduceLT, Nat.reduceMul, Nat.reduceLeDiff, Nat.lt_irrefl, Int.reduceToNat, Int.reduceLT, Int.reduceLE, Option.getD_some]; rfl) (by simp (disch := (apply Apart.mk; decide)) only [go_sem, Nat.reduceAdd, Nat.reduceLT, Nat.reduceMul, Nat.reduceLeDiff, Nat.lt_irrefl, Int.reduceToNat, Int.reduceLT, Int.reduceLE, Option.getD_some]; rfl) (by simp (disch := (apply Apart.mk; decide)) only [go_sem, Nat.reduceAdd, Nat.reduceLT, Nat.reduceMul, Nat.reduceLeDiff, Nat.lt_irrefl, Int.reduceToNat, Int.reduceLT, Int.reduceLE, Option.getD_some]; rfl) ?c_e3 ?d_e3 ?_
    case c_e3 => exact dawg_walk_runs g word e3
    case d_e3 => rfl
    refine w_ops_end (by simp (disch := (apply Apart.mk; decide)) only [go_sem, Nat.reduceAdd, Nat.reduceLT, Nat.reduceMul, Nat.reduceLeDiff, Nat.lt_irrefl, Int.reduceToNat, Int.reduceLT, Int.reduceLE]; rfl) ?_
    refine (w_n ?_)
    refine w_seq ?_
    obtain ⟨v, v11, hr⟩ := hr.bind
    refine w_joinR (sj := ⟨[(1, .cv (.val (.str (bs word)))), (2, .cv (.val (.ptr (some (h.n + 0, 0))))), (6, .cv (.val (.sl (List.map eI r.1)))), (8, .cv (.val (.sl (List.map eI r1.1)))), (41, .cv (.val (.bool v)))], h.on [some (.cells [.val (.sl (List.map eB g.Final)), .val (.sl (List.map (eL eEdge) g.Edges))])]⟩) (w_drawn [0, 1, 2, 3, 4, 5, 6, 7, 8, 9, 10, 11, 12, 13] (by rfl) ?_) ?_
    · have hr := Holds.intro (D := fun z => z = v) v11 rfl
      refine p_run (l := [0, 1, 2]) (pend' := [2, 1, 0]) (by simp (disch := (apply Apart.mk; decide)) only [go_sem, Nat.reduceAdd, Nat.reduceLT, Nat.reduceMul, Nat.reduceLeDiff, Nat.lt_irrefl, Int.reduceToNat, Int.reduceLT, Int.reduceLE]; rfl) rfl ?_
      rcases hr.ite with ⟨c4, hr⟩ | ⟨c4, hr⟩
      · refine p_run (l := [3, 4, 5, 6, 7, 8, 9, 10, 11, 12, 13]) (pend' := [13, 12, 11, 10, 9, 8, 7, 6, 5, 4, 3, 2, 1, 0]) (by simp (disch := (apply Apart.mk; decide)) only [go_sem, Nat.reduceAdd, Nat.reduceLT, Nat.reduceMul, Nat.reduceLeDiff, Nat.lt_irrefl, Int.reduceToNat, Int.reduceLT, Int.reduceLE, c4]; rfl) rfl ?_
        refine p_end (by simp (disch := (apply Apart.mk; decide)) only [go_sem, Nat.reduceAdd, Nat.reduceLT, Nat.reduceMul, Nat.reduceLeDiff, Nat.lt_irrefl, Int.reduceToNat, Int.reduceLT, Int.reduceLE, c4]) ?_
        obtain rfl : _ = v := hr
        exact w_k (To.cut hwf (Nat.le_refl _) rfl (by simp (disch := (apply Apart.mk; decide)) only [go_sem, Nat.reduceAdd, Nat.reduceLT, Nat.reduceMul, Nat.reduceLeDiff, Nat.lt_irrefl, Int.reduceToNat, Int.reduceLT, Int.reduceLE, c2, c4]))
      · obtain ⟨n, n5, e6, g7, hr⟩ := hr.idx
        obtain ⟨b, n8, e9, g10, hr⟩ := hr.idx
        refine p_run (l := [3, 4, 5, 6, 7, 8, 9, 10, 11, 12, 13]) (pend' := [13, 12, 11, 10, 9, 8, 7, 6, 5, 4, 3, 2, 1, 0]) (by simp (disch := (apply Apart.mk; decide)) only [go_sem, Nat.reduceAdd, Nat.reduceLT, Nat.reduceMul, Nat.reduceLeDiff, Nat.lt_irrefl, Int.reduceToNat, Int.reduceLT, Int.reduceLE, c4, n5, e6, g7, n8, e9, g10]; rfl) rfl ?_
        refine p_end (by simp (disch := (apply Apart.mk; decide)) only [go_sem, Nat.reduceAdd, Nat.reduceLT, Nat.reduceMul, Nat.reduceLeDiff, Nat.lt_irrefl, Int.reduceToNat, Int.reduceLT, Int.reduceLE, c4, n5, e6, g7, n8, e9, g10]) ?_
        obtain rfl : _ = v := hr
        exact w_k (To.cut hwf (Nat.le_refl _) rfl (by simp (disch := (apply Apart.mk; decide)) only [go_sem, Nat.reduceAdd, Nat.reduceLT, Nat.reduceMul, Nat.reduceLeDiff, Nat.lt_irrefl, Int.reduceToNat, Int.reduceLT, Int.reduceLE, c2, c4]))
    refine w_condH (by simp (disch := (apply Apart.mk; decide)) only [go_sem, Nat.reduceAdd, Nat.reduceLT, Nat.reduceMul, Nat.reduceLeDiff, Nat.lt_irrefl, Int.reduceToNat, Int.reduceLT, Int.reduceLE, c2]) hr (fun c12 hr => ?_) (fun c12 hr => ?_)
    · refine w_seq ?_
      refine w_region rfl (by simp (disch := (apply Apart.mk; decide)) only [go_sem, Nat.reduceAdd, Nat.reduceLT, Nat.reduceMul, Nat.reduceLeDiff, Nat.lt_irrefl, Int.reduceToNat, Int.reduceLT, Int.reduceLE, c2, c12]; rfl) ?_
      refine (w_n ?_)
      refine w_ret ?_
      obtain rfl := hD _ hr
      exact (w_tr (w_endR (To.cut (os' := []) (sl := [(4, .cv (.val (.int .i64 (0 : Int)))), (5, .cv (.val (.int .i64 (4 : Int))))]) hwf (Nat.le_refl _) rfl (by simp (disch := (apply Apart.mk; decide)) only [go_sem, Nat.reduceAdd, Nat.reduceLT, Nat.reduceMul, Nat.reduceLeDiff, Nat.lt_irrefl, Int.reduceToNat, Int.reduceLT, Int.reduceLE, c2, c12])) (by simp (disch := (apply Apart.mk; decide)) only [go_sem, Nat.reduceAdd, Nat.reduceLT, Nat.reduceMul, Nat.reduceLeDiff, Nat.lt_irrefl, Int.reduceToNat, Int.reduceLT, Int.reduceLE, Try.results36, results_data CT_gives36, resCell, resVal.eq_2, loadOp_sv, c2, c12]) ⟨rfl, on_nil hwf⟩))
    · refine w_skip ?_
      refine (w_n ?_)
      refine w_seq ?_
      refine w_region rfl (by simp (disch := (apply Apart.mk; decide)) only [go_sem, Nat.reduceAdd, Nat.reduceLT, Nat.reduceMul, Nat.reduceLeDiff, Nat.lt_irrefl, Int.reduceToNat, Int.reduceLT, Int.reduceLE, c2, c12]; rfl) ?_
      refine (w_n ?_)
      refine w_seq ?_
      refine w_seq ?_
      refine w_region rfl (by simp (disch := (apply Apart.mk; decide)) only [go_sem, Nat.reduceAdd, Nat.reduceLT, Nat.reduceMul, Nat.reduceLeDiff, Nat.lt_irrefl, Int.reduceToNat, Int.reduceLT, Int.reduceLE, c2, c12]; rfl) ?_
      refine (w_n ?_)
      refine w_K (D := D) (fun x : Int => ⟨[(10, .cv (.val (.int .i64 x)))], h.on []⟩) (fun x : Int => dawg_Number.k1 x) (fun x s' hr ht => ?_) ?_
      · obtain ⟨n1, rfl⟩ : ∃ z, z = x := ⟨x, rfl⟩
        dsimp only [dawg_Number.k1] at hr ht
        refine (w_nT ht ?_)
        refine w_seq ?_
        refine w_region rfl (by simp (disch := (apply Apart.mk; decide)) only [go_sem, Nat.reduceAdd, Nat.reduceLT, Nat.reduceMul, Nat.reduceLeDiff, Nat.lt_irrefl, Int.reduceToNat, Int.reduceLT, Int.reduceLE, c2, c12]; rfl) ?_
        refine (w_n ?_)
        refine w_ret ?_
        obtain rfl := hD _ hr
        exact (w_endR (To.cut (os' := []) (sl := [(4, .cv (.val (.int .i64 (mn n1 (1099511627776 : Int))))), (5, .cv (.val (.int .i64 (0 : Int))))]) hwf (Nat.le_refl _) rfl (by simp (disch := (apply Apart.mk; decide)) only [go_sem, Nat.reduceAdd, Nat.reduceLT, Nat.reduceMul, Nat.reduceLeDiff, Nat.lt_irrefl, Int.reduceToNat, Int.reduceLT, Int.reduceLE, c2, c12])) (by simp (disch := (apply Apart.mk; decide)) only [go_sem, Nat.reduceAdd, Nat.reduceLT, Nat.reduceMul, Nat.reduceLeDiff, Nat.lt_irrefl, Int.reduceToNat, Int.reduceLT, Int.reduceLE, Try.results36, results_data CT_gives36, resCell, resVal.eq_2, loadOp_sv, c2, c12]) ⟨rfl, on_nil hwf⟩)
      · refine w_block ?_
        refine w_Loop (fun x : (Int × Int) => ⟨[(1, .cv (.val (.str (bs word)))), (2, .cv (.val (.ptr (some (h.n + 0, 0))))), (6, .cv (.val (.sl (List.map eI r.1)))), (8, .cv (.val (.sl (List.map eI r1.1)))), (10, .cv (.val (.int .i64 x.1))), (43, .cv (.val (.int .i64 (word.length : Int)))), (44, .cv (.val (.int .i64 x.2)))], h.on [some (.cells [.val (.sl (List.map eB g.Final)), .val (.sl (List.map (eL eEdge) g.Edges))])]⟩) hr (To.cut hwf (Nat.le_refl _) rfl (by simp (disch := (apply Apart.mk; decide)) only [go_sem, Nat.reduceAdd, Nat.reduceLT, Nat.reduceMul, Nat.reduceLeDiff, Nat.lt_irrefl, Int.reduceToNat, Int.reduceLT, Int.reduceLE, c2, c12])) (fun W1 x hr => ?_)
        obtain ⟨n2, v1⟩ := x
        dsimp only [dawg_Number.b1] at hr
        refine w_seq ?_
        refine w_region rfl (by simp (disch := (apply Apart.mk; decide)) only [go_sem, Nat.reduceAdd, Nat.reduceLT, Nat.reduceMul, Nat.reduceLeDiff, Nat.lt_irrefl, Int.reduceToNat, Int.reduceLT, Int.reduceLE, c2, c12]; rfl) ?_
        refine (w_n ?_)
        refine w_seq ?_
        refine w_condH (by simp (disch := (apply Apart.mk; decide)) only [go_sem, Nat.reduceAdd, Nat.reduceLT, Nat.reduceMul, Nat.reduceLeDiff, Nat.lt_irrefl, Int.reduceToNat, Int.reduceLT, Int.reduceLE, c2, c12]) hr (fun c13 hr => ?_) (fun c13 hr => ?_)
        · refine w_skip ?_
          refine (w_n ?_)
          refine w_seq ?_
          refine w_K (D := (Aft W1 D)) (fun x : Int => ⟨[(1, .cv (.val (.str (bs word)))), (2, .cv (.val (.ptr (some (h.n + 0, 0))))), (6, .cv (.val (.sl (List.map eI r.1)))), (8, .cv (.val (.sl (List.map eI r1.1)))), (10, .cv (.val (.int .i64 x))), (43, .cv (.val (.int .i64 (word.length : Int)))), (44, .cv (.val (.int .i64 v1)))], h.on [some (.cells [.val (.sl (List.map eB g.Final)), .val (.sl (List.map (eL eEdge) g.Edges))])]⟩) (fun x : Int => dawg_Number.k2 v1 x) (fun x s' hr ht => ?_) ?_
          · obtain ⟨n3, rfl⟩ : ∃ z, z = x := ⟨x, rfl⟩
            dsimp only [dawg_Number.k2] at hr ht
            refine (w_nT ht ?_)
            refine w_region rfl (by simp (disch := (apply Apart.mk; decide)) only [go_sem, Nat.reduceAdd, Nat.reduceLT, Nat.reduceMul, Nat.reduceLeDiff, Nat.lt_irrefl, Int.reduceToNat, Int.reduceLT, Int.reduceLE, c2, c12, c13]; rfl) ?_
            exact (w_k ⟨(n3, (IntKind.i64.wrap (v1 + (1 : Int)))), hr, (To.cut hwf (Nat.le_refl _) rfl (by simp (disch := (apply Apart.mk; decide)) only [go_sem, Nat.reduceAdd, Nat.reduceLT, Nat.reduceMul, Nat.reduceLeDiff, Nat.lt_irrefl, Int.reduceToNat, Int.reduceLT, Int.reduceLE, c2, c12, c13]))⟩)
          · refine w_block ?_
            refine w_seq ?_
            refine w_region rfl (by simp (disch := (apply Apart.mk; decide)) only [go_sem, Nat.reduceAdd, Nat.reduceLT, Nat.reduceMul, Nat.reduceLeDiff, Nat.lt_irrefl, Int.reduceToNat, Int.reduceLT, Int.reduceLE, c2, c12, c13]; rfl) ?_
            refine (w_n ?_)
            refine w_seq ?_
            refine w_seq ?_
            refine w_drawn [0, 1, 2, 3, 4, 5, 6, 7] (by rfl) ?_
            obtain ⟨n4, n14, e15, g16, hr⟩ := hr.idx
            obtain ⟨b1, n17, e18, g19, hr⟩ := hr.idx
            refine p_run (l := [0, 1, 2, 3, 4, 5, 6, 7]) (pend' := [7, 6, 5, 4, 3, 2, 1, 0]) (by simp (disch := (apply Apart.mk; decide)) only [go_sem, Nat.reduceAdd, Nat.reduceLT, Nat.reduceMul, Nat.reduceLeDiff, Nat.lt_irrefl, Int.reduceToNat, Int.reduceLT, Int.reduceLE, n14, e15, g16, n17, e18, g19]; rfl) rfl ?_
            refine p_end (by simp (disch := (apply Apart.mk; decide)) only [go_sem, Nat.reduceAdd, Nat.reduceLT, Nat.reduceMul, Nat.reduceLeDiff, Nat.lt_irrefl, Int.reduceToNat, Int.reduceLT, Int.reduceLE, n14, e15, g16, n17, e18, g19]) ?_
            refine (w_n ?_)
            refine w_K (D := (Aft W1 D)) (fun x : Int => ⟨[(1, .cv (.val (.str (bs word)))), (2, .cv (.val (.ptr (some (h.n + 0, 0))))), (6, .cv (.val (.sl (List.map eI r.1)))), (8, .cv (.val (.sl (List.map eI r1.1)))), (10, .cv (.val (.int .i64 x))), (11, .cv (.val (.int .i64 v1))), (43, .cv (.val (.int .i64 (word.length : Int)))), (44, .cv (.val (.int .i64 v1)))], h.on [some (.cells [.val (.sl (List.map eB g.Final)), .val (.sl (List.map (eL eEdge) g.Edges))])]⟩) (fun x : Int => dawg_Number.k3 g word r v1 n4 x) (fun x s' hr ht => ?_) ?_
            · obtain ⟨n5, rfl⟩ : ∃ z, z = x := ⟨x, rfl⟩
              dsimp only [dawg_Number.k3] at hr ht
              refine (w_nT ht ?_)
              refine w_seq ?_
              refine w_drawn [0, 1, 2, 3, 4, 5, 6, 7, 8, 9] (by rfl) ?_
              obtain ⟨xs, n20, e21, g22, hr⟩ := hr.idx
              refine p_run (l := [0, 1, 2, 3, 4, 5, 6, 7, 8, 9]) (pend' := [9, 8, 7, 6, 5, 4, 3, 2, 1, 0]) (by simp (disch := (apply Apart.mk; decide)) only [go_sem, Nat.reduceAdd, Nat.reduceLT, Nat.reduceMul, Nat.reduceLeDiff, Nat.lt_irrefl, Int.reduceToNat, Int.reduceLT, Int.reduceLE, n14, e15, g16, n20, e21, g22]; rfl) rfl ?_
              refine p_end (by simp (disch := (apply Apart.mk; decide)) only [go_sem, Nat.reduceAdd, Nat.reduceLT, Nat.reduceMul, Nat.reduceLeDiff, Nat.lt_irrefl, Int.reduceToNat, Int.reduceLT, Int.reduceLE, n14, e15, g16, n20, e21, g22]) ?_
              refine (w_n ?_)
              refine w_block ?_
              refine w_Loop (fun x : (Int × Int) => ⟨[(1, .cv (.val (.str (bs word)))), (2, .cv (.val (.ptr (some (h.n + 0, 0))))), (6, .cv (.val (.sl (List.map eI r.1)))), (8, .cv (.val (.sl (List.map eI r1.1)))), (10, .cv (.val (.int .i64 x.1))), (11, .cv (.val (.int .i64 v1))), (43, .cv (.val (.int .i64 (word.length : Int)))), (44, .cv (.val (.int .i64 v1))), (64, .cv (.val (.sl (List.map eEdge xs)))), (65, .cv (.val (.int .i64 (xs.length : Int)))), (66, .cv (.val (.int .i64 x.2)))], h.on [some (.cells [.val (.sl (List.map eB g.Final)), .val (.sl (List.map (eL eEdge) g.Edges))])]⟩) hr (To.cut hwf (Nat.le_refl _) rfl (by simp (disch := (apply Apart.mk; decide)) only [go_sem, Nat.reduceAdd, Nat.reduceLT, Nat.reduceMul, Nat.reduceLeDiff, Nat.lt_irrefl, Int.reduceToNat, Int.reduceLT, Int.reduceLE, c2, c12, c13])) (fun W2 x hr => ?_)
              obtain ⟨n6, v2⟩ := x
              dsimp only [dawg_Number.b2] at hr
              refine w_seq ?_
              refine w_region rfl (by simp (disch := (apply Apart.mk; decide)) only [go_sem, Nat.reduceAdd, Nat.reduceLT, Nat.reduceMul, Nat.reduceLeDiff, Nat.lt_irrefl, Int.reduceToNat, Int.reduceLT, Int.reduceLE, c2, c12, c13]; rfl) ?_
              refine (w_n ?_)
              refine w_seq ?_
              refine w_condH (by simp (disch := (apply Apart.mk; decide)) only [go_sem, Nat.reduceAdd, Nat.reduceLT, Nat.reduceMul, Nat.reduceLeDiff, Nat.lt_irrefl, Int.reduceToNat, Int.reduceLT, Int.reduceLE, c2, c12, c13]) hr (fun c23 hr => ?_) (fun c23 hr => ?_)
              · refine w_skip ?_
                refine (w_n ?_)
                refine w_seq ?_
                refine w_K (D := (Aft W2 (Aft W1 D))) (fun x : Int => ⟨[(1, .cv (.val (.str (bs word)))), (2, .cv (.val (.ptr (some (h.n + 0, 0))))), (6, .cv (.val (.sl (List.map eI r.1)))), (8, .cv (.val (.sl (List.map eI r1.1)))), (10, .cv (.val (.int .i64 x))), (11, .cv (.val (.int .i64 v1))), (43, .cv (.val (.int .i64 (word.length : Int)))), (44, .cv (.val (.int .i64 v1))), (64, .cv (.val (.sl (List.map eEdge xs)))), (65, .cv (.val (.int .i64 (xs.length : Int)))), (66, .cv (.val (.int .i64 v2)))], h.on [some (.cells [.val (.sl (List.map eB g.Final)), .val (.sl (List.map (eL eEdge) g.Edges))])]⟩) (fun x : Int => dawg_Number.k4 v2 x) (fun x s' hr ht => ?_) ?_
                · obtain ⟨n7, rfl⟩ : ∃ z, z = x := ⟨x, rfl⟩
                  dsimp only [dawg_Number.k4] at hr ht
                  refine (w_nT ht ?_)
                  refine w_region rfl (by simp (disch := (apply Apart.mk; decide)) only [go_sem, Nat.reduceAdd, Nat.reduceLT, Nat.reduceMul, Nat.reduceLeDiff, Nat.lt_irrefl, Int.reduceToNat, Int.reduceLT, Int.reduceLE, c2, c12, c13, c23]; rfl) ?_
                  exact (w_k ⟨(n7, (IntKind.i64.wrap (v2 + (1 : Int)))), hr, (To.cut hwf (Nat.le_refl _) rfl (by simp (disch := (apply Apart.mk; decide)) only [go_sem, Nat.reduceAdd, Nat.reduceLT, Nat.reduceMul, Nat.reduceLeDiff, Nat.lt_irrefl, Int.reduceToNat, Int.reduceLT, Int.reduceLE, c2, c12, c13, c23]))⟩)
                · refine w_block ?_
                  refine w_seq ?_
                  obtain ⟨x, n24, e25, g26, hr⟩ := hr.idx
                  refine w_region rfl (by simp (disch := (apply Apart.mk; decide)) only [go_sem, Nat.reduceAdd, Nat.reduceLT, Nat.reduceMul, Nat.reduceLeDiff, Nat.lt_irrefl, Int.reduceToNat, Int.reduceLT, Int.reduceLE, n24, e25, g26, c2, c12, c13, c23]; rfl) ?_
                  refine (w_n ?_)
                  refine w_seq ?_
                  refine w_drawn [0, 1, 2, 3, 4, 5] (by rfl) ?_
                  obtain ⟨c, n27, e28, g29, hr⟩ := hr.idx
                  refine p_run (l := [0, 1, 2, 3, 4, 5]) (pend' := [5, 4, 3, 2, 1, 0]) (by simp (disch := (apply Apart.mk; decide)) only [go_sem, Nat.reduceAdd, Nat.reduceLT, Nat.reduceMul, Nat.reduceLeDiff, Nat.lt_irrefl, Int.reduceToNat, Int.reduceLT, Int.reduceLE, n27, e28, g29]; rfl) rfl ?_
                  refine p_end (by simp (disch := (apply Apart.mk; decide)) only [go_sem, Nat.reduceAdd, Nat.reduceLT, Nat.reduceMul, Nat.reduceLeDiff, Nat.lt_irrefl, Int.reduceToNat, Int.reduceLT, Int.reduceLE, n27, e28, g29]) ?_
                  refine (w_n ?_)
                  refine w_condH (by simp (disch := (apply Apart.mk; decide)) only [go_sem, Nat.reduceAdd, Nat.reduceLT, Nat.reduceMul, Nat.reduceLeDiff, Nat.lt_irrefl, Int.reduceToNat, Int.reduceLT, Int.reduceLE, c2, c12, c13, c23]) hr (fun c30 hr => ?_) (fun c30 hr => ?_)
                  · obtain ⟨n8, n31, e32, g33, hr⟩ := hr.idx
                    refine w_region rfl (by simp (disch := (apply Apart.mk; decide)) only [go_sem, Nat.reduceAdd, Nat.reduceLT, Nat.reduceMul, Nat.reduceLeDiff, Nat.lt_irrefl, Int.reduceToNat, Int.reduceLT, Int.reduceLE, n31, e32, g33, c2, c12, c13, c23, c30]; rfl) ?_
                    exact (w_bn (w_k ⟨(IntKind.i64.wrap (n6 + n8)), hr, (To.cut hwf (Nat.le_refl _) rfl (by simp (disch := (apply Apart.mk; decide)) only [go_sem, Nat.reduceAdd, Nat.reduceLT, Nat.reduceMul, Nat.reduceLeDiff, Nat.lt_irrefl, Int.reduceToNat, Int.reduceLT, Int.reduceLE, c2, c12, c13, c23, c30]))⟩))
                  · refine w_skip ?_
                    exact (w_bn (w_k ⟨n6, hr, (To.cut hwf (Nat.le_refl _) rfl (by simp (disch := (apply Apart.mk; decide)) only [go_sem, Nat.reduceAdd, Nat.reduceLT, Nat.reduceMul, Nat.reduceLeDiff, Nat.lt_irrefl, Int.reduceToNat, Int.reduceLT, Int.reduceLE, c2, c12, c13, c23, c30]))⟩))
              · refine w_exit ?_
                exact (w_te (w_te (w_bx (w_bn (w_k ⟨n6, (hr).map, (To.cut hwf (Nat.le_refl _) rfl (by simp (disch := (apply Apart.mk; decide)) only [go_sem, Nat.reduceAdd, Nat.reduceLT, Nat.reduceMul, Nat.reduceLeDiff, Nat.lt_irrefl, Int.reduceToNat, Int.reduceLT, Int.reduceLE, c2, c12, c13, c23]))⟩)))))
            · refine w_condH (by simp (disch := (apply Apart.mk; decide)) only [go_sem, Nat.reduceAdd, Nat.reduceLT, Nat.reduceMul, Nat.reduceLeDiff, Nat.lt_irrefl, Int.reduceToNat, Int.reduceLT, Int.reduceLE, c2, c12, c13]) hr (fun c34 hr => ?_) (fun c34 hr => ?_)
              · refine w_region rfl (by simp (disch := (apply Apart.mk; decide)) only [go_sem, Nat.reduceAdd, Nat.reduceLT, Nat.reduceMul, Nat.reduceLeDiff, Nat.lt_irrefl, Int.reduceToNat, Int.reduceLT, Int.reduceLE, c2, c12, c13, c34]; rfl) ?_
                exact (w_k ⟨(IntKind.i64.wrap (n2 + (1 : Int))), hr, (To.cut hwf (Nat.le_refl _) rfl (by simp (disch := (apply Apart.mk; decide)) only [go_sem, Nat.reduceAdd, Nat.reduceLT, Nat.reduceMul, Nat.reduceLeDiff, Nat.lt_irrefl, Int.reduceToNat, Int.reduceLT, Int.reduceLE, c2, c12, c13, c34]))⟩)
              · refine w_skip ?_
                exact (w_k ⟨n2, hr, (To.cut hwf (Nat.le_refl _) rfl (by simp (disch := (apply Apart.mk; decide)) only [go_sem, Nat.reduceAdd, Nat.reduceLT, Nat.reduceMul, Nat.reduceLeDiff, Nat.lt_irrefl, Int.reduceToNat, Int.reduceLT, Int.reduceLE, c2, c12, c13, c34]))⟩)
        · refine w_exit ?_
          exact (w_te (w_te (w_bx (w_k ⟨n2, (hr).map, (To.cut hwf (Nat.le_refl _) rfl (by simp (disch := (apply Apart.mk; decide)) only [go_sem, Nat.reduceAdd, Nat.reduceLT, Nat.reduceMul, Nat.reduceLeDiff, Nat.lt_irrefl, Int.reduceToNat, Int.reduceLT, Int.reduceLE, c2, c12, c13]))⟩))))
end Go.Val

/- part GW38 -/
/- scansion/dawg.Word runs as it is read off. -/
namespace Go.Val
set_option linter.unusedVariables false
set_option linter.unusedSimpArgs false
set_option maxRecDepth 20000
open Go.Proofs
theorem dawg_Word_runs (g : TGraph) (n : Int) {h : Heap} {a : (Str × Int)} (e : dawg_Word g n = some a) :
    Runs CT 38 [.cv (.val (.agg [.sl (List.map eB g.Final), .sl (List.map (eL eEdge) g.Edges)])), .cv (.val (.int .i64 n))] h fun o h' => o = [.cv (.val (.str (bs a.1))), .cv (.val (.int .i64 a.2))] ∧ h' = h := by
  refine Runs.start Try.f38 _ Try.func38 rfl (by rw [Try.ntmps38]; simp) (by rfl) (by rfl) (fun hwf hu => ?_)
  obtain ⟨D, hD, hr⟩ : ∃ D : (Str × Int) → Prop, (∀ z, D z → z = a) ∧ Holds (dawg_Word g n) D := ⟨fun z => z = a, fun _ h => h, Holds.intro e rfl⟩
  dsimp only [dawg_Word] at hr
  change wpCode _ _ _ _ _ ⟨[(0, .cv (.val (.agg [.sl (List.map eB g.Final), .sl (List.map (eL eEdge) g.Edges)]))), (1, .cv (.val (.int .i64 n)))], h.on []⟩
  refine w_seq ?_
  refine w_region rfl (by simp (disch := (apply Apart.mk; decide)) only [go_sem, Nat.reduceAdd, Nat.reduceLT, Nat.reduceMul, Nat.reduceLeDiff, Nat.lt_irrefl, Int.reduceToNat, Int.reduceLT, Int.reduceLE]; rfl) ?_
  refine (w_n ?_)
  refine w_seq ?_
  refine w_ops rfl ?_
  refine w_upto 1 rfl (by simp (disch := (apply Apart.mk; decide)) only [go_sem, Nat.reduceAdd, Nat.reduceLT, Nat.reduceMul, Nat.reduceLeDiff, Nat.lt_irrefl, Int.reduceToNat, Int.reduceLT, Int.reduceLE]; rfl) ?_
  obtain ⟨r, e1, hr⟩ := hr.bind
  refine w_call' (out := ?o_e1) (hp := ?p_e1) rfl (by simp (disch := (apply Apart.mk; decide)) only [go_sem, Nat.reduceAdd, Nat.reduceLT, Nat.reduceMul, Nat.reduceLeDiff, Nat.lt_irrefl, Int.reduceToNat, Int.reduceLT, Int.reduceLE, Option.getD_some]; rfl) (by simp (disch := (apply Apart.mk; decide)) only [go_sem, Nat.reduceAdd, Nat.reduceLT, Nat.reduceMul, Nat.reduceLeDiff, Nat.lt_irrefl, Int.reduceToNat, Int.reduceLT, Int.reduceLE, Option.getD_some]; rfl) (by simp (disch := (apply Apart.mk; decide)) only [go_sem, Nat.reduceAdd, Nat.reduceLT, Nat.reduceMul, Nat.reduceLeDiff, Nat.lt_irrefl, Int.reduceToNat, Int.reduceLT, Int.reduceLE, Option.getD_some]; rfl) ?c_e1 ?d_e1 ?_
  case c_e1 => exact dawg_Count_runs g e1
  case d_e1 => rfl
  refine w_ops_end (by simp (disch := (apply Apart.mk; decide)) only [go_sem, Nat.reduceAdd, Nat.reduceLT, Nat.reduceMul, Nat.reduceLeDiff, Nat.lt_irrefl, Int.reduceToNat, Int.reduceLT, Int.reduceLE]; rfl) ?_
  refine (w_n ?_)
  refine w_seq ?_
  refine w_seq ?_
  refine w_region rfl (by simp (disch := (apply Apart.mk; decide)) only [go_sem, Nat.reduceAdd, Nat.reduceLT, Nat.reduceMul, Nat.reduceLeDiff, Nat.lt_irrefl, Int.reduceToNat, Int.reduceLT, Int.reduceLE]; rfl) ?_
  refine (w_n ?_)
  refine w_condH (by simp (disch := (apply Apart.mk; decide)) only [go_sem, Nat.reduceAdd, Nat.reduceLT, Nat.reduceMul, Nat.reduceLeDiff, Nat.lt_irrefl, Int.reduceToNat, Int.reduceLT, Int.reduceLE]) hr (fun c2 hr => ?_) (fun c2 hr => ?_)
  · refine w_seq ?_
    refine w_region rfl (by simp (disch := (apply Apart.mk; decide)) only [go_sem, Nat.reduceAdd, Nat.reduceLT, Nat.reduceMul, Nat.reduceLeDiff, Nat.lt_irrefl, Int.reduceToNat, Int.reduceLT, Int.reduceLE, c2]; rfl) ?_
    refine (w_n ?_)
    refine w_ret ?_
    obtain rfl := hD _ hr
    exact (w_tr (w_endR (To.cut (os' := []) (sl := [(4, .cv (.val (.str (bs ([] : Str))))), (5, .cv (.val (.int .i64 r.2)))]) hwf (Nat.le_refl _) rfl (by simp (disch := (apply Apart.mk; decide)) only [go_sem, Nat.reduceAdd, Nat.reduceLT, Nat.reduceMul, Nat.reduceLeDiff, Nat.lt_irrefl, Int.reduceToNat, Int.reduceLT, Int.reduceLE, c2])) (by simp (disch := (apply Apart.mk; decide)) only [go_sem, Nat.reduceAdd, Nat.reduceLT, Nat.reduceMul, Nat.reduceLeDiff, Nat.lt_irrefl, Int.reduceToNat, Int.reduceLT, Int.reduceLE, Try.results38, results_data CT_gives38, resCell, resVal.eq_2, loadOp_sv, c2]) ⟨rfl, on_nil hwf⟩))
  · refine w_skip ?_
    refine (w_n ?_)
    refine w_seq ?_
    refine w_region rfl (by simp (disch := (apply Apart.mk; decide)) only [go_sem, Nat.reduceAdd, Nat.reduceLT, Nat.reduceMul, Nat.reduceLeDiff, Nat.lt_irrefl, Int.reduceToNat, Int.reduceLT, Int.reduceLE, c2]; rfl) ?_
    refine (w_n ?_)
    refine w_seq ?_
    obtain ⟨v, v7, hr⟩ := hr.bind
    refine w_joinR (sj := ⟨[(1, .cv (.val (.int .i64 n))), (2, .cv (.val (.ptr (some (h.n + 0, 0))))), (6, .cv (.val (.sl (List.map eI r.1)))), (8, .cv (.val (.int .i64 (IntKind.i64.wrap ((r.1.length : Int) - (1 : Int)))))), (32, .cv (.val (.bool v)))], h.on [some (.cells [.val (.sl (List.map eB g.Final)), .val (.sl (List.map (eL eEdge) g.Edges))])]⟩) (w_ops rfl ?_) ?_
    · have hr := Holds.intro (D := fun z => z = v) v7 rfl
      refine w_upto 3 rfl (by simp (disch := (apply Apart.mk; decide)) only [go_sem, Nat.reduceAdd, Nat.reduceLT, Nat.reduceMul, Nat.reduceLeDiff, Nat.lt_irrefl, Int.reduceToNat, Int.reduceLT, Int.reduceLE]; rfl) ?_
      rcases hr.ite with ⟨c3, hr⟩ | ⟨c3, hr⟩
      · refine w_ops_end (by simp (disch := (apply Apart.mk; decide)) only [go_sem, Nat.reduceAdd, Nat.reduceLT, Nat.reduceMul, Nat.reduceLeDiff, Nat.lt_irrefl, Int.reduceToNat, Int.reduceLT, Int.reduceLE, c3]; rfl) ?_
        obtain rfl : _ = v := hr
        exact w_k (To.cut hwf (Nat.le_refl _) rfl (by simp (disch := (apply Apart.mk; decide)) only [go_sem, Nat.reduceAdd, Nat.reduceLT, Nat.reduceMul, Nat.reduceLeDiff, Nat.lt_irrefl, Int.reduceToNat, Int.reduceLT, Int.reduceLE, c2, c3]))
      · obtain ⟨n1, n4, e5, g6, hr⟩ := hr.idx
        refine w_ops_end (by simp (disch := (apply Apart.mk; decide)) only [go_sem, Nat.reduceAdd, Nat.reduceLT, Nat.reduceMul, Nat.reduceLeDiff, Nat.lt_irrefl, Int.reduceToNat, Int.reduceLT, Int.reduceLE, c3, n4, e5, g6]; rfl) ?_
        obtain rfl : _ = v := hr
        exact w_k (To.cut hwf (Nat.le_refl _) rfl (by simp (disch := (apply Apart.mk; decide)) only [go_sem, Nat.reduceAdd, Nat.reduceLT, Nat.reduceMul, Nat.reduceLeDiff, Nat.lt_irrefl, Int.reduceToNat, Int.reduceLT, Int.reduceLE, c2, c3]))
    refine w_condH (by simp (disch := (apply Apart.mk; decide)) only [go_sem, Nat.reduceAdd, Nat.reduceLT, Nat.reduceMul, Nat.reduceLeDiff, Nat.lt_irrefl, Int.reduceToNat, Int.reduceLT, Int.reduceLE, c2]) hr (fun c8 hr => ?_) (fun c8 hr => ?_)
    · refine w_seq ?_
      refine w_region rfl (by simp (disch := (apply Apart.mk; decide)) only [go_sem, Nat.reduceAdd, Nat.reduceLT, Nat.reduceMul, Nat.reduceLeDiff, Nat.lt_irrefl, Int.reduceToNat, Int.reduceLT, Int.reduceLE, c2, c8]; rfl) ?_
      refine (w_n ?_)
      refine w_ret ?_
      obtain rfl := hD _ hr
      exact (w_tr (w_endR (To.cut (os' := []) (sl := [(4, .cv (.val (.str (bs ([] : Str))))), (5, .cv (.val (.int .i64 (4 : Int))))]) hwf (Nat.le_refl _) rfl (by simp (disch := (apply Apart.mk; decide)) only [go_sem, Nat.reduceAdd, Nat.reduceLT, Nat.reduceMul, Nat.reduceLeDiff, Nat.lt_irrefl, Int.reduceToNat, Int.reduceLT, Int.reduceLE, c2, c8])) (by simp (disch := (apply Apart.mk; decide)) only [go_sem, Nat.reduceAdd, Nat.reduceLT, Nat.reduceMul, Nat.reduceLeDiff, Nat.lt_irrefl, Int.reduceToNat, Int.reduceLT, Int.reduceLE, Try.results38, results_data CT_gives38, resCell, resVal.eq_2, loadOp_sv, c2, c8]) ⟨rfl, on_nil hwf⟩))
    · refine w_skip ?_
      refine (w_n ?_)
      refine w_seq ?_
      refine w_region rfl (by simp (disch := (apply Apart.mk; decide)) only [go_sem, Nat.reduceAdd, Nat.reduceLT, Nat.reduceMul, Nat.reduceLeDiff, Nat.lt_irrefl, Int.reduceToNat, Int.reduceLT, Int.reduceLE, c2, c8]; rfl) ?_
      refine (w_n ?_)
      refine w_block ?_
      refine w_Loop (fun x : (Int × Int × List UInt8) => ⟨[(1, .cv (.val (.int .i64 x.1))), (2, .cv (.val (.ptr (some (h.n + 0, 0))))), (6, .cv (.val (.sl (List.map eI r.1)))), (8, .cv (.val (.int .i64 x.2.1))), (9, .cv (.row 5 (List.map eU x.2.2)))], h.on [some (.cells [.val (.sl (List.map eB g.Final)), .val (.sl (List.map (eL eEdge) g.Edges))])]⟩) hr (To.cut hwf (Nat.le_refl _) rfl (by simp (disch := (apply Apart.mk; decide)) only [go_sem, Nat.reduceAdd, Nat.reduceLT, Nat.reduceMul, Nat.reduceLeDiff, Nat.lt_irrefl, Int.reduceToNat, Int.reduceLT, Int.reduceLE, c2, c8])) (fun W1 x hr => ?_)
      obtain ⟨n2, s, word⟩ := x
      dsimp only [dawg_Word.b1] at hr
      refine w_K (D := (Aft W1 D)) (fun x : (Int × Int × List UInt8) => ⟨[(1, .cv (.val (.int .i64 x.1))), (2, .cv (.val (.ptr (some (h.n + 0, 0))))), (6, .cv (.val (.sl (List.map eI r.1)))), (8, .cv (.val (.int .i64 x.2.1))), (9, .cv (.row 5 (List.map eU x.2.2)))], h.on [some (.cells [.val (.sl (List.map eB g.Final)), .val (.sl (List.map (eL eEdge) g.Edges))])]⟩) (fun x : (Int × Int × List UInt8) => dawg_Word.k1 x.1 x.2.1 x.2.2) (fun x s' hr ht => ?_) ?_
      · obtain ⟨n3, s1, word1⟩ := x
        dsimp only [dawg_Word.k1] at hr ht
        exact (w_k ⟨(n3, s1, word1), hr, (To.trans ht (To.cut hwf (Nat.le_refl _) rfl (by simp (disch := (apply Apart.mk; decide)) only [go_sem, Nat.reduceAdd, Nat.reduceLT, Nat.reduceMul, Nat.reduceLeDiff, Nat.lt_irrefl, Int.reduceToNat, Int.reduceLT, Int.reduceLE, c2, c8])))⟩)
      · refine w_block ?_
        refine w_seq ?_
        refine w_seq ?_
        obtain ⟨b, n9, e10, g11, hr⟩ := hr.idx
        refine w_region rfl (by simp (disch := (apply Apart.mk; decide)) only [go_sem, Nat.reduceAdd, Nat.reduceLT, Nat.reduceMul, Nat.reduceLeDiff, Nat.lt_irrefl, Int.reduceToNat, Int.reduceLT, Int.reduceLE, n9, e10, g11, c2, c8]; rfl) ?_
        refine (w_n ?_)
        refine w_K (D := (Aft W1 D)) (fun x : Int => ⟨[(1, .cv (.val (.int .i64 x))), (2, .cv (.val (.ptr (some (h.n + 0, 0))))), (6, .cv (.val (.sl (List.map eI r.1)))), (8, .cv (.val (.int .i64 s))), (9, .cv (.row 5 (List.map eU word)))], h.on [some (.cells [.val (.sl (List.map eB g.Final)), .val (.sl (List.map (eL eEdge) g.Edges))])]⟩) (fun x : Int => dawg_Word.k2 g r s word x) (fun x s' hr ht => ?_) ?_
        · obtain ⟨n4, rfl⟩ : ∃ z, z = x := ⟨x, rfl⟩
          dsimp only [dawg_Word.k2] at hr ht
          refine (w_nT ht ?_)
          refine w_seq ?_
          obtain ⟨xs, n12, e13, g14, hr⟩ := hr.idx
          refine w_region rfl (by simp (disch := (apply Apart.mk; decide)) only [go_sem, Nat.reduceAdd, Nat.reduceLT, Nat.reduceMul, Nat.reduceLeDiff, Nat.lt_irrefl, Int.reduceToNat, Int.reduceLT, Int.reduceLE, n12, e13, g14, c2, c8]; rfl) ?_
          refine (w_n ?_)
          refine w_block ?_
          refine w_Loop (fun x : (Int × Int) => ⟨[(1, .cv (.val (.int .i64 x.1))), (2, .cv (.val (.ptr (some (h.n + 0, 0))))), (6, .cv (.val (.sl (List.map eI r.1)))), (8, .cv (.val (.int .i64 s))), (9, .cv (.row 5 (List.map eU word))), (48, .cv (.val (.sl (List.map eEdge xs)))), (49, .cv (.val (.int .i64 (xs.length : Int)))), (50, .cv (.val (.int .i64 x.2)))], h.on [some (.cells [.val (.sl (List.map eB g.Final)), .val (.sl (List.map (eL eEdge) g.Edges))])]⟩) hr (To.cut hwf (Nat.le_refl _) rfl (by simp (disch := (apply Apart.mk; decide)) only [go_sem, Nat.reduceAdd, Nat.reduceLT, Nat.reduceMul, Nat.reduceLeDiff, Nat.lt_irrefl, Int.reduceToNat, Int.reduceLT, Int.reduceLE, c2, c8])) (fun W2 x hr => ?_)
          obtain ⟨n5, v1⟩ := x
          dsimp only [dawg_Word.b2] at hr
          refine w_seq ?_
          refine w_region rfl (by simp (disch := (apply Apart.mk; decide)) only [go_sem, Nat.reduceAdd, Nat.reduceLT, Nat.reduceMul, Nat.reduceLeDiff, Nat.lt_irrefl, Int.reduceToNat, Int.reduceLT, Int.reduceLE, c2, c8]; rfl) ?_
          refine (w_n ?_)
          refine w_seq ?_
          refine w_condH (by simp (disch := (apply Apart.mk; decide)) only [go_sem, Nat.reduceAdd, Nat.reduceLT, Nat.reduceMul, Nat.reduceLeDiff, Nat.lt_irrefl, Int.reduceToNat, Int.reduceLT, Int.reduceLE, c2, c8]) hr (fun c15 hr => ?_) (fun c15 hr => ?_)
          · refine w_skip ?_
            refine (w_n ?_)
            refine w_seq ?_
            refine w_block ?_
            refine w_seq ?_
            obtain ⟨x, n16, e17, g18, hr⟩ := hr.idx
            refine w_region rfl (by simp (disch := (apply Apart.mk; decide)) only [go_sem, Nat.reduceAdd, Nat.reduceLT, Nat.reduceMul, Nat.reduceLeDiff, Nat.lt_irrefl, Int.reduceToNat, Int.reduceLT, Int.reduceLE, n16, e17, g18, c2, c8, c15]; rfl) ?_
            refine (w_n ?_)
            refine w_seq ?_
            refine w_seq ?_
            obtain ⟨n6, n19, e20, g21, hr⟩ := hr.idx
            refine w_region rfl (by simp (disch := (apply Apart.mk; decide)) only [go_sem, Nat.reduceAdd, Nat.reduceLT, Nat.reduceMul, Nat.reduceLeDiff, Nat.lt_irrefl, Int.reduceToNat, Int.reduceLT, Int.reduceLE, n19, e20, g21, c2, c8, c15]; rfl) ?_
            refine (w_n ?_)
            refine w_condH (by simp (disch := (apply Apart.mk; decide)) only [go_sem, Nat.reduceAdd, Nat.reduceLT, Nat.reduceMul, Nat.reduceLeDiff, Nat.lt_irrefl, Int.reduceToNat, Int.reduceLT, Int.reduceLE, c2, c8, c15]) hr (fun c22 hr => ?_) (fun c22 hr => ?_)
            · refine w_seq ?_
              refine w_drawn [0, 1, 2, 3, 5, 6, 4, 7, 8] (by rfl) ?_
              obtain ⟨n23, hr⟩ := hr.room
              refine p_run (l := [0, 1, 2, 3, 5, 6]) (pend' := [6, 5, 3, 2, 1, 0]) (by simp (disch := (apply Apart.mk; decide)) only [go_sem, Nat.reduceAdd, Nat.reduceLT, Nat.reduceMul, Nat.reduceLeDiff, Nat.lt_irrefl, Int.reduceToNat, Int.reduceLT, Int.reduceLE, n23]; rfl) rfl ?_
              refine p_op (pend' := [6, 5]) rfl (by simp (disch := (apply Apart.mk; decide)) only [go_sem, Nat.reduceAdd, Nat.reduceLT, Nat.reduceMul, Nat.reduceLeDiff, Nat.lt_irrefl, Int.reduceToNat, Int.reduceLT, Int.reduceLE, n23]) (by simp (disch := (apply Apart.mk; decide)) only [go_sem, Nat.reduceAdd, Nat.reduceLT, Nat.reduceMul, Nat.reduceLeDiff, Nat.lt_irrefl, Int.reduceToNat, Int.reduceLT, Int.reduceLE, n23]; rfl) (by rfl) ?_
              refine p_op (pend' := [6, 5]) rfl (by simp (disch := (apply Apart.mk; decide)) only [go_sem, Nat.reduceAdd, Nat.reduceLT, Nat.reduceMul, Nat.reduceLeDiff, Nat.lt_irrefl, Int.reduceToNat, Int.reduceLT, Int.reduceLE, n23]) (by simp (disch := (apply Apart.mk; decide)) only [go_sem, Nat.reduceAdd, Nat.reduceLT, Nat.reduceMul, Nat.reduceLeDiff, Nat.lt_irrefl, Int.reduceToNat, Int.reduceLT, Int.reduceLE, n23]; rfl) (by rfl) ?_
              refine p_op (pend' := []) rfl (by simp (disch := (apply Apart.mk; decide)) only [go_sem, Nat.reduceAdd, Nat.reduceLT, Nat.reduceMul, Nat.reduceLeDiff, Nat.lt_irrefl, Int.reduceToNat, Int.reduceLT, Int.reduceLE, n23]) (by simp (disch := (apply Apart.mk; decide)) only [go_sem, Nat.reduceAdd, Nat.reduceLT, Nat.reduceMul, Nat.reduceLeDiff, Nat.lt_irrefl, Int.reduceToNat, Int.reduceLT, Int.reduceLE, n23]; rfl) (by rfl) ?_
              refine p_end (by simp (disch := (apply Apart.mk; decide)) only [go_sem, Nat.reduceAdd, Nat.reduceLT, Nat.reduceMul, Nat.reduceLeDiff, Nat.lt_irrefl, Int.reduceToNat, Int.reduceLT, Int.reduceLE, n23]) ?_
              refine (w_n ?_)
              refine w_exit ?_
              exact (w_te (w_bo (w_te (w_te (w_bx (w_bn (w_k ⟨(n5, x.To, (word ++ ([x.Label]))), (hr).map, (To.cut hwf (Nat.le_refl _) rfl (by simp (disch := (apply Apart.mk; decide)) only [go_sem, Nat.reduceAdd, Nat.reduceLT, Nat.reduceMul, Nat.reduceLeDiff, Nat.lt_irrefl, Int.reduceToNat, Int.reduceLT, Int.reduceLE, c2, c8, c15, c22]))⟩))))) rfl))
            · refine w_skip ?_
              refine (w_n ?_)
              refine w_region rfl (by simp (disch := (apply Apart.mk; decide)) only [go_sem, Nat.reduceAdd, Nat.reduceLT, Nat.reduceMul, Nat.reduceLeDiff, Nat.lt_irrefl, Int.reduceToNat, Int.reduceLT, Int.reduceLE, n19, e20, g21, c2, c8, c15, c22]; rfl) ?_
              refine (w_bn (w_n ?_))
              refine w_region rfl (by simp (disch := (apply Apart.mk; decide)) only [go_sem, Nat.reduceAdd, Nat.reduceLT, Nat.reduceMul, Nat.reduceLeDiff, Nat.lt_irrefl, Int.reduceToNat, Int.reduceLT, Int.reduceLE, c2, c8, c15, c22]; rfl) ?_
              exact (w_k ⟨((IntKind.i64.wrap (n5 - n6)), (IntKind.i64.wrap (v1 + (1 : Int)))), hr, (To.cut hwf (Nat.le_refl _) rfl (by simp (disch := (apply Apart.mk; decide)) only [go_sem, Nat.reduceAdd, Nat.reduceLT, Nat.reduceMul, Nat.reduceLeDiff, Nat.lt_irrefl, Int.reduceToNat, Int.reduceLT, Int.reduceLE, c2, c8, c15, c22]))⟩)
          · refine w_exit ?_
            exact (w_te (w_te (w_bx (w_bn (w_k ⟨(n5, s, word), (hr).map, (To.cut hwf (Nat.le_refl _) rfl (by simp (disch := (apply Apart.mk; decide)) only [go_sem, Nat.reduceAdd, Nat.reduceLT, Nat.reduceMul, Nat.reduceLeDiff, Nat.lt_irrefl, Int.reduceToNat, Int.reduceLT, Int.reduceLE, c2, c8, c15]))⟩)))))
        · refine w_condH (by simp (disch := (apply Apart.mk; decide)) only [go_sem, Nat.reduceAdd, Nat.reduceLT, Nat.reduceMul, Nat.reduceLeDiff, Nat.lt_irrefl, Int.reduceToNat, Int.reduceLT, Int.reduceLE, c2, c8]) hr (fun c24 hr => ?_) (fun c24 hr => ?_)
          · refine w_seq ?_
            refine w_seq ?_
            refine w_region rfl (by simp (disch := (apply Apart.mk; decide)) only [go_sem, Nat.reduceAdd, Nat.reduceLT, Nat.reduceMul, Nat.reduceLeDiff, Nat.lt_irrefl, Int.reduceToNat, Int.reduceLT, Int.reduceLE, c2, c8, c24]; rfl) ?_
            refine (w_n ?_)
            refine w_condH (by simp (disch := (apply Apart.mk; decide)) only [go_sem, Nat.reduceAdd, Nat.reduceLT, Nat.reduceMul, Nat.reduceLeDiff, Nat.lt_irrefl, Int.reduceToNat, Int.reduceLT, Int.reduceLE, c2, c8, c24]) hr (fun c25 hr => ?_) (fun c25 hr => ?_)
            · refine w_seq ?_
              refine w_region rfl (by simp (disch := (apply Apart.mk; decide)) only [go_sem, Nat.reduceAdd, Nat.reduceLT, Nat.reduceMul, Nat.reduceLeDiff, Nat.lt_irrefl, Int.reduceToNat, Int.reduceLT, Int.reduceLE, c2, c8, c24, c25]; rfl) ?_
              refine (w_n ?_)
              refine w_ret ?_
              obtain rfl := hD _ hr
              exact (w_tr (w_tr (w_tr (w_br (w_tr (w_tr (w_br (w_endR (To.cut (os' := []) (sl := [(4, .cv (.val (.str (bs word)))), (5, .cv (.val (.int .i64 (0 : Int))))]) hwf (Nat.le_refl _) rfl (by simp (disch := (apply Apart.mk; decide)) only [go_sem, Nat.reduceAdd, Nat.reduceLT, Nat.reduceMul, Nat.reduceLeDiff, Nat.lt_irrefl, Int.reduceToNat, Int.reduceLT, Int.reduceLE, c2, c8, c24, c25])) (by simp (disch := (apply Apart.mk; decide)) only [go_sem, Nat.reduceAdd, Nat.reduceLT, Nat.reduceMul, Nat.reduceLeDiff, Nat.lt_irrefl, Int.reduceToNat, Int.reduceLT, Int.reduceLE, Try.results38, results_data CT_gives38, resCell, resVal.eq_2, loadOp_sv, c2, c8, c24, c25]) ⟨rfl, on_nil hwf⟩))))))))
            · refine w_skip ?_
              refine (w_n ?_)
              refine w_region rfl (by simp (disch := (apply Apart.mk; decide)) only [go_sem, Nat.reduceAdd, Nat.reduceLT, Nat.reduceMul, Nat.reduceLeDiff, Nat.lt_irrefl, Int.reduceToNat, Int.reduceLT, Int.reduceLE, c2, c8, c24, c25]; rfl) ?_
              exact (w_k ⟨(IntKind.i64.wrap (n2 - (1 : Int))), hr, (To.cut hwf (Nat.le_refl _) rfl (by simp (disch := (apply Apart.mk; decide)) only [go_sem, Nat.reduceAdd, Nat.reduceLT, Nat.reduceMul, Nat.reduceLeDiff, Nat.lt_irrefl, Int.reduceToNat, Int.reduceLT, Int.reduceLE, c2, c8, c24, c25]))⟩)
          · refine w_skip ?_
            exact (w_k ⟨n2, hr, (To.cut hwf (Nat.le_refl _) rfl (by simp (disch := (apply Apart.mk; decide)) only [go_sem, Nat.reduceAdd, Nat.reduceLT, Nat.reduceMul, Nat.reduceLeDiff, Nat.lt_irrefl, Int.reduceToNat, Int.reduceLT, Int.reduceLE, c2, c8, c24]))⟩)
end Go.Val

/- part GW71 -/
/- slices.IndexFunc[[]string,string] runs as it is read off. -/
namespace Go.Val
set_option linter.unusedVariables false
set_option linter.unusedSimpArgs false
set_option maxRecDepth 20000
open Go.Proofs
theorem slices_IndexFunc_string_string_runs (s : List Str) (f : Str → Option Bool) (fid_f : FuncId) (caps_f : List DVal) {h : Heap} (h_f : ∀ os x0 r, f x0 = some r → Runs CT fid_f ([.cv (.val (.str (bs x0)))] ++ sval caps_f) (h.on os) fun o h' => o = [.cv (.val (.bool r))] ∧ h' = h.on os) {a : Int} (e : slices_IndexFunc_string_string s f = some a) :
    Runs CT 71 [.cv (.val (.sl (List.map eS s))), .cv (.val (.fn fid_f [] caps_f))] h fun o h' => o = [.cv (.val (.int .i64 a))] ∧ h' = h := by
  refine Runs.start Try.f71 _ Try.func71 rfl (by rw [Try.ntmps71]; simp) (by rfl) (by rfl) (fun hwf hu => ?_)
  have u_f : underL h.n caps_f := (hu (.cv (.val (.fn fid_f [] caps_f))) (by simp)).2
  obtain ⟨D, hD, hr⟩ : ∃ D : Int → Prop, (∀ z, D z → z = a) ∧ Holds (slices_IndexFunc_string_string s f) D := ⟨fun z => z = a, fun _ h => h, Holds.intro e rfl⟩
  dsimp only [slices_IndexFunc_string_string] at hr
  change wpCode _ _ _ _ _ ⟨[(0, .cv (.val (.sl (List.map eS s)))), (1, .cv (.val (.fn fid_f [] caps_f)))], h.on []⟩
  refine w_seq ?_
  refine w_region rfl (by simp (disch := (apply Apart.mk; decide)) only [go_sem, Nat.reduceAdd, Nat.reduceLT, Nat.reduceMul, Nat.reduceLeDiff, Nat.lt_irrefl, Int.reduceToNat, Int.reduceLT, Int.reduceLE, under_add u_f]; rfl) ?_
  refine (w_n ?_)
  refine w_seq ?_
  refine w_seq ?_
  refine w_region rfl (by simp (disch := (apply Apart.mk; decide)) only [go_sem, Nat.reduceAdd, Nat.reduceLT, Nat.reduceMul, Nat.reduceLeDiff, Nat.lt_irrefl, Int.reduceToNat, Int.reduceLT, Int.reduceLE, under_add u_f]; rfl) ?_
  refine (w_n ?_)
  refine w_K (D := D) (fun x : Unit => ⟨[], h.on []⟩) (fun x : Unit => slices_IndexFunc_string_string.k1) (fun x s' hr ht => ?_) ?_
  · dsimp only [slices_IndexFunc_string_string.k1] at hr ht
    refine (w_nT ht ?_)
    refine w_seq ?_
    refine w_region rfl (by simp (disch := (apply Apart.mk; decide)) only [go_sem, Nat.reduceAdd, Nat.reduceLT, Nat.reduceMul, Nat.reduceLeDiff, Nat.lt_irrefl, Int.reduceToNat, Int.reduceLT, Int.reduceLE, under_add u_f]; rfl) ?_
    refine (w_n ?_)
    refine w_ret ?_
    obtain rfl := hD _ hr
    exact (w_endR (To.cut (os' := []) (sl := [(4, .cv (.val (.int .i64 (-1 : Int))))]) hwf (Nat.le_refl _) rfl (by simp (disch := (apply Apart.mk; decide)) only [go_sem, Nat.reduceAdd, Nat.reduceLT, Nat.reduceMul, Nat.reduceLeDiff, Nat.lt_irrefl, Int.reduceToNat, Int.reduceLT, Int.reduceLE, under_add u_f])) (by simp (disch := (apply Apart.mk; decide)) only [go_sem, Nat.reduceAdd, Nat.reduceLT, Nat.reduceMul, Nat.reduceLeDiff, Nat.lt_irrefl, Int.reduceToNat, Int.reduceLT, Int.reduceLE, under_add u_f, Try.results71, results_data CT_gives71, resCell, resVal.eq_2, loadOp_sv]) ⟨rfl, on_nil hwf⟩)
  · refine w_block ?_
    refine w_Loop (fun x : Int => ⟨[(0, .cv (.val (.sl (List.map eS s)))), (1, .cv (.val (.fn fid_f [] caps_f))), (7, .cv (.val (.int .i64 (s.length : Int)))), (8, .cv (.val (.int .i64 x)))], h.on []⟩) hr (To.cut hwf (Nat.le_refl _) rfl (by simp (disch := (apply Apart.mk; decide)) only [go_sem, Nat.reduceAdd, Nat.reduceLT, Nat.reduceMul, Nat.reduceLeDiff, Nat.lt_irrefl, Int.reduceToNat, Int.reduceLT, Int.reduceLE, under_add u_f])) (fun W1 x hr => ?_)
    obtain ⟨v, rfl⟩ : ∃ z, z = x := ⟨x, rfl⟩
    dsimp only [slices_IndexFunc_string_string.b1] at hr
    refine w_seq ?_
    refine w_region rfl (by simp (disch := (apply Apart.mk; decide)) only [go_sem, Nat.reduceAdd, Nat.reduceLT, Nat.reduceMul, Nat.reduceLeDiff, Nat.lt_irrefl, Int.reduceToNat, Int.reduceLT, Int.reduceLE, under_add u_f]; rfl) ?_
    refine (w_n ?_)
    refine w_seq ?_
    refine w_condH (by simp (disch := (apply Apart.mk; decide)) only [go_sem, Nat.reduceAdd, Nat.reduceLT, Nat.reduceMul, Nat.reduceLeDiff, Nat.lt_irrefl, Int.reduceToNat, Int.reduceLT, Int.reduceLE, under_add u_f]) hr (fun c1 hr => ?_) (fun c1 hr => ?_)
    · refine w_skip ?_
      refine (w_n ?_)
      refine w_seq ?_
      refine w_block ?_
      refine w_seq ?_
      refine w_region rfl (by simp (disch := (apply Apart.mk; decide)) only [go_sem, Nat.reduceAdd, Nat.reduceLT, Nat.reduceMul, Nat.reduceLeDiff, Nat.lt_irrefl, Int.reduceToNat, Int.reduceLT, Int.reduceLE, under_add u_f, c1]; rfl) ?_
      refine (w_n ?_)
      refine w_seq ?_
      refine w_ops rfl ?_
      obtain ⟨s1, n2, e3, g4, hr⟩ := hr.idx
      refine w_upto 5 rfl (by simp (disch := (apply Apart.mk; decide)) only [go_sem, Nat.reduceAdd, Nat.reduceLT, Nat.reduceMul, Nat.reduceLeDiff, Nat.lt_irrefl, Int.reduceToNat, Int.reduceLT, Int.reduceLE, under_add u_f, n2, e3, g4]; rfl) ?_
      obtain ⟨r, e5, hr⟩ := hr.bind
      refine w_call' (out := ?o_e5) (hp := ?p_e5) rfl (by simp (disch := (apply Apart.mk; decide)) only [go_sem, Nat.reduceAdd, Nat.reduceLT, Nat.reduceMul, Nat.reduceLeDiff, Nat.lt_irrefl, Int.reduceToNat, Int.reduceLT, Int.reduceLE, under_add u_f, n2, e3, g4]; rfl) (by simp (disch := (apply Apart.mk; decide)) only [go_sem, Nat.reduceAdd, Nat.reduceLT, Nat.reduceMul, Nat.reduceLeDiff, Nat.lt_irrefl, Int.reduceToNat, Int.reduceLT, Int.reduceLE, under_add u_f, n2, e3, g4]; rfl) (by simp (disch := (apply Apart.mk; decide)) only [go_sem, Nat.reduceAdd, Nat.reduceLT, Nat.reduceMul, Nat.reduceLeDiff, Nat.lt_irrefl, Int.reduceToNat, Int.reduceLT, Int.reduceLE, under_add u_f, n2, e3, g4]; rfl) ?c_e5 ?d_e5 ?_
      case c_e5 => exact h_f _ _ _ e5
      case d_e5 => rfl
      refine w_ops_nil ?_
      refine (w_n ?_)
      refine w_condH (by simp (disch := (apply Apart.mk; decide)) only [go_sem, Nat.reduceAdd, Nat.reduceLT, Nat.reduceMul, Nat.reduceLeDiff, Nat.lt_irrefl, Int.reduceToNat, Int.reduceLT, Int.reduceLE, under_add u_f, c1]) hr (fun c6 hr => ?_) (fun c6 hr => ?_)
      · refine w_seq ?_
        refine w_region rfl (by simp (disch := (apply Apart.mk; decide)) only [go_sem, Nat.reduceAdd, Nat.reduceLT, Nat.reduceMul, Nat.reduceLeDiff, Nat.lt_irrefl, Int.reduceToNat, Int.reduceLT, Int.reduceLE, under_add u_f, c1, c6]; rfl) ?_
        refine (w_n ?_)
        refine w_ret ?_
        obtain rfl := hD _ hr
        exact (w_br (w_tr (w_tr (w_br (w_tr (w_tr (w_endR (To.cut (os' := []) (sl := [(4, .cv (.val (.int .i64 v)))]) hwf (Nat.le_refl _) rfl (by simp (disch := (apply Apart.mk; decide)) only [go_sem, Nat.reduceAdd, Nat.reduceLT, Nat.reduceMul, Nat.reduceLeDiff, Nat.lt_irrefl, Int.reduceToNat, Int.reduceLT, Int.reduceLE, under_add u_f, c1, c6])) (by simp (disch := (apply Apart.mk; decide)) only [go_sem, Nat.reduceAdd, Nat.reduceLT, Nat.reduceMul, Nat.reduceLeDiff, Nat.lt_irrefl, Int.reduceToNat, Int.reduceLT, Int.reduceLE, under_add u_f, Try.results71, results_data CT_gives71, resCell, resVal.eq_2, loadOp_sv, c1, c6]) ⟨rfl, on_nil hwf⟩)))))))
      · refine w_skip ?_
        refine (w_bn (w_n ?_))
        refine w_region rfl (by simp (disch := (apply Apart.mk; decide)) only [go_sem, Nat.reduceAdd, Nat.reduceLT, Nat.reduceMul, Nat.reduceLeDiff, Nat.lt_irrefl, Int.reduceToNat, Int.reduceLT, Int.reduceLE, under_add u_f, c1, c6]; rfl) ?_
        exact (w_k ⟨(IntKind.i64.wrap (v + (1 : Int))), hr, (To.cut hwf (Nat.le_refl _) rfl (by simp (disch := (apply Apart.mk; decide)) only [go_sem, Nat.reduceAdd, Nat.reduceLT, Nat.reduceMul, Nat.reduceLeDiff, Nat.lt_irrefl, Int.reduceToNat, Int.reduceLT, Int.reduceLE, under_add u_f, c1, c6]))⟩)
    · refine w_exit ?_
      exact (w_te (w_te (w_bx (w_k ⟨(), (hr).map, (To.cut hwf (Nat.le_refl _) rfl (by simp (disch := (apply Apart.mk; decide)) only [go_sem, Nat.reduceAdd, Nat.reduceLT, Nat.reduceMul, Nat.reduceLeDiff, Nat.lt_irrefl, Int.reduceToNat, Int.reduceLT, Int.reduceLE, under_add u_f, c1]))⟩))))
end Go.Val

/- part GW70 -/
/- slices.ContainsFunc[[]string,string] runs as it is read off. -/
namespace Go.Val
set_option linter.unusedVariables false
set_option linter.unusedSimpArgs false
set_option maxRecDepth 20000
open Go.Proofs
theorem slices_ContainsFunc_string_string_runs (s : List Str) (f : Str → Option Bool) (fid_f : FuncId) (caps_f : List DVal) {h : Heap} (h_f : ∀ os x0 r, f x0 = some r → Runs CT fid_f ([.cv (.val (.str (bs x0)))] ++ sval caps_f) (h.on os) fun o h' => o = [.cv (.val (.bool r))] ∧ h' = h.on os) {a : Bool} (e : slices_ContainsFunc_string_string s f = some a) :
    Runs CT 70 [.cv (.val (.sl (List.map eS s))), .cv (.val (.fn fid_f [] caps_f))] h fun o h' => o = [.cv (.val (.bool a))] ∧ h' = h := by
  refine Runs.start Try.f70 _ Try.func70 rfl (by rw [Try.ntmps70]; simp) (by rfl) (by rfl) (fun hwf hu => ?_)
  have u_f : underL h.n caps_f := (hu (.cv (.val (.fn fid_f [] caps_f))) (by simp)).2
  obtain ⟨D, hD, hr⟩ : ∃ D : Bool → Prop, (∀ z, D z → z = a) ∧ Holds (slices_ContainsFunc_string_string s f) D := ⟨fun z => z = a, fun _ h => h, Holds.intro e rfl⟩
  dsimp only [slices_ContainsFunc_string_string] at hr
  change wpCode _ _ _ _ _ ⟨[(0, .cv (.val (.sl (List.map eS s)))), (1, .cv (.val (.fn fid_f [] caps_f)))], h.on []⟩
  refine w_seq ?_
  refine w_region rfl (by simp (disch := (apply Apart.mk; decide)) only [go_sem, Nat.reduceAdd, Nat.reduceLT, Nat.reduceMul, Nat.reduceLeDiff, Nat.lt_irrefl, Int.reduceToNat, Int.reduceLT, Int.reduceLE, under_add u_f]; rfl) ?_
  refine (w_n ?_)
  refine w_seq ?_
  refine w_ops rfl ?_
  refine w_upto 2 rfl (by simp (disch := (apply Apart.mk; decide)) only [go_sem, Nat.reduceAdd, Nat.reduceLT, Nat.reduceMul, Nat.reduceLeDiff, Nat.lt_irrefl, Int.reduceToNat, Int.reduceLT, Int.reduceLE, under_add u_f]; rfl) ?_
  obtain ⟨r, e1, hr⟩ := hr.bind
  refine w_call' (out := ?o_e1) (hp := ?p_e1) rfl (by simp (disch := (apply Apart.mk; decide)) only [go_sem, Nat.reduceAdd, Nat.reduceLT, Nat.reduceMul, Nat.reduceLeDiff, Nat.lt_irrefl, Int.reduceToNat, Int.reduceLT, Int.reduceLE, under_add u_f, Option.getD_some]; rfl) (by simp (disch := (apply Apart.mk; decide)) only [go_sem, Nat.reduceAdd, Nat.reduceLT, Nat.reduceMul, Nat.reduceLeDiff, Nat.lt_irrefl, Int.reduceToNat, Int.reduceLT, Int.reduceLE, under_add u_f, Option.getD_some]; rfl) (by simp (disch := (apply Apart.mk; decide)) only [go_sem, Nat.reduceAdd, Nat.reduceLT, Nat.reduceMul, Nat.reduceLeDiff, Nat.lt_irrefl, Int.reduceToNat, Int.reduceLT, Int.reduceLE, under_add u_f, Option.getD_some]; rfl) ?c_e1 ?d_e1 ?_
  case c_e1 => (refine slices_IndexFunc_string_string_runs s f _ _ ?_ e1; (exact (fun os x0 r e => by rw [on_on]; exact h_f _ x0 r e)))
  case d_e1 => rfl
  refine w_ops_end (by simp (disch := (apply Apart.mk; decide)) only [go_sem, Nat.reduceAdd, Nat.reduceLT, Nat.reduceMul, Nat.reduceLeDiff, Nat.lt_irrefl, Int.reduceToNat, Int.reduceLT, Int.reduceLE, under_add u_f]; rfl) ?_
  refine (w_n ?_)
  refine w_ret ?_
  obtain rfl := hD _ hr
  exact (w_endR (To.cut (os' := []) (sl := [(4, .cv (.val (.bool (decide (r ≥ (0 : Int))))))]) hwf (Nat.le_refl _) rfl (by simp (disch := (apply Apart.mk; decide)) only [go_sem, Nat.reduceAdd, Nat.reduceLT, Nat.reduceMul, Nat.reduceLeDiff, Nat.lt_irrefl, Int.reduceToNat, Int.reduceLT, Int.reduceLE, under_add u_f])) (by simp (disch := (apply Apart.mk; decide)) only [go_sem, Nat.reduceAdd, Nat.reduceLT, Nat.reduceMul, Nat.reduceLeDiff, Nat.lt_irrefl, Int.reduceToNat, Int.reduceLT, Int.reduceLE, under_add u_f, Try.results70, results_data CT_gives70, resCell, resVal.eq_2, loadOp_sv]) ⟨rfl, on_nil hwf⟩)
end Go.Val

/- part GW69 -/
/- scansion/dawg.rise$1 runs as it is read off. -/
namespace Go.Val
set_option linter.unusedVariables false
set_option linter.unusedSimpArgs false
set_option maxRecDepth 20000
open Go.Proofs
theorem dawg_rise_1_runs (s : Str) {h : Heap} {a : Bool} (e : dawg_rise_1 s = some a) :
    Runs CT 69 [.cv (.val (.str (bs s)))] h fun o h' => o = [.cv (.val (.bool a))] ∧ h' = h := by
  refine Runs.start Try.f69 _ Try.func69 rfl (by rw [Try.ntmps69]; simp) (by rfl) (by rfl) (fun hwf hu => ?_)
  obtain ⟨D, hD, hr⟩ : ∃ D : Bool → Prop, (∀ z, D z → z = a) ∧ Holds (dawg_rise_1 s) D := ⟨fun z => z = a, fun _ h => h, Holds.intro e rfl⟩
  dsimp only [dawg_rise_1] at hr
  change wpCode _ _ _ _ _ ⟨[(0, .cv (.val (.str (bs s))))], h.on []⟩
  refine w_seq ?_
  refine w_region rfl (by simp (disch := (apply Apart.mk; decide)) only [go_sem, Nat.reduceAdd, Nat.reduceLT, Nat.reduceMul, Nat.reduceLeDiff, Nat.lt_irrefl, Int.reduceToNat, Int.reduceLT, Int.reduceLE]; rfl) ?_
  refine (w_n ?_)
  refine w_joinR (sj := ⟨[(2, .cv (.val (.bool ((decide ((s.length : Int) < (1 : Int))) || (decide ((s.length : Int) > (64 : Int)))))))], h.on []⟩) (w_ops rfl ?_) ?_
  · refine w_upto 4 rfl (by simp (disch := (apply Apart.mk; decide)) only [go_sem, Nat.reduceAdd, Nat.reduceLT, Nat.reduceMul, Nat.reduceLeDiff, Nat.lt_irrefl, Int.reduceToNat, Int.reduceLT, Int.reduceLE]; rfl) ?_
    rcases Bool.eq_false_or_eq_true (decide ((s.length : Int) < (1 : Int))) with c1 | c1
    · refine w_ops_end (by simp (disch := (apply Apart.mk; decide)) only [go_sem, Nat.reduceAdd, Nat.reduceLT, Nat.reduceMul, Nat.reduceLeDiff, Nat.lt_irrefl, Int.reduceToNat, Int.reduceLT, Int.reduceLE, c1]; rfl) ?_
      exact w_k (To.cut hwf (Nat.le_refl _) rfl (by simp (disch := (apply Apart.mk; decide)) only [go_sem, Nat.reduceAdd, Nat.reduceLT, Nat.reduceMul, Nat.reduceLeDiff, Nat.lt_irrefl, Int.reduceToNat, Int.reduceLT, Int.reduceLE, c1]))
    · refine w_ops_end (by simp (disch := (apply Apart.mk; decide)) only [go_sem, Nat.reduceAdd, Nat.reduceLT, Nat.reduceMul, Nat.reduceLeDiff, Nat.lt_irrefl, Int.reduceToNat, Int.reduceLT, Int.reduceLE, c1]; rfl) ?_
      exact w_k (To.cut hwf (Nat.le_refl _) rfl (by simp (disch := (apply Apart.mk; decide)) only [go_sem, Nat.reduceAdd, Nat.reduceLT, Nat.reduceMul, Nat.reduceLeDiff, Nat.lt_irrefl, Int.reduceToNat, Int.reduceLT, Int.reduceLE, c1]))
  refine w_ret ?_
  obtain rfl := hD _ hr
  exact (w_endR (To.cut (os' := []) (sl := [(2, .cv (.val (.bool ((decide ((s.length : Int) < (1 : Int))) || (decide ((s.length : Int) > (64 : Int)))))))]) hwf (Nat.le_refl _) rfl (by simp (disch := (apply Apart.mk; decide)) only [go_sem, Nat.reduceAdd, Nat.reduceLT, Nat.reduceMul, Nat.reduceLeDiff, Nat.lt_irrefl, Int.reduceToNat, Int.reduceLT, Int.reduceLE])) (by simp (disch := (apply Apart.mk; decide)) only [go_sem, Nat.reduceAdd, Nat.reduceLT, Nat.reduceMul, Nat.reduceLeDiff, Nat.lt_irrefl, Int.reduceToNat, Int.reduceLT, Int.reduceLE, Try.results69, results_data CT_gives69, resCell, resVal.eq_2, loadOp_sv]) ⟨rfl, on_nil hwf⟩)
end Go.Val

/- part GW48 -/
/- scansion/dawg.rise runs as it is read off. -/
namespace Go.Val
set_option linter.unusedVariables false
set_option linter.unusedSimpArgs false
set_option maxRecDepth 20000
open Go.Proofs
theorem dawg_rise_runs (words : List Str) {h : Heap} {a : Bool} (e : dawg_rise words = some a) :
    Runs CT 48 [.cv (.val (.sl (List.map eS words)))] h fun o h' => o = [.cv (.val (.bool a))] ∧ h' = h := by
  refine Runs.start Try.f48 _ Try.func48 rfl (by rw [Try.ntmps48]; simp) (by rfl) (by rfl) (fun hwf hu => ?_)
  obtain ⟨D, hD, hr⟩ : ∃ D : Bool → Prop, (∀ z, D z → z = a) ∧ Holds (dawg_rise words) D := ⟨fun z => z = a, fun _ h => h, Holds.intro e rfl⟩
  dsimp only [dawg_rise] at hr
  change wpCode _ _ _ _ _ ⟨[(0, .cv (.val (.sl (List.map eS words))))], h.on []⟩
  refine w_seq ?_
  refine w_region rfl (by simp (disch := (apply Apart.mk; decide)) only [go_sem, Nat.reduceAdd, Nat.reduceLT, Nat.reduceMul, Nat.reduceLeDiff, Nat.lt_irrefl, Int.reduceToNat, Int.reduceLT, Int.reduceLE]; rfl) ?_
  refine (w_n ?_)
  refine w_seq ?_
  refine w_region rfl (by simp (disch := (apply Apart.mk; decide)) only [go_sem, Nat.reduceAdd, Nat.reduceLT, Nat.reduceMul, Nat.reduceLeDiff, Nat.lt_irrefl, Int.reduceToNat, Int.reduceLT, Int.reduceLE]; rfl) ?_
  refine (w_n ?_)
  refine w_seq ?_
  refine w_seq ?_
  refine w_region rfl (by simp (disch := (apply Apart.mk; decide)) only [go_sem, Nat.reduceAdd, Nat.reduceLT, Nat.reduceMul, Nat.reduceLeDiff, Nat.lt_irrefl, Int.reduceToNat, Int.reduceLT, Int.reduceLE]; rfl) ?_
  refine (w_n ?_)
  refine w_K (D := D) (fun x : Unit => ⟨[(0, .cv (.val (.sl (List.map eS words)))), (3, .cv (.val (.fn 69 [] [])))], h.on []⟩) (fun x : Unit => dawg_rise.k1 words) (fun x s' hr ht => ?_) ?_
  · dsimp only [dawg_rise.k1] at hr ht
    refine (w_nT ht ?_)
    obtain ⟨v, v3, hr⟩ := hr.bind
    refine w_joinR (sj := ⟨[(2, .cv (.val (.bool v)))], h.on []⟩) (w_ops rfl ?_) ?_
    · have hr := Holds.intro (D := fun z => z = v) v3 rfl
      refine w_upto 4 rfl (by simp (disch := (apply Apart.mk; decide)) only [go_sem, Nat.reduceAdd, Nat.reduceLT, Nat.reduceMul, Nat.reduceLeDiff, Nat.lt_irrefl, Int.reduceToNat, Int.reduceLT, Int.reduceLE]; rfl) ?_
      rcases hr.ite with ⟨c1, hr⟩ | ⟨c1, hr⟩
      · refine w_upto 2 rfl (by simp (disch := (apply Apart.mk; decide)) only [go_sem, Nat.reduceAdd, Nat.reduceLT, Nat.reduceMul, Nat.reduceLeDiff, Nat.lt_irrefl, Int.reduceToNat, Int.reduceLT, Int.reduceLE, c1]; rfl) ?_
        obtain ⟨r, e2, hr⟩ := hr.bind
        refine w_call' (out := ?o_e2) (hp := ?p_e2) (by simp (disch := (apply Apart.mk; decide)) only [go_sem, Nat.reduceAdd, Nat.reduceLT, Nat.reduceMul, Nat.reduceLeDiff, Nat.lt_irrefl, Int.reduceToNat, Int.reduceLT, Int.reduceLE, Option.getD_some, c1]) (by simp (disch := (apply Apart.mk; decide)) only [go_sem, Nat.reduceAdd, Nat.reduceLT, Nat.reduceMul, Nat.reduceLeDiff, Nat.lt_irrefl, Int.reduceToNat, Int.reduceLT, Int.reduceLE, Option.getD_some, c1]; rfl) (by simp (disch := (apply Apart.mk; decide)) only [go_sem, Nat.reduceAdd, Nat.reduceLT, Nat.reduceMul, Nat.reduceLeDiff, Nat.lt_irrefl, Int.reduceToNat, Int.reduceLT, Int.reduceLE, Option.getD_some, c1]; rfl) (by simp (disch := (apply Apart.mk; decide)) only [go_sem, Nat.reduceAdd, Nat.reduceLT, Nat.reduceMul, Nat.reduceLeDiff, Nat.lt_irrefl, Int.reduceToNat, Int.reduceLT, Int.reduceLE, Option.getD_some, c1]; rfl) ?c_e2 ?d_e2 ?_
        case c_e2 => (refine slices_ContainsFunc_string_string_runs words (dawg_rise_1) _ _ ?_ e2; (exact (fun os x0 r e => dawg_rise_1_runs x0 e)))
        case d_e2 => rfl
        refine w_ops_end (by simp (disch := (apply Apart.mk; decide)) only [go_sem, Nat.reduceAdd, Nat.reduceLT, Nat.reduceMul, Nat.reduceLeDiff, Nat.lt_irrefl, Int.reduceToNat, Int.reduceLT, Int.reduceLE, c1]; rfl) ?_
        obtain rfl : _ = v := hr
        exact w_k (To.cut hwf (Nat.le_refl _) rfl (by simp (disch := (apply Apart.mk; decide)) only [go_sem, Nat.reduceAdd, Nat.reduceLT, Nat.reduceMul, Nat.reduceLeDiff, Nat.lt_irrefl, Int.reduceToNat, Int.reduceLT, Int.reduceLE, c1]))
      · refine w_upto 2 rfl (by simp (disch := (apply Apart.mk; decide)) only [go_sem, Nat.reduceAdd, Nat.reduceLT, Nat.reduceMul, Nat.reduceLeDiff, Nat.lt_irrefl, Int.reduceToNat, Int.reduceLT, Int.reduceLE, c1]; rfl) ?_
        refine w_off (by simp (disch := (apply Apart.mk; decide)) only [go_sem, Nat.reduceAdd, Nat.reduceLT, Nat.reduceMul, Nat.reduceLeDiff, Nat.lt_irrefl, Int.reduceToNat, Int.reduceLT, Int.reduceLE, c1]) ?_
        refine w_ops_end (by simp (disch := (apply Apart.mk; decide)) only [go_sem, Nat.reduceAdd, Nat.reduceLT, Nat.reduceMul, Nat.reduceLeDiff, Nat.lt_irrefl, Int.reduceToNat, Int.reduceLT, Int.reduceLE, c1]; rfl) ?_
        obtain rfl : _ = v := hr
        exact w_k (To.cut hwf (Nat.le_refl _) rfl (by simp (disch := (apply Apart.mk; decide)) only [go_sem, Nat.reduceAdd, Nat.reduceLT, Nat.reduceMul, Nat.reduceLeDiff, Nat.lt_irrefl, Int.reduceToNat, Int.reduceLT, Int.reduceLE, c1]))
    refine w_ret ?_
    obtain rfl := hD _ hr
    exact (w_endR (To.cut (os' := []) (sl := [(2, .cv (.val (.bool v)))]) hwf (Nat.le_refl _) rfl (by simp (disch := (apply Apart.mk; decide)) only [go_sem, Nat.reduceAdd, Nat.reduceLT, Nat.reduceMul, Nat.reduceLeDiff, Nat.lt_irrefl, Int.reduceToNat, Int.reduceLT, Int.reduceLE])) (by simp (disch := (apply Apart.mk; decide)) only [go_sem, Nat.reduceAdd, Nat.reduceLT, Nat.reduceMul, Nat.reduceLeDiff, Nat.lt_irrefl, Int.reduceToNat, Int.reduceLT, Int.reduceLE, Try.results48, results_data CT_gives48, resCell, resVal.eq_2, loadOp_sv]) ⟨rfl, on_nil hwf⟩)
  · refine w_block ?_
    refine w_Loop (fun x : Int => ⟨[(0, .cv (.val (.sl (List.map eS words)))), (3, .cv (.val (.fn 69 [] []))), (4, .cv (.val (.int .i64 x)))], h.on []⟩) hr (To.cut hwf (Nat.le_refl _) rfl (by simp (disch := (apply Apart.mk; decide)) only [go_sem, Nat.reduceAdd, Nat.reduceLT, Nat.reduceMul, Nat.reduceLeDiff, Nat.lt_irrefl, Int.reduceToNat, Int.reduceLT, Int.reduceLE])) (fun W1 x hr => ?_)
    obtain ⟨i, rfl⟩ : ∃ z, z = x := ⟨x, rfl⟩
    dsimp only [dawg_rise.b1] at hr
    refine w_seq ?_
    refine w_seq ?_
    refine w_region rfl (by simp (disch := (apply Apart.mk; decide)) only [go_sem, Nat.reduceAdd, Nat.reduceLT, Nat.reduceMul, Nat.reduceLeDiff, Nat.lt_irrefl, Int.reduceToNat, Int.reduceLT, Int.reduceLE]; rfl) ?_
    refine (w_n ?_)
    refine w_condH (by simp (disch := (apply Apart.mk; decide)) only [go_sem, Nat.reduceAdd, Nat.reduceLT, Nat.reduceMul, Nat.reduceLeDiff, Nat.lt_irrefl, Int.reduceToNat, Int.reduceLT, Int.reduceLE]) hr (fun c4 hr => ?_) (fun c4 hr => ?_)
    · refine w_skip ?_
      refine (w_n ?_)
      refine w_seq ?_
      refine w_block ?_
      refine w_seq ?_
      refine w_drawn [0, 1, 2, 3, 4, 5, 6, 7, 8, 9] (by rfl) ?_
      obtain ⟨s, n5, e6, g7, hr⟩ := hr.idx
      obtain ⟨s1, n8, e9, g10, hr⟩ := hr.idx
      refine p_run (l := [0, 1, 2, 3, 4, 5, 6, 7, 8, 9]) (pend' := [9, 8, 7, 6, 5, 4, 3, 2, 1, 0]) (by simp (disch := (apply Apart.mk; decide)) only [go_sem, Nat.reduceAdd, Nat.reduceLT, Nat.reduceMul, Nat.reduceLeDiff, Nat.lt_irrefl, Int.reduceToNat, Int.reduceLT, Int.reduceLE, n5, e6, g7, n8, e9, g10]; rfl) rfl ?_
      refine p_end (by simp (disch := (apply Apart.mk; decide)) only [go_sem, Nat.reduceAdd, Nat.reduceLT, Nat.reduceMul, Nat.reduceLeDiff, Nat.lt_irrefl, Int.reduceToNat, Int.reduceLT, Int.reduceLE, n5, e6, g7, n8, e9, g10]) ?_
      refine (w_n ?_)
      refine w_condH (by simp (disch := (apply Apart.mk; decide)) only [go_sem, Nat.reduceAdd, Nat.reduceLT, Nat.reduceMul, Nat.reduceLeDiff, Nat.lt_irrefl, Int.reduceToNat, Int.reduceLT, Int.reduceLE, c4]) hr (fun c11 hr => ?_) (fun c11 hr => ?_)
      · refine w_seq ?_
        refine w_region rfl (by simp (disch := (apply Apart.mk; decide)) only [go_sem, Nat.reduceAdd, Nat.reduceLT, Nat.reduceMul, Nat.reduceLeDiff, Nat.lt_irrefl, Int.reduceToNat, Int.reduceLT, Int.reduceLE, c4, c11]; rfl) ?_
        refine (w_n ?_)
        refine w_ret ?_
        obtain rfl := hD _ hr
        exact (w_br (w_tr (w_tr (w_br (w_tr (w_tr (w_endR (To.cut (os' := []) (sl := [(2, .cv (.val (.bool false)))]) hwf (Nat.le_refl _) rfl (by simp (disch := (apply Apart.mk; decide)) only [go_sem, Nat.reduceAdd, Nat.reduceLT, Nat.reduceMul, Nat.reduceLeDiff, Nat.lt_irrefl, Int.reduceToNat, Int.reduceLT, Int.reduceLE, c4, c11])) (by simp (disch := (apply Apart.mk; decide)) only [go_sem, Nat.reduceAdd, Nat.reduceLT, Nat.reduceMul, Nat.reduceLeDiff, Nat.lt_irrefl, Int.reduceToNat, Int.reduceLT, Int.reduceLE, Try.results48, results_data CT_gives48, resCell, resVal.eq_2, loadOp_sv, c4, c11]) ⟨rfl, on_nil hwf⟩)))))))
      · refine w_skip ?_
        refine (w_bn (w_n ?_))
        refine w_region rfl (by simp (disch := (apply Apart.mk; decide)) only [go_sem, Nat.reduceAdd, Nat.reduceLT, Nat.reduceMul, Nat.reduceLeDiff, Nat.lt_irrefl, Int.reduceToNat, Int.reduceLT, Int.reduceLE, c4, c11]; rfl) ?_
        exact (w_k ⟨(IntKind.i64.wrap (i + (1 : Int))), hr, (To.cut hwf (Nat.le_refl _) rfl (by simp (disch := (apply Apart.mk; decide)) only [go_sem, Nat.reduceAdd, Nat.reduceLT, Nat.reduceMul, Nat.reduceLeDiff, Nat.lt_irrefl, Int.reduceToNat, Int.reduceLT, Int.reduceLE, c4, c11]))⟩)
    · refine w_exit ?_
      exact (w_te (w_te (w_bx (w_k ⟨(), (hr).map, (To.cut hwf (Nat.le_refl _) rfl (by simp (disch := (apply Apart.mk; decide)) only [go_sem, Nat.reduceAdd, Nat.reduceLT, Nat.reduceMul, Nat.reduceLeDiff, Nat.lt_irrefl, Int.reduceToNat, Int.reduceLT, Int.reduceLE, c4]))⟩))))
end Go.Val

/- part GW73 -/
/- scansion/dawg.key runs as it is read off. -/
namespace Go.Val
set_option linter.unusedVariables false
set_option linter.unusedSimpArgs false
set_option maxRecDepth 20000
open Go.Proofs
theorem dawg_key_runs (final : Bool) (edges : List TEdge) {h : Heap} {a : Str} (e : dawg_key final edges = some a) :
    Runs CT 73 [.cv (.val (.bool final)), .cv (.val (.sl (List.map eEdge edges)))] h fun o h' => o = [.cv (.val (.str (bs a)))] ∧ h' = h := by
  refine Runs.start Try.f73 _ Try.func73 rfl (by rw [Try.ntmps73]; simp) (by rfl) (by rfl) (fun hwf hu => ?_)
  obtain ⟨D, hD, hr⟩ : ∃ D : Str → Prop, (∀ z, D z → z = a) ∧ Holds (dawg_key final edges) D := ⟨fun z => z = a, fun _ h => h, Holds.intro e rfl⟩
  dsimp only [dawg_key] at hr
  change wpCode _ _ _ _ _ ⟨[(0, .cv (.val (.bool final))), (1, .cv (.val (.sl (List.map eEdge edges))))], h.on []⟩
  refine w_seq ?_
  refine w_region rfl (by simp (disch := (apply Apart.mk; decide)) only [go_sem, Nat.reduceAdd, Nat.reduceLT, Nat.reduceMul, Nat.reduceLeDiff, Nat.lt_irrefl, Int.reduceToNat, Int.reduceLT, Int.reduceLE]; rfl) ?_
  refine (w_n ?_)
  refine w_seq ?_
  refine w_region rfl (by simp (disch := (apply Apart.mk; decide)) only [go_sem, Nat.reduceAdd, Nat.reduceLT, Nat.reduceMul, Nat.reduceLeDiff, Nat.lt_irrefl, Int.reduceToNat, Int.reduceLT, Int.reduceLE]; rfl) ?_
  refine (w_n ?_)
  refine w_seq ?_
  refine w_seq ?_
  refine w_region rfl (by simp (disch := (apply Apart.mk; decide)) only [go_sem, Nat.reduceAdd, Nat.reduceLT, Nat.reduceMul, Nat.reduceLeDiff, Nat.lt_irrefl, Int.reduceToNat, Int.reduceLT, Int.reduceLE]; rfl) ?_
  refine (w_n ?_)
  refine w_K (D := D) (fun x : List UInt8 => ⟨[(1, .cv (.val (.sl (List.map eEdge edges)))), (5, .cv (.row 5 (List.map eU x)))], h.on []⟩) (fun x : List UInt8 => dawg_key.k1 edges x) (fun x s' hr ht => ?_) ?_
  · obtain ⟨out, rfl⟩ : ∃ z, z = x := ⟨x, rfl⟩
    dsimp only [dawg_key.k1] at hr ht
    refine (w_nT ht ?_)
    refine w_seq ?_
    refine w_seq ?_
    refine w_region rfl (by simp (disch := (apply Apart.mk; decide)) only [go_sem, Nat.reduceAdd, Nat.reduceLT, Nat.reduceMul, Nat.reduceLeDiff, Nat.lt_irrefl, Int.reduceToNat, Int.reduceLT, Int.reduceLE]; rfl) ?_
    refine (w_n ?_)
    refine w_K (D := D) (fun x : List UInt8 => ⟨[(5, .cv (.row 5 (List.map eU x)))], h.on []⟩) (fun x : List UInt8 => dawg_key.k2 x) (fun x s' hr ht => ?_) ?_
    · obtain ⟨out1, rfl⟩ : ∃ z, z = x := ⟨x, rfl⟩
      dsimp only [dawg_key.k2] at hr ht
      refine (w_nT ht ?_)
      refine w_seq ?_
      refine w_region rfl (by simp (disch := (apply Apart.mk; decide)) only [go_sem, Nat.reduceAdd, Nat.reduceLT, Nat.reduceMul, Nat.reduceLeDiff, Nat.lt_irrefl, Int.reduceToNat, Int.reduceLT, Int.reduceLE]; rfl) ?_
      refine (w_n ?_)
      refine w_ret ?_
      obtain rfl := hD _ hr
      exact (w_endR (To.cut (os' := []) (sl := [(4, .cv (.val (.str (bs out1))))]) hwf (Nat.le_refl _) rfl (by simp (disch := (apply Apart.mk; decide)) only [go_sem, Nat.reduceAdd, Nat.reduceLT, Nat.reduceMul, Nat.reduceLeDiff, Nat.lt_irrefl, Int.reduceToNat, Int.reduceLT, Int.reduceLE])) (by simp (disch := (apply Apart.mk; decide)) only [go_sem, Nat.reduceAdd, Nat.reduceLT, Nat.reduceMul, Nat.reduceLeDiff, Nat.lt_irrefl, Int.reduceToNat, Int.reduceLT, Int.reduceLE, Try.results73, results_data CT_gives73, resCell, resVal.eq_2, loadOp_sv]) ⟨rfl, on_nil hwf⟩)
    · refine w_block ?_
      refine w_Loop (fun x : (List UInt8 × Int) => ⟨[(5, .cv (.row 5 (List.map eU x.1))), (12, .cv (.val (.sl (List.map eEdge edges)))), (13, .cv (.val (.int .i64 (edges.length : Int)))), (14, .cv (.val (.int .i64 x.2)))], h.on []⟩) hr (To.cut hwf (Nat.le_refl _) rfl (by simp (disch := (apply Apart.mk; decide)) only [go_sem, Nat.reduceAdd, Nat.reduceLT, Nat.reduceMul, Nat.reduceLeDiff, Nat.lt_irrefl, Int.reduceToNat, Int.reduceLT, Int.reduceLE])) (fun W1 x hr => ?_)
      obtain ⟨out2, v⟩ := x
      dsimp only [dawg_key.b1] at hr
      refine w_seq ?_
      refine w_region rfl (by simp (disch := (apply Apart.mk; decide)) only [go_sem, Nat.reduceAdd, Nat.reduceLT, Nat.reduceMul, Nat.reduceLeDiff, Nat.lt_irrefl, Int.reduceToNat, Int.reduceLT, Int.reduceLE]; rfl) ?_
      refine (w_n ?_)
      refine w_seq ?_
      refine w_condH (by simp (disch := (apply Apart.mk; decide)) only [go_sem, Nat.reduceAdd, Nat.reduceLT, Nat.reduceMul, Nat.reduceLeDiff, Nat.lt_irrefl, Int.reduceToNat, Int.reduceLT, Int.reduceLE]) hr (fun c1 hr => ?_) (fun c1 hr => ?_)
      · refine w_skip ?_
        refine (w_n ?_)
        refine w_seq ?_
        refine w_block ?_
        refine w_seq ?_
        obtain ⟨x, n2, e3, g4, hr⟩ := hr.idx
        refine w_region rfl (by simp (disch := (apply Apart.mk; decide)) only [go_sem, Nat.reduceAdd, Nat.reduceLT, Nat.reduceMul, Nat.reduceLeDiff, Nat.lt_irrefl, Int.reduceToNat, Int.reduceLT, Int.reduceLE, n2, e3, g4, c1]; rfl) ?_
        refine (w_n ?_)
        obtain ⟨n5, hr⟩ := hr.room
        refine w_region rfl (by simp (disch := (apply Apart.mk; decide)) only [go_sem, Nat.reduceAdd, Nat.reduceLT, Nat.reduceMul, Nat.reduceLeDiff, Nat.lt_irrefl, Int.reduceToNat, Int.reduceLT, Int.reduceLE, (eq_false (by decide : ¬ ((24 : Int) < 0))), (eq_false (by decide : ¬ ((16 : Int) < 0))), (eq_false (by decide : ¬ ((8 : Int) < 0))), n5, c1]; rfl) ?_
        refine (w_bn (w_n ?_))
        refine w_region rfl (by simp (disch := (apply Apart.mk; decide)) only [go_sem, Nat.reduceAdd, Nat.reduceLT, Nat.reduceMul, Nat.reduceLeDiff, Nat.lt_irrefl, Int.reduceToNat, Int.reduceLT, Int.reduceLE, c1]; rfl) ?_
        exact (w_k ⟨((out2 ++ ([x.Label, (u8 (IntKind.u8.wrap (shR .i64 x.To (24 : Int)))), (u8 (IntKind.u8.wrap (shR .i64 x.To (16 : Int)))), (u8 (IntKind.u8.wrap (shR .i64 x.To (8 : Int)))), (u8 (IntKind.u8.wrap x.To))])), (IntKind.i64.wrap (v + (1 : Int)))), hr, (To.cut hwf (Nat.le_refl _) rfl (by simp (disch := (apply Apart.mk; decide)) only [go_sem, Nat.reduceAdd, Nat.reduceLT, Nat.reduceMul, Nat.reduceLeDiff, Nat.lt_irrefl, Int.reduceToNat, Int.reduceLT, Int.reduceLE, c1]))⟩)
      · refine w_exit ?_
        exact (w_te (w_te (w_bx (w_k ⟨out2, (hr).map, (To.cut hwf (Nat.le_refl _) rfl (by simp (disch := (apply Apart.mk; decide)) only [go_sem, Nat.reduceAdd, Nat.reduceLT, Nat.reduceMul, Nat.reduceLeDiff, Nat.lt_irrefl, Int.reduceToNat, Int.reduceLT, Int.reduceLE, c1]))⟩))))
  · refine w_condH (by simp (disch := (apply Apart.mk; decide)) only [go_sem, Nat.reduceAdd, Nat.reduceLT, Nat.reduceMul, Nat.reduceLeDiff, Nat.lt_irrefl, Int.reduceToNat, Int.reduceLT, Int.reduceLE]) hr (fun c6 hr => ?_) (fun c6 hr => ?_)
    · obtain ⟨n, e7, g8, hr⟩ := hr.idxK
      refine w_region rfl (by simp (disch := (apply Apart.mk; decide)) only [go_sem, Nat.reduceAdd, Nat.reduceLT, Nat.reduceMul, Nat.reduceLeDiff, Nat.lt_irrefl, Int.reduceToNat, Int.reduceLT, Int.reduceLE, e7, g8, c6]; rfl) ?_
      exact (w_k ⟨(List.set ([(u8 (0 : Int))]) (Int.toNat (0 : Int)) (u8 (1 : Int))), hr, (To.cut hwf (Nat.le_refl _) rfl (by simp (disch := (apply Apart.mk; decide)) only [go_sem, Nat.reduceAdd, Nat.reduceLT, Nat.reduceMul, Nat.reduceLeDiff, Nat.lt_irrefl, Int.reduceToNat, Int.reduceLT, Int.reduceLE, c6]))⟩)
    · refine w_skip ?_
      exact (w_k ⟨[(u8 (0 : Int))], hr, (To.cut hwf (Nat.le_refl _) rfl (by simp (disch := (apply Apart.mk; decide)) only [go_sem, Nat.reduceAdd, Nat.reduceLT, Nat.reduceMul, Nat.reduceLeDiff, Nat.lt_irrefl, Int.reduceToNat, Int.reduceLT, Int.reduceLE, c6]))⟩)
end Go.Val

/- part GW72 -/
/- (*scansion/dawg.builder).state$1 runs as it is read off. -/
namespace Go.Val
set_option linter.unusedVariables false
set_option linter.unusedSimpArgs false
set_option maxRecDepth 20000
open Go.Proofs
theorem dawg_builder_state_1_runs (s : Str) (p1 : Int) (p2 : UInt8) (l1 : Nat) (l2 : Nat) {h : Heap} (ha1 : h.at_ l1 = some (.cells [.val (.int .i64 p1)])) (ha2 : h.at_ l2 = some (.cells [.val (.int .u8 (p2.toNat : Int))])) (hn1_2 : l1 ≠ l2) {a : Bool} (e : dawg_builder_state_1 s p1 p2 = some a) :
    Runs CT 72 [.cv (.val (.str (bs s))), .cv (.val (.ptr (some (l1, 0)))), .cv (.val (.ptr (some (l2, 0))))] h fun o h' => o = [.cv (.val (.bool a))] ∧ h' = h := by
  refine Runs.start Try.f72 _ Try.func72 rfl (by rw [Try.ntmps72]; simp) (by rfl) (by rfl) (fun hwf hu => ?_)
  have hl1 := (hwf _ _ ha1).1
  have hl2 := (hwf _ _ ha2).1
  obtain ⟨D, hD, hr⟩ : ∃ D : Bool → Prop, (∀ z, D z → z = a) ∧ Holds (dawg_builder_state_1 s p1 p2) D := ⟨fun z => z = a, fun _ h => h, Holds.intro e rfl⟩
  dsimp only [dawg_builder_state_1] at hr
  change wpCode _ _ _ _ _ ⟨[(0, .cv (.val (.str (bs s)))), (1, .cv (.val (.ptr (some (l1, 0))))), (2, .cv (.val (.ptr (some (l2, 0)))))], h.on []⟩
  refine w_seq ?_
  refine w_region rfl (by simp (disch := (apply Apart.mk; decide)) only [go_sem, Nat.reduceAdd, Nat.reduceLT, Nat.reduceMul, Nat.reduceLeDiff, Nat.lt_irrefl, Int.reduceToNat, Int.reduceLT, Int.reduceLE, ha1, on_atB hl1, lt_add hl1, lt_at hl1, ha2, on_atB hl2, lt_add hl2, lt_at hl2]; rfl) ?_
  refine (w_n ?_)
  refine w_seq ?_
  refine w_drawn [0, 1, 2, 3, 4, 5] (by rfl) ?_
  obtain ⟨c, n1, e2, g3, hr⟩ := hr.idx
  refine p_run (l := [0, 1, 2, 3, 4]) (pend' := [4, 3, 2, 1, 0]) (by simp (disch := (apply Apart.mk; decide)) only [go_sem, Nat.reduceAdd, Nat.reduceLT, Nat.reduceMul, Nat.reduceLeDiff, Nat.lt_irrefl, Int.reduceToNat, Int.reduceLT, Int.reduceLE, ha1, on_atB hl1, lt_add hl1, lt_at hl1, ha2, on_atB hl2, lt_add hl2, lt_at hl2, n1, e2, g3]; rfl) rfl ?_
  refine p_op (pend' := []) rfl (by simp (disch := (apply Apart.mk; decide)) only [go_sem, Nat.reduceAdd, Nat.reduceLT, Nat.reduceMul, Nat.reduceLeDiff, Nat.lt_irrefl, Int.reduceToNat, Int.reduceLT, Int.reduceLE, ha1, on_atB hl1, lt_add hl1, lt_at hl1, ha2, on_atB hl2, lt_add hl2, lt_at hl2, n1, e2, g3]) (by simp (disch := (apply Apart.mk; decide)) only [go_sem, Nat.reduceAdd, Nat.reduceLT, Nat.reduceMul, Nat.reduceLeDiff, Nat.lt_irrefl, Int.reduceToNat, Int.reduceLT, Int.reduceLE, ha1, on_atB hl1, lt_add hl1, lt_at hl1, ha2, on_atB hl2, lt_add hl2, lt_at hl2, n1, e2, g3]; rfl) (by rfl) ?_
  refine p_end (by simp (disch := (apply Apart.mk; decide)) only [go_sem, Nat.reduceAdd, Nat.reduceLT, Nat.reduceMul, Nat.reduceLeDiff, Nat.lt_irrefl, Int.reduceToNat, Int.reduceLT, Int.reduceLE, ha1, on_atB hl1, lt_add hl1, lt_at hl1, ha2, on_atB hl2, lt_add hl2, lt_at hl2, n1, e2, g3]) ?_
  refine (w_n ?_)
  refine w_ret ?_
  obtain rfl := hD _ hr
  exact (w_endR (To.cut (os' := []) (sl := [(4, .cv (.val (.bool ((c.toNat : Int) != (p2.toNat : Int)))))]) hwf (Nat.le_refl _) (by first | rfl | (simp (disch := (apply Apart.mk; decide)) only [go_sem, Nat.reduceAdd, Nat.reduceLT, Nat.reduceMul, Nat.reduceLeDiff, Nat.lt_irrefl, Int.reduceToNat, Int.reduceLT, Int.reduceLE, ha1, on_atB hl1, lt_add hl1, lt_at hl1, ha2, on_atB hl2, lt_add hl2, lt_at hl2]; rfl)) (by simp (disch := (apply Apart.mk; decide)) only [go_sem, Nat.reduceAdd, Nat.reduceLT, Nat.reduceMul, Nat.reduceLeDiff, Nat.lt_irrefl, Int.reduceToNat, Int.reduceLT, Int.reduceLE, ha1, on_atB hl1, lt_add hl1, lt_at hl1, ha2, on_atB hl2, lt_add hl2, lt_at hl2])) (by simp (disch := (apply Apart.mk; decide)) only [go_sem, Nat.reduceAdd, Nat.reduceLT, Nat.reduceMul, Nat.reduceLeDiff, Nat.lt_irrefl, Int.reduceToNat, Int.reduceLT, Int.reduceLE, ha1, on_atB hl1, lt_add hl1, lt_at hl1, ha2, on_atB hl2, lt_add hl2, lt_at hl2, Try.results72, results_data CT_gives72, resCell, resVal.eq_2, loadOp_sv]) ⟨rfl, on_nil hwf⟩)
end Go.Val
