/- A value semantics of the model's programs, sound against it, and functions read off the given program with the proofs that it runs so; no condition. -/
import Derived.Test.YtobjdbpikecnnaaOwnC
import Derived.Test.YtobjdbpikecnnaaChecked
set_option linter.all false
set_option linter.unnecessarySimpa false
set_option linter.unusedVariables false
set_option linter.unusedSimpArgs false
/- part GT -/
/- Types of the program, as data. -/
namespace Go.Val
set_option linter.unusedVariables false
set_option linter.unusedSimpArgs false
structure TEdge where
  Label : UInt8
  To : Int
  deriving DecidableEq, Inhabited
def eEdge (x : TEdge) : DVal := .agg [.int .u8 (x.Label.toNat : Int), .int .i64 x.To]
instance : Enc eEdge 2 := ⟨fun _ => rfl, fun n x => by simp only [eEdge, DVal.under, underL, under_map, and_self]⟩
attribute [go_sem] eEdge
structure TGraph where
  Final : List Bool
  Edges : List (List TEdge)
  deriving DecidableEq, Inhabited
def eGraph (x : TGraph) : DVal := .agg [.sl (List.map eB x.Final), .sl (List.map (eL eEdge) x.Edges)]
instance : Enc eGraph 2 := ⟨fun _ => rfl, fun n x => by simp only [eGraph, DVal.under, underL, under_map, and_self]⟩
attribute [go_sem] eGraph
structure Tdawg_builder where
  Graph : TGraph
  known : List (Str × Int)
  deriving DecidableEq, Inhabited
structure Tscansionref17_maker where
  g : TGraph
  ends : List Str
  deriving DecidableEq, Inhabited
def escansionref17_maker (x : Tscansionref17_maker) : DVal := .agg [.sl (List.map eB x.g.Final), .sl (List.map (eL eEdge) x.g.Edges), .sl (List.map eS x.ends)]
instance : Enc escansionref17_maker 3 := ⟨fun _ => rfl, fun n x => by simp only [escansionref17_maker, DVal.under, underL, under_map, and_self]⟩
attribute [go_sem] escansionref17_maker
structure Tdarray_cell where
  of : Int
  to : Int
  deriving DecidableEq, Inhabited
def edarray_cell (x : Tdarray_cell) : DVal := .agg [.int .i64 x.of, .int .i64 x.to]
instance : Enc edarray_cell 2 := ⟨fun _ => rfl, fun n x => by simp only [edarray_cell, DVal.under, underL, under_map, and_self]⟩
attribute [go_sem] edarray_cell
structure Tdarray_Array where
  graph : TGraph
  base : List Int
  cells : List Tdarray_cell
  count : List Int
  deriving DecidableEq, Inhabited
def edarray_Array (x : Tdarray_Array) : DVal := .agg [.sl (List.map eB x.graph.Final), .sl (List.map (eL eEdge) x.graph.Edges), .sl (List.map eI x.base), .sl (List.map edarray_cell x.cells), .sl (List.map eI x.count)]
instance : Enc edarray_Array 5 := ⟨fun _ => rfl, fun n x => by simp only [edarray_Array, DVal.under, underL, under_map, and_self]⟩
attribute [go_sem] edarray_Array
structure Tscansionref18_Array where
  G : TGraph
  Cells : Int
  deriving DecidableEq, Inhabited
def escansionref18_Array (x : Tscansionref18_Array) : DVal := .agg [.sl (List.map eB x.G.Final), .sl (List.map (eL eEdge) x.G.Edges), .int .i64 x.Cells]
instance : Enc escansionref18_Array 3 := ⟨fun _ => rfl, fun n x => by simp only [escansionref18_Array, DVal.under, underL, under_map, and_self]⟩
attribute [go_sem] escansionref18_Array
structure Tdarray_reader where
  rest_ : List UInt8
  fault : Bool
  deriving DecidableEq, Inhabited
def edarray_reader (x : Tdarray_reader) : DVal := .agg [.sl (List.map eU x.rest_), .bool x.fault]
instance : Enc edarray_reader 2 := ⟨fun _ => rfl, fun n x => by simp only [edarray_reader, DVal.under, underL, under_map, and_self]⟩
attribute [go_sem] edarray_reader
end Go.Val

/- part GX -/
/- Facts of the program. -/
namespace Go.Val
set_option linter.unusedVariables false
set_option linter.unusedSimpArgs false
open Go.Proofs
noncomputable def CT : Ctx := { P := Try.prog, how := fun f i => .data, gives := fun f => if f = 66 then .move else if f = 80 then .move else .data }
theorem CT_P : CT.P = Try.prog := rfl
def someWorld : World := ⟨#[], fun _ _ => 0, 0, default, default⟩
theorem CT_gives15 : CT.gives 15 = .data := by simp [CT]
theorem CT_gives35 : CT.gives 35 = .data := by simp [CT]
theorem CT_gives34 : CT.gives 34 = .data := by simp [CT]
theorem CT_gives27 : CT.gives 27 = .data := by simp [CT]
theorem CT_gives26 : CT.gives 26 = .data := by simp [CT]
theorem CT_gives33 : CT.gives 33 = .data := by simp [CT]
theorem CT_gives55 : CT.gives 55 = .data := by simp [CT]
theorem CT_gives30 : CT.gives 30 = .data := by simp [CT]
theorem CT_gives37 : CT.gives 37 = .data := by simp [CT]
theorem CT_gives39 : CT.gives 39 = .data := by simp [CT]
theorem CT_gives50 : CT.gives 50 = .data := by simp [CT]
theorem CT_gives74 : CT.gives 74 = .data := by simp [CT]
theorem CT_gives75 : CT.gives 75 = .data := by simp [CT]
theorem CT_gives18 : CT.gives 18 = .data := by simp [CT]
theorem CT_gives22 : CT.gives 22 = .data := by simp [CT]
theorem CT_gives19 : CT.gives 19 = .data := by simp [CT]
theorem CT_gives73 : CT.gives 73 = .data := by simp [CT]
theorem CT_gives71 : CT.gives 71 = .data := by simp [CT]
theorem CT_gives70 : CT.gives 70 = .data := by simp [CT]
theorem CT_gives69 : CT.gives 69 = .data := by simp [CT]
theorem CT_gives48 : CT.gives 48 = .data := by simp [CT]
theorem CT_gives76 : CT.gives 76 = .data := by simp [CT]
theorem CT_gives77 : CT.gives 77 = .data := by simp [CT]
theorem CT_gives52 : CT.gives 52 = .data := by simp [CT]
theorem CT_gives20 : CT.gives 20 = .data := by simp [CT]
theorem CT_gives36 : CT.gives 36 = .data := by simp [CT]
theorem CT_gives38 : CT.gives 38 = .data := by simp [CT]
theorem CT_gives72 : CT.gives 72 = .data := by simp [CT]
theorem CT_gives49 : CT.gives 49 = .data := by simp [CT]
theorem CT_gives16 : CT.gives 16 = .data := by simp [CT]
theorem CT_gives51 : CT.gives 51 = .data := by simp [CT]
theorem CT_gives17 : CT.gives 17 = .data := by simp [CT]
theorem CT_gives14 : CT.gives 14 = .data := by simp [CT]
theorem CT_gives3 : CT.gives 3 = .data := by simp [CT]
theorem CT_gives4 : CT.gives 4 = .data := by simp [CT]
theorem CT_gives5 : CT.gives 5 = .data := by simp [CT]
theorem CT_gives7 : CT.gives 7 = .data := by simp [CT]
theorem CT_gives9 : CT.gives 9 = .data := by simp [CT]
theorem CT_gives10 : CT.gives 10 = .data := by simp [CT]
theorem CT_gives79 : CT.gives 79 = .data := by simp [CT]
theorem CT_gives78 : CT.gives 78 = .data := by simp [CT]
theorem CT_gives53 : CT.gives 53 = .data := by simp [CT]
theorem CT_gives54 : CT.gives 54 = .data := by simp [CT]
theorem CT_gives23 : CT.gives 23 = .data := by simp [CT]
theorem CT_gives24 : CT.gives 24 = .data := by simp [CT]
theorem CT_gives25 : CT.gives 25 = .data := by simp [CT]
theorem CT_gives28 : CT.gives 28 = .data := by simp [CT]
theorem CT_gives29 : CT.gives 29 = .data := by simp [CT]
theorem CT_gives31 : CT.gives 31 = .data := by simp [CT]
theorem CT_gives32 : CT.gives 32 = .data := by simp [CT]
theorem CT_gives62 : CT.gives 62 = .data := by simp [CT]
theorem CT_gives46 : CT.gives 46 = .data := by simp [CT]
theorem CT_gives66 : CT.gives 66 = .move := by simp [CT]
theorem CT_gives80 : CT.gives 80 = .move := by simp [CT]
theorem CT_gives45 : CT.gives 45 = .data := by simp [CT]
theorem CT_gives56 : CT.gives 56 = .data := by simp [CT]
theorem CT_gives57 : CT.gives 57 = .data := by simp [CT]
theorem CT_gives40 : CT.gives 40 = .data := by simp [CT]
theorem CT_gives41 : CT.gives 41 = .data := by simp [CT]
theorem CT_gives42 : CT.gives 42 = .data := by simp [CT]
theorem CT_gives59 : CT.gives 59 = .data := by simp [CT]
theorem CT_gives58 : CT.gives 58 = .data := by simp [CT]
theorem CT_gives61 : CT.gives 61 = .data := by simp [CT]
theorem CT_gives63 : CT.gives 63 = .data := by simp [CT]
theorem CT_gives60 : CT.gives 60 = .data := by simp [CT]
theorem CT_gives43 : CT.gives 43 = .data := by simp [CT]
theorem CT_gives81 : CT.gives 81 = .data := by simp [CT]
theorem CT_gives67 : CT.gives 67 = .data := by simp [CT]
theorem CT_gives65 : CT.gives 65 = .data := by simp [CT]
theorem CT_gives64 : CT.gives 64 = .data := by simp [CT]
theorem CT_gives68 : CT.gives 68 = .data := by simp [CT]
theorem CT_gives44 : CT.gives 44 = .data := by simp [CT]
theorem CT_gives47 : CT.gives 47 = .data := by simp [CT]
theorem CT_gives21 : CT.gives 21 = .data := by simp [CT]
theorem CT_gives6 : CT.gives 6 = .data := by simp [CT]
theorem CT_gives8 : CT.gives 8 = .data := by simp [CT]
theorem CT_gives11 : CT.gives 11 = .data := by simp [CT]
theorem CT_gives12 : CT.gives 12 = .data := by simp [CT]
theorem CT_gives13 : CT.gives 13 = .data := by simp [CT]
theorem CT_how15_0 : CT.how 15 0 = .data := by simp [CT]
theorem CT_how35_0 : CT.how 35 0 = .data := by simp [CT]
theorem CT_how34_0 : CT.how 34 0 = .data := by simp [CT]
theorem CT_how34_1 : CT.how 34 1 = .data := by simp [CT]
theorem CT_how27_0 : CT.how 27 0 = .data := by simp [CT]
theorem CT_how26_0 : CT.how 26 0 = .data := by simp [CT]
theorem CT_how33_0 : CT.how 33 0 = .data := by simp [CT]
theorem CT_how55_0 : CT.how 55 0 = .data := by simp [CT]
theorem CT_how55_1 : CT.how 55 1 = .data := by simp [CT]
theorem CT_how55_2 : CT.how 55 2 = .data := by simp [CT]
theorem CT_how30_0 : CT.how 30 0 = .data := by simp [CT]
theorem CT_how30_1 : CT.how 30 1 = .data := by simp [CT]
theorem CT_how37_0 : CT.how 37 0 = .data := by simp [CT]
theorem CT_how37_1 : CT.how 37 1 = .data := by simp [CT]
theorem CT_how39_0 : CT.how 39 0 = .data := by simp [CT]
theorem CT_how39_1 : CT.how 39 1 = .data := by simp [CT]
theorem CT_how50_0 : CT.how 50 0 = .data := by simp [CT]
theorem CT_how74_0 : CT.how 74 0 = .data := by simp [CT]
theorem CT_how75_0 : CT.how 75 0 = .data := by simp [CT]
theorem CT_how75_1 : CT.how 75 1 = .data := by simp [CT]
theorem CT_how18_0 : CT.how 18 0 = .data := by simp [CT]
theorem CT_how18_1 : CT.how 18 1 = .data := by simp [CT]
theorem CT_how22_0 : CT.how 22 0 = .data := by simp [CT]
theorem CT_how22_1 : CT.how 22 1 = .data := by simp [CT]
theorem CT_how19_0 : CT.how 19 0 = .data := by simp [CT]
theorem CT_how73_0 : CT.how 73 0 = .data := by simp [CT]
theorem CT_how73_1 : CT.how 73 1 = .data := by simp [CT]
theorem CT_how71_0 : CT.how 71 0 = .data := by simp [CT]
theorem CT_how71_1 : CT.how 71 1 = .data := by simp [CT]
theorem CT_how70_0 : CT.how 70 0 = .data := by simp [CT]
theorem CT_how70_1 : CT.how 70 1 = .data := by simp [CT]
theorem CT_how69_0 : CT.how 69 0 = .data := by simp [CT]
theorem CT_how48_0 : CT.how 48 0 = .data := by simp [CT]
theorem CT_how76_0 : CT.how 76 0 = .data := by simp [CT]
theorem CT_how76_1 : CT.how 76 1 = .data := by simp [CT]
theorem CT_how77_0 : CT.how 77 0 = .data := by simp [CT]
theorem CT_how77_1 : CT.how 77 1 = .data := by simp [CT]
theorem CT_how77_2 : CT.how 77 2 = .data := by simp [CT]
theorem CT_how52_0 : CT.how 52 0 = .data := by simp [CT]
theorem CT_how52_1 : CT.how 52 1 = .data := by simp [CT]
theorem CT_how20_0 : CT.how 20 0 = .data := by simp [CT]
theorem CT_how20_1 : CT.how 20 1 = .data := by simp [CT]
theorem CT_how36_0 : CT.how 36 0 = .data := by simp [CT]
theorem CT_how36_1 : CT.how 36 1 = .data := by simp [CT]
theorem CT_how38_0 : CT.how 38 0 = .data := by simp [CT]
theorem CT_how38_1 : CT.how 38 1 = .data := by simp [CT]
theorem CT_how72_0 : CT.how 72 0 = .data := by simp [CT]
theorem CT_how72_1 : CT.how 72 1 = .data := by simp [CT]
theorem CT_how72_2 : CT.how 72 2 = .data := by simp [CT]
theorem CT_how49_0 : CT.how 49 0 = .data := by simp [CT]
theorem CT_how49_1 : CT.how 49 1 = .data := by simp [CT]
theorem CT_how49_2 : CT.how 49 2 = .data := by simp [CT]
theorem CT_how16_0 : CT.how 16 0 = .data := by simp [CT]
theorem CT_how51_0 : CT.how 51 0 = .data := by simp [CT]
theorem CT_how51_1 : CT.how 51 1 = .data := by simp [CT]
theorem CT_how17_0 : CT.how 17 0 = .data := by simp [CT]
theorem CT_how3_0 : CT.how 3 0 = .data := by simp [CT]
theorem CT_how4_0 : CT.how 4 0 = .data := by simp [CT]
theorem CT_how5_0 : CT.how 5 0 = .data := by simp [CT]
theorem CT_how5_1 : CT.how 5 1 = .data := by simp [CT]
theorem CT_how5_2 : CT.how 5 2 = .data := by simp [CT]
theorem CT_how7_0 : CT.how 7 0 = .data := by simp [CT]
theorem CT_how9_0 : CT.how 9 0 = .data := by simp [CT]
theorem CT_how9_1 : CT.how 9 1 = .data := by simp [CT]
theorem CT_how9_2 : CT.how 9 2 = .data := by simp [CT]
theorem CT_how10_0 : CT.how 10 0 = .data := by simp [CT]
theorem CT_how10_1 : CT.how 10 1 = .data := by simp [CT]
theorem CT_how79_0 : CT.how 79 0 = .data := by simp [CT]
theorem CT_how79_1 : CT.how 79 1 = .data := by simp [CT]
theorem CT_how78_0 : CT.how 78 0 = .data := by simp [CT]
theorem CT_how78_1 : CT.how 78 1 = .data := by simp [CT]
theorem CT_how78_2 : CT.how 78 2 = .data := by simp [CT]
theorem CT_how53_0 : CT.how 53 0 = .data := by simp [CT]
theorem CT_how53_1 : CT.how 53 1 = .data := by simp [CT]
theorem CT_how53_2 : CT.how 53 2 = .data := by simp [CT]
theorem CT_how54_0 : CT.how 54 0 = .data := by simp [CT]
theorem CT_how54_1 : CT.how 54 1 = .data := by simp [CT]
theorem CT_how23_0 : CT.how 23 0 = .data := by simp [CT]
theorem CT_how24_0 : CT.how 24 0 = .data := by simp [CT]
theorem CT_how24_1 : CT.how 24 1 = .data := by simp [CT]
theorem CT_how24_2 : CT.how 24 2 = .data := by simp [CT]
theorem CT_how25_0 : CT.how 25 0 = .data := by simp [CT]
theorem CT_how28_0 : CT.how 28 0 = .data := by simp [CT]
theorem CT_how29_0 : CT.how 29 0 = .data := by simp [CT]
theorem CT_how29_1 : CT.how 29 1 = .data := by simp [CT]
theorem CT_how31_0 : CT.how 31 0 = .data := by simp [CT]
theorem CT_how32_0 : CT.how 32 0 = .data := by simp [CT]
theorem CT_how32_1 : CT.how 32 1 = .data := by simp [CT]
theorem CT_how62_0 : CT.how 62 0 = .data := by simp [CT]
theorem CT_how62_1 : CT.how 62 1 = .data := by simp [CT]
theorem CT_how46_0 : CT.how 46 0 = .data := by simp [CT]
theorem CT_how46_1 : CT.how 46 1 = .data := by simp [CT]
theorem CT_how66_0 : CT.how 66 0 = .data := by simp [CT]
theorem CT_how80_0 : CT.how 80 0 = .data := by simp [CT]
theorem CT_how45_0 : CT.how 45 0 = .data := by simp [CT]
theorem CT_how56_0 : CT.how 56 0 = .data := by simp [CT]
theorem CT_how57_0 : CT.how 57 0 = .data := by simp [CT]
theorem CT_how57_1 : CT.how 57 1 = .data := by simp [CT]
theorem CT_how57_2 : CT.how 57 2 = .data := by simp [CT]
theorem CT_how40_0 : CT.how 40 0 = .data := by simp [CT]
theorem CT_how41_0 : CT.how 41 0 = .data := by simp [CT]
theorem CT_how41_1 : CT.how 41 1 = .data := by simp [CT]
theorem CT_how41_2 : CT.how 41 2 = .data := by simp [CT]
theorem CT_how42_0 : CT.how 42 0 = .data := by simp [CT]
theorem CT_how42_1 : CT.how 42 1 = .data := by simp [CT]
theorem CT_how59_0 : CT.how 59 0 = .data := by simp [CT]
theorem CT_how58_0 : CT.how 58 0 = .data := by simp [CT]
theorem CT_how58_1 : CT.how 58 1 = .data := by simp [CT]
theorem CT_how61_0 : CT.how 61 0 = .data := by simp [CT]
theorem CT_how61_1 : CT.how 61 1 = .data := by simp [CT]
theorem CT_how63_0 : CT.how 63 0 = .data := by simp [CT]
theorem CT_how63_1 : CT.how 63 1 = .data := by simp [CT]
theorem CT_how60_0 : CT.how 60 0 = .data := by simp [CT]
theorem CT_how43_0 : CT.how 43 0 = .data := by simp [CT]
theorem CT_how43_1 : CT.how 43 1 = .data := by simp [CT]
theorem CT_how43_2 : CT.how 43 2 = .data := by simp [CT]
theorem CT_how81_0 : CT.how 81 0 = .data := by simp [CT]
theorem CT_how67_0 : CT.how 67 0 = .data := by simp [CT]
theorem CT_how65_0 : CT.how 65 0 = .data := by simp [CT]
theorem CT_how64_0 : CT.how 64 0 = .data := by simp [CT]
theorem CT_how64_1 : CT.how 64 1 = .data := by simp [CT]
theorem CT_how68_0 : CT.how 68 0 = .data := by simp [CT]
theorem CT_how44_0 : CT.how 44 0 = .data := by simp [CT]
theorem CT_how47_0 : CT.how 47 0 = .data := by simp [CT]
theorem CT_how6_0 : CT.how 6 0 = .data := by simp [CT]
theorem CT_how8_0 : CT.how 8 0 = .data := by simp [CT]
theorem CT_how8_1 : CT.how 8 1 = .data := by simp [CT]
theorem CT_how11_0 : CT.how 11 0 = .data := by simp [CT]
theorem CT_how11_1 : CT.how 11 1 = .data := by simp [CT]
theorem CT_how11_2 : CT.how 11 2 = .data := by simp [CT]
theorem CT_how12_0 : CT.how 12 0 = .data := by simp [CT]
theorem CT_how12_1 : CT.how 12 1 = .data := by simp [CT]
theorem CT_how13_0 : CT.how 13 0 = .data := by simp [CT]
theorem CT_how13_1 : CT.how 13 1 = .data := by simp [CT]
theorem moveGive_nil {h : Heap} {s : St} : moveGive h s (.cv .nil) = some ([.cv .nil], h) := rfl
theorem moveGive_row {h : Heap} {s : St} {k : Nat} {xs : List DVal} : moveGive h s (.cv (.row k xs)) = some ([.cv (.row k xs)], h) := rfl
attribute [go_sem] moveGive_nil moveGive_row
theorem sizes_rep1 {n : Nat} {a b : DVal} : sizesOk 2 (List.replicate n (.agg [a, b])) = true := by simp [sizesOk, DVal.cells]
theorem sizes_rep2 {n : Nat} {a b c : DVal} : sizesOk 3 (List.replicate n (.agg [a, b, c])) = true := by simp [sizesOk, DVal.cells]
theorem sizes_rep3 {n : Nat} {k : IntKind} {a : Int} : sizesOk 1 (List.replicate n (.int k a)) = true := by simp [sizesOk, DVal.cells]
theorem sizes_rep4 {n : Nat} {a : Bool} : sizesOk 1 (List.replicate n (.bool a)) = true := by simp [sizesOk, DVal.cells]
attribute [go_sem] sizes_rep1 sizes_rep2 sizes_rep3 sizes_rep4 List.length_replicate decide_true Nat.lt_irrefl
theorem resd15 {s : St} {r : ResultVar} {rs : List ResultVar} : results CT 15 s (r :: rs) = resHead CT 15 s rs (resVal CT.P s r) := results_data CT_gives15
theorem resd35 {s : St} {r : ResultVar} {rs : List ResultVar} : results CT 35 s (r :: rs) = resHead CT 35 s rs (resVal CT.P s r) := results_data CT_gives35
theorem resd34 {s : St} {r : ResultVar} {rs : List ResultVar} : results CT 34 s (r :: rs) = resHead CT 34 s rs (resVal CT.P s r) := results_data CT_gives34
theorem resd27 {s : St} {r : ResultVar} {rs : List ResultVar} : results CT 27 s (r :: rs) = resHead CT 27 s rs (resVal CT.P s r) := results_data CT_gives27
theorem resd26 {s : St} {r : ResultVar} {rs : List ResultVar} : results CT 26 s (r :: rs) = resHead CT 26 s rs (resVal CT.P s r) := results_data CT_gives26
theorem resd33 {s : St} {r : ResultVar} {rs : List ResultVar} : results CT 33 s (r :: rs) = resHead CT 33 s rs (resVal CT.P s r) := results_data CT_gives33
theorem resd55 {s : St} {r : ResultVar} {rs : List ResultVar} : results CT 55 s (r :: rs) = resHead CT 55 s rs (resVal CT.P s r) := results_data CT_gives55
theorem resd30 {s : St} {r : ResultVar} {rs : List ResultVar} : results CT 30 s (r :: rs) = resHead CT 30 s rs (resVal CT.P s r) := results_data CT_gives30
theorem resd37 {s : St} {r : ResultVar} {rs : List ResultVar} : results CT 37 s (r :: rs) = resHead CT 37 s rs (resVal CT.P s r) := results_data CT_gives37
theorem resd39 {s : St} {r : ResultVar} {rs : List ResultVar} : results CT 39 s (r :: rs) = resHead CT 39 s rs (resVal CT.P s r) := results_data CT_gives39
theorem resd50 {s : St} {r : ResultVar} {rs : List ResultVar} : results CT 50 s (r :: rs) = resHead CT 50 s rs (resVal CT.P s r) := results_data CT_gives50
theorem resd74 {s : St} {r : ResultVar} {rs : List ResultVar} : results CT 74 s (r :: rs) = resHead CT 74 s rs (resVal CT.P s r) := results_data CT_gives74
theorem resd75 {s : St} {r : ResultVar} {rs : List ResultVar} : results CT 75 s (r :: rs) = resHead CT 75 s rs (resVal CT.P s r) := results_data CT_gives75
theorem resd18 {s : St} {r : ResultVar} {rs : List ResultVar} : results CT 18 s (r :: rs) = resHead CT 18 s rs (resVal CT.P s r) := results_data CT_gives18
theorem resd22 {s : St} {r : ResultVar} {rs : List ResultVar} : results CT 22 s (r :: rs) = resHead CT 22 s rs (resVal CT.P s r) := results_data CT_gives22
theorem resd19 {s : St} {r : ResultVar} {rs : List ResultVar} : results CT 19 s (r :: rs) = resHead CT 19 s rs (resVal CT.P s r) := results_data CT_gives19
theorem resd73 {s : St} {r : ResultVar} {rs : List ResultVar} : results CT 73 s (r :: rs) = resHead CT 73 s rs (resVal CT.P s r) := results_data CT_gives73
theorem resd71 {s : St} {r : ResultVar} {rs : List ResultVar} : results CT 71 s (r :: rs) = resHead CT 71 s rs (resVal CT.P s r) := results_data CT_gives71
theorem resd70 {s : St} {r : ResultVar} {rs : List ResultVar} : results CT 70 s (r :: rs) = resHead CT 70 s rs (resVal CT.P s r) := results_data CT_gives70
theorem resd69 {s : St} {r : ResultVar} {rs : List ResultVar} : results CT 69 s (r :: rs) = resHead CT 69 s rs (resVal CT.P s r) := results_data CT_gives69
theorem resd48 {s : St} {r : ResultVar} {rs : List ResultVar} : results CT 48 s (r :: rs) = resHead CT 48 s rs (resVal CT.P s r) := results_data CT_gives48
theorem resd76 {s : St} {r : ResultVar} {rs : List ResultVar} : results CT 76 s (r :: rs) = resHead CT 76 s rs (resVal CT.P s r) := results_data CT_gives76
theorem resd77 {s : St} {r : ResultVar} {rs : List ResultVar} : results CT 77 s (r :: rs) = resHead CT 77 s rs (resVal CT.P s r) := results_data CT_gives77
theorem resd52 {s : St} {r : ResultVar} {rs : List ResultVar} : results CT 52 s (r :: rs) = resHead CT 52 s rs (resVal CT.P s r) := results_data CT_gives52
theorem resd20 {s : St} {r : ResultVar} {rs : List ResultVar} : results CT 20 s (r :: rs) = resHead CT 20 s rs (resVal CT.P s r) := results_data CT_gives20
theorem resd36 {s : St} {r : ResultVar} {rs : List ResultVar} : results CT 36 s (r :: rs) = resHead CT 36 s rs (resVal CT.P s r) := results_data CT_gives36
theorem resd38 {s : St} {r : ResultVar} {rs : List ResultVar} : results CT 38 s (r :: rs) = resHead CT 38 s rs (resVal CT.P s r) := results_data CT_gives38
theorem resd72 {s : St} {r : ResultVar} {rs : List ResultVar} : results CT 72 s (r :: rs) = resHead CT 72 s rs (resVal CT.P s r) := results_data CT_gives72
theorem resd49 {s : St} {r : ResultVar} {rs : List ResultVar} : results CT 49 s (r :: rs) = resHead CT 49 s rs (resVal CT.P s r) := results_data CT_gives49
theorem resd16 {s : St} {r : ResultVar} {rs : List ResultVar} : results CT 16 s (r :: rs) = resHead CT 16 s rs (resVal CT.P s r) := results_data CT_gives16
theorem resd51 {s : St} {r : ResultVar} {rs : List ResultVar} : results CT 51 s (r :: rs) = resHead CT 51 s rs (resVal CT.P s r) := results_data CT_gives51
theorem resd17 {s : St} {r : ResultVar} {rs : List ResultVar} : results CT 17 s (r :: rs) = resHead CT 17 s rs (resVal CT.P s r) := results_data CT_gives17
theorem resd14 {s : St} {r : ResultVar} {rs : List ResultVar} : results CT 14 s (r :: rs) = resHead CT 14 s rs (resVal CT.P s r) := results_data CT_gives14
theorem resd3 {s : St} {r : ResultVar} {rs : List ResultVar} : results CT 3 s (r :: rs) = resHead CT 3 s rs (resVal CT.P s r) := results_data CT_gives3
theorem resd4 {s : St} {r : ResultVar} {rs : List ResultVar} : results CT 4 s (r :: rs) = resHead CT 4 s rs (resVal CT.P s r) := results_data CT_gives4
theorem resd5 {s : St} {r : ResultVar} {rs : List ResultVar} : results CT 5 s (r :: rs) = resHead CT 5 s rs (resVal CT.P s r) := results_data CT_gives5
theorem resd7 {s : St} {r : ResultVar} {rs : List ResultVar} : results CT 7 s (r :: rs) = resHead CT 7 s rs (resVal CT.P s r) := results_data CT_gives7
theorem resd9 {s : St} {r : ResultVar} {rs : List ResultVar} : results CT 9 s (r :: rs) = resHead CT 9 s rs (resVal CT.P s r) := results_data CT_gives9
theorem resd10 {s : St} {r : ResultVar} {rs : List ResultVar} : results CT 10 s (r :: rs) = resHead CT 10 s rs (resVal CT.P s r) := results_data CT_gives10
theorem resd79 {s : St} {r : ResultVar} {rs : List ResultVar} : results CT 79 s (r :: rs) = resHead CT 79 s rs (resVal CT.P s r) := results_data CT_gives79
theorem resd78 {s : St} {r : ResultVar} {rs : List ResultVar} : results CT 78 s (r :: rs) = resHead CT 78 s rs (resVal CT.P s r) := results_data CT_gives78
theorem resd53 {s : St} {r : ResultVar} {rs : List ResultVar} : results CT 53 s (r :: rs) = resHead CT 53 s rs (resVal CT.P s r) := results_data CT_gives53
theorem resd54 {s : St} {r : ResultVar} {rs : List ResultVar} : results CT 54 s (r :: rs) = resHead CT 54 s rs (resVal CT.P s r) := results_data CT_gives54
theorem resd23 {s : St} {r : ResultVar} {rs : List ResultVar} : results CT 23 s (r :: rs) = resHead CT 23 s rs (resVal CT.P s r) := results_data CT_gives23
theorem resd24 {s : St} {r : ResultVar} {rs : List ResultVar} : results CT 24 s (r :: rs) = resHead CT 24 s rs (resVal CT.P s r) := results_data CT_gives24
theorem resd25 {s : St} {r : ResultVar} {rs : List ResultVar} : results CT 25 s (r :: rs) = resHead CT 25 s rs (resVal CT.P s r) := results_data CT_gives25
theorem resd28 {s : St} {r : ResultVar} {rs : List ResultVar} : results CT 28 s (r :: rs) = resHead CT 28 s rs (resVal CT.P s r) := results_data CT_gives28
theorem resd29 {s : St} {r : ResultVar} {rs : List ResultVar} : results CT 29 s (r :: rs) = resHead CT 29 s rs (resVal CT.P s r) := results_data CT_gives29
theorem resd31 {s : St} {r : ResultVar} {rs : List ResultVar} : results CT 31 s (r :: rs) = resHead CT 31 s rs (resVal CT.P s r) := results_data CT_gives31
theorem resd32 {s : St} {r : ResultVar} {rs : List ResultVar} : results CT 32 s (r :: rs) = resHead CT 32 s rs (resVal CT.P s r) := results_data CT_gives32
theorem resd62 {s : St} {r : ResultVar} {rs : List ResultVar} : results CT 62 s (r :: rs) = resHead CT 62 s rs (resVal CT.P s r) := results_data CT_gives62
theorem resd46 {s : St} {r : ResultVar} {rs : List ResultVar} : results CT 46 s (r :: rs) = resHead CT 46 s rs (resVal CT.P s r) := results_data CT_gives46
theorem resd45 {s : St} {r : ResultVar} {rs : List ResultVar} : results CT 45 s (r :: rs) = resHead CT 45 s rs (resVal CT.P s r) := results_data CT_gives45
theorem resd56 {s : St} {r : ResultVar} {rs : List ResultVar} : results CT 56 s (r :: rs) = resHead CT 56 s rs (resVal CT.P s r) := results_data CT_gives56
theorem resd57 {s : St} {r : ResultVar} {rs : List ResultVar} : results CT 57 s (r :: rs) = resHead CT 57 s rs (resVal CT.P s r) := results_data CT_gives57
theorem resd40 {s : St} {r : ResultVar} {rs : List ResultVar} : results CT 40 s (r :: rs) = resHead CT 40 s rs (resVal CT.P s r) := results_data CT_gives40
theorem resd41 {s : St} {r : ResultVar} {rs : List ResultVar} : results CT 41 s (r :: rs) = resHead CT 41 s rs (resVal CT.P s r) := results_data CT_gives41
theorem resd42 {s : St} {r : ResultVar} {rs : List ResultVar} : results CT 42 s (r :: rs) = resHead CT 42 s rs (resVal CT.P s r) := results_data CT_gives42
theorem resd59 {s : St} {r : ResultVar} {rs : List ResultVar} : results CT 59 s (r :: rs) = resHead CT 59 s rs (resVal CT.P s r) := results_data CT_gives59
theorem resd58 {s : St} {r : ResultVar} {rs : List ResultVar} : results CT 58 s (r :: rs) = resHead CT 58 s rs (resVal CT.P s r) := results_data CT_gives58
theorem resd61 {s : St} {r : ResultVar} {rs : List ResultVar} : results CT 61 s (r :: rs) = resHead CT 61 s rs (resVal CT.P s r) := results_data CT_gives61
theorem resd63 {s : St} {r : ResultVar} {rs : List ResultVar} : results CT 63 s (r :: rs) = resHead CT 63 s rs (resVal CT.P s r) := results_data CT_gives63
theorem resd60 {s : St} {r : ResultVar} {rs : List ResultVar} : results CT 60 s (r :: rs) = resHead CT 60 s rs (resVal CT.P s r) := results_data CT_gives60
theorem resd43 {s : St} {r : ResultVar} {rs : List ResultVar} : results CT 43 s (r :: rs) = resHead CT 43 s rs (resVal CT.P s r) := results_data CT_gives43
theorem resd81 {s : St} {r : ResultVar} {rs : List ResultVar} : results CT 81 s (r :: rs) = resHead CT 81 s rs (resVal CT.P s r) := results_data CT_gives81
theorem resd67 {s : St} {r : ResultVar} {rs : List ResultVar} : results CT 67 s (r :: rs) = resHead CT 67 s rs (resVal CT.P s r) := results_data CT_gives67
theorem resd65 {s : St} {r : ResultVar} {rs : List ResultVar} : results CT 65 s (r :: rs) = resHead CT 65 s rs (resVal CT.P s r) := results_data CT_gives65
theorem resd64 {s : St} {r : ResultVar} {rs : List ResultVar} : results CT 64 s (r :: rs) = resHead CT 64 s rs (resVal CT.P s r) := results_data CT_gives64
theorem resd68 {s : St} {r : ResultVar} {rs : List ResultVar} : results CT 68 s (r :: rs) = resHead CT 68 s rs (resVal CT.P s r) := results_data CT_gives68
theorem resd44 {s : St} {r : ResultVar} {rs : List ResultVar} : results CT 44 s (r :: rs) = resHead CT 44 s rs (resVal CT.P s r) := results_data CT_gives44
theorem resd47 {s : St} {r : ResultVar} {rs : List ResultVar} : results CT 47 s (r :: rs) = resHead CT 47 s rs (resVal CT.P s r) := results_data CT_gives47
theorem resd21 {s : St} {r : ResultVar} {rs : List ResultVar} : results CT 21 s (r :: rs) = resHead CT 21 s rs (resVal CT.P s r) := results_data CT_gives21
theorem resd6 {s : St} {r : ResultVar} {rs : List ResultVar} : results CT 6 s (r :: rs) = resHead CT 6 s rs (resVal CT.P s r) := results_data CT_gives6
theorem resd8 {s : St} {r : ResultVar} {rs : List ResultVar} : results CT 8 s (r :: rs) = resHead CT 8 s rs (resVal CT.P s r) := results_data CT_gives8
theorem resd11 {s : St} {r : ResultVar} {rs : List ResultVar} : results CT 11 s (r :: rs) = resHead CT 11 s rs (resVal CT.P s r) := results_data CT_gives11
theorem resd12 {s : St} {r : ResultVar} {rs : List ResultVar} : results CT 12 s (r :: rs) = resHead CT 12 s rs (resVal CT.P s r) := results_data CT_gives12
theorem resd13 {s : St} {r : ResultVar} {rs : List ResultVar} : results CT 13 s (r :: rs) = resHead CT 13 s rs (resVal CT.P s r) := results_data CT_gives13
theorem resd66 {s : St} {t : Nat} : results CT 66 s [.tmp t] = moveGive s.box s (s.get t) := results_move CT_gives66
theorem resd80 {s : St} {t : Nat} : results CT 80 s [.tmp t] = moveGive s.box s (s.get t) := results_move CT_gives80
attribute [go_sem] resd15 Try.results15 resd35 Try.results35 resd34 Try.results34 resd27 Try.results27 resd26 Try.results26 resd33 Try.results33 resd55 Try.results55 resd30 Try.results30 resd37 Try.results37 resd39 Try.results39 resd50 Try.results50 resd74 Try.results74 resd75 Try.results75 resd18 Try.results18 resd22 Try.results22 resd19 Try.results19 resd73 Try.results73 resd71 Try.results71 resd70 Try.results70 resd69 Try.results69 resd48 Try.results48 resd76 Try.results76 resd77 Try.results77 resd52 Try.results52 resd20 Try.results20 resd36 Try.results36 resd38 Try.results38 resd72 Try.results72 resd49 Try.results49 resd16 Try.results16 resd51 Try.results51 resd17 Try.results17 resd14 Try.results14 resd3 Try.results3 resd4 Try.results4 resd5 Try.results5 resd7 Try.results7 resd9 Try.results9 resd10 Try.results10 resd79 Try.results79 resd78 Try.results78 resd53 Try.results53 resd54 Try.results54 resd23 Try.results23 resd24 Try.results24 resd25 Try.results25 resd28 Try.results28 resd29 Try.results29 resd31 Try.results31 resd32 Try.results32 resd62 Try.results62 resd46 Try.results46 resd66 Try.results66 resd80 Try.results80 resd45 Try.results45 resd56 Try.results56 resd57 Try.results57 resd40 Try.results40 resd41 Try.results41 resd42 Try.results42 resd59 Try.results59 resd58 Try.results58 resd61 Try.results61 resd63 Try.results63 resd60 Try.results60 resd43 Try.results43 resd81 Try.results81 resd67 Try.results67 resd65 Try.results65 resd64 Try.results64 resd68 Try.results68 resd44 Try.results44 resd47 Try.results47 resd21 Try.results21 resd6 Try.results6 resd8 Try.results8 resd11 Try.results11 resd12 Try.results12 resd13 Try.results13
theorem info9 : Try.prog.info? 9 = some Try.t9 := info_of someWorld Try.typeInfo9
theorem info28 : Try.prog.info? 28 = some Try.t28 := info_of someWorld Try.typeInfo28
theorem info25 : Try.prog.info? 25 = some Try.t25 := info_of someWorld Try.typeInfo25
theorem info26 : Try.prog.info? 26 = some Try.t26 := info_of someWorld Try.typeInfo26
theorem info35 : Try.prog.info? 35 = some Try.t35 := info_of someWorld Try.typeInfo35
theorem info37 : Try.prog.info? 37 = some Try.t37 := info_of someWorld Try.typeInfo37
theorem info5 : Try.prog.info? 5 = some Try.t5 := info_of someWorld Try.typeInfo5
theorem info3 : Try.prog.info? 3 = some Try.t3 := info_of someWorld Try.typeInfo3
theorem info4 : Try.prog.info? 4 = some Try.t4 := info_of someWorld Try.typeInfo4
theorem info76 : Try.prog.info? 76 = some Try.t76 := info_of someWorld Try.typeInfo76
theorem info78 : Try.prog.info? 78 = some Try.t78 := info_of someWorld Try.typeInfo78
theorem info22 : Try.prog.info? 22 = some Try.t22 := info_of someWorld Try.typeInfo22
theorem info82 : Try.prog.info? 82 = some Try.t82 := info_of someWorld Try.typeInfo82
theorem info41 : Try.prog.info? 41 = some Try.t41 := info_of someWorld Try.typeInfo41
theorem info86 : Try.prog.info? 86 = some Try.t86 := info_of someWorld Try.typeInfo86
theorem info91 : Try.prog.info? 91 = some Try.t91 := info_of someWorld Try.typeInfo91
theorem info48 : Try.prog.info? 48 = some Try.t48 := info_of someWorld Try.typeInfo48
theorem info88 : Try.prog.info? 88 = some Try.t88 := info_of someWorld Try.typeInfo88
theorem info73 : Try.prog.info? 73 = some Try.t73 := info_of someWorld Try.typeInfo73
theorem info51 : Try.prog.info? 51 = some Try.t51 := info_of someWorld Try.typeInfo51
theorem info99 : Try.prog.info? 99 = some Try.t99 := info_of someWorld Try.typeInfo99
theorem cells9 : Try.prog.cellsOf 9 = 1 := (cells_of info9).trans rfl
theorem cells28 : Try.prog.cellsOf 28 = 2 := (cells_of info28).trans rfl
theorem cells25 : Try.prog.cellsOf 25 = 1 := (cells_of info25).trans rfl
theorem cells26 : Try.prog.cellsOf 26 = 1 := (cells_of info26).trans rfl
theorem cells35 : Try.prog.cellsOf 35 = 1 := (cells_of info35).trans rfl
theorem cells37 : Try.prog.cellsOf 37 = 2 := (cells_of info37).trans rfl
theorem cells3 : Try.prog.cellsOf 3 = 1 := (cells_of info3).trans rfl
theorem cells5 : Try.prog.cellsOf 5 = 1 := (cells_of info5).trans rfl
theorem cells4 : Try.prog.cellsOf 4 = 1 := (cells_of info4).trans rfl
theorem cells76 : Try.prog.cellsOf 76 = 1 := (cells_of info76).trans rfl
theorem cells78 : Try.prog.cellsOf 78 = 3 := (cells_of info78).trans rfl
theorem cells22 : Try.prog.cellsOf 22 = 1 := (cells_of info22).trans rfl
theorem cells82 : Try.prog.cellsOf 82 = 3 := (cells_of info82).trans rfl
theorem cells41 : Try.prog.cellsOf 41 = 1 := (cells_of info41).trans rfl
theorem cells86 : Try.prog.cellsOf 86 = 1 := (cells_of info86).trans rfl
theorem cells91 : Try.prog.cellsOf 91 = 2 := (cells_of info91).trans rfl
theorem cells48 : Try.prog.cellsOf 48 = 1 := (cells_of info48).trans rfl
theorem cells88 : Try.prog.cellsOf 88 = 5 := (cells_of info88).trans rfl
theorem cells73 : Try.prog.cellsOf 73 = 3 := (cells_of info73).trans rfl
theorem cells51 : Try.prog.cellsOf 51 = 1 := (cells_of info51).trans rfl
theorem cells99 : Try.prog.cellsOf 99 = 2 := (cells_of info99).trans rfl
theorem zeros37 : zeroCVs Try.prog 37 = some [.val (.int .u8 (0 : Int)), .val (.int .i64 (0 : Int))] := by
  unfold zeroCVs isAg; rw [info37, Try.underlying37]; simp [bs, zeroCV, Try.t37]
theorem zeros5 : zeroCVs Try.prog 5 = some [.val (.int .u8 (0 : Int))] := by
  unfold zeroCVs isAg; rw [info5, Try.underlying5]; simp [bs, zeroCV, Try.t5]
theorem zeros3 : zeroCVs Try.prog 3 = some [.val (.int .i64 (0 : Int))] := by
  unfold zeroCVs isAg; rw [info3, Try.underlying3]; simp [bs, zeroCV, Try.t3]
theorem bytes3 : Try.prog.bytesOf 3 = 8 := (bytes_of info3).trans rfl
theorem zd3 : zeroD Try.prog 3 = some (.int .i64 (0 : Int)) := by
  unfold zeroD ofCells isAg; rw [zeros3, cells3, Try.underlying3]; simp [toDs, CV.toD, bs, DVal.cells]
theorem zok3 : zeroOk Try.prog 3 = true := by unfold zeroOk; rw [info3]; rfl
theorem zfits3 : zeroFits Try.prog 3 = true := by unfold zeroFits; rw [info3]; rfl
theorem zok5 : zeroOk Try.prog 5 = true := by unfold zeroOk; rw [info5]; rfl
theorem u8_5 : isU8 Try.prog 5 = true := by unfold isU8; rw [Try.underlying5]
theorem zok9 : zeroOk Try.prog 9 = true := by unfold zeroOk; rw [info9]; rfl
theorem bytes9 : Try.prog.bytesOf 9 = 16 := (bytes_of info9).trans rfl
theorem zfits9 : zeroFits Try.prog 9 = true := by unfold zeroFits; rw [info9]; rfl
theorem eqb4 {a b : Bool} : eqBin Try.prog .eql 4 (.bool a) (.bool b) = some (.bool (a == b)) := by simp [eqBin, eqD, Try.underlying4, scalarEq]
theorem neb4 {a b : Bool} : eqBin Try.prog .neq 4 (.bool a) (.bool b) = some (.bool (!(a == b))) := by simp [eqBin, eqD, Try.underlying4, scalarEq]
theorem eqs37 : Try.prog.stoodInHeld 37 = false := by kernel_rfl
theorem eqg37 : Try.prog.eqGuardType Try.prog.depth 37 = false := by kernel_rfl
theorem eqBeql37 {a0 b0 : Int} {a1 b1 : Int} : eqBin Try.prog .eql 37 (.agg [.int .u8 a0, .int .i64 a1]) (.agg [.int .u8 b0, .int .i64 b1]) = some (.bool (a0 == b0 && (a1 == b1 && true))) :=
  eqBin_eql (eqD_of Try.underlying37 eqs37 eqg37 (eqF_cons (by simp [isAg, Try.underlying5]) (by simp [eqF1, Try.underlying5, scalarEq, bs_beq']) (eqF_cons (by simp [isAg, Try.underlying3]) (by simp [eqF1, Try.underlying3, scalarEq, bs_beq']) eqF_nil)))
theorem eqBneq37 {a0 b0 : Int} {a1 b1 : Int} : eqBin Try.prog .neq 37 (.agg [.int .u8 a0, .int .i64 a1]) (.agg [.int .u8 b0, .int .i64 b1]) = some (.bool (!(a0 == b0 && (a1 == b1 && true)))) :=
  eqBin_neq (eqD_of Try.underlying37 eqs37 eqg37 (eqF_cons (by simp [isAg, Try.underlying5]) (by simp [eqF1, Try.underlying5, scalarEq, bs_beq']) (eqF_cons (by simp [isAg, Try.underlying3]) (by simp [eqF1, Try.underlying3, scalarEq, bs_beq']) eqF_nil)))
theorem bytes5 : Try.prog.bytesOf 5 = 1 := (bytes_of info5).trans rfl
theorem zfits5 : zeroFits Try.prog 5 = true := by unfold zeroFits; rw [info5]; rfl
theorem fok37 : fieldsOk Try.prog 37 = true := by
  unfold fieldsOk; rw [Try.underlying37]; simp [info5, info3]
theorem place37_0 : place Try.prog 37 0 = some (0, 1) := by
  unfold place; rw [Try.underlying37]; simp [cells5]
theorem place37_1 : place Try.prog 37 1 = some (1, 1) := by
  unfold place; rw [Try.underlying37]; simp [cells3]
theorem zok37 : zeroOk Try.prog 37 = true := by unfold zeroOk; rw [info37]; rfl
theorem bytes37 : Try.prog.bytesOf 37 = 16 := (bytes_of info37).trans rfl
theorem zfits37 : zeroFits Try.prog 37 = true := by unfold zeroFits; rw [info37]; rfl
theorem zok4 : zeroOk Try.prog 4 = true := by unfold zeroOk; rw [info4]; rfl
theorem zok35 : zeroOk Try.prog 35 = true := by unfold zeroOk; rw [info35]; rfl
theorem bytes4 : Try.prog.bytesOf 4 = 1 := (bytes_of info4).trans rfl
theorem zfits4 : zeroFits Try.prog 4 = true := by unfold zeroFits; rw [info4]; rfl
theorem bytes35 : Try.prog.bytesOf 35 = 24 := (bytes_of info35).trans rfl
theorem zfits35 : zeroFits Try.prog 35 = true := by unfold zeroFits; rw [info35]; rfl
theorem zeros28 : zeroCVs Try.prog 28 = some [.nil, .nil] := by
  unfold zeroCVs isAg; rw [info28, Try.underlying28]; simp [bs, zeroCV, Try.t28]
theorem zeros25 : zeroCVs Try.prog 25 = some [.nil] := by
  unfold zeroCVs isAg; rw [info25, Try.underlying25]; simp [bs, zeroCV, Try.t25]
theorem zeros26 : zeroCVs Try.prog 26 = some [.nil] := by
  unfold zeroCVs isAg; rw [info26, Try.underlying26]; simp [bs, zeroCV, Try.t26]
theorem fok28 : fieldsOk Try.prog 28 = true := by
  unfold fieldsOk; rw [Try.underlying28]; simp [info25, info26]
theorem place28_0 : place Try.prog 28 0 = some (0, 1) := by
  unfold place; rw [Try.underlying28]; simp [cells25]
theorem place28_1 : place Try.prog 28 1 = some (1, 1) := by
  unfold place; rw [Try.underlying28]; simp [cells26]
theorem fok78 : fieldsOk Try.prog 78 = true := by
  unfold fieldsOk; rw [Try.underlying78]; simp [info28, info76]
theorem place78_0 : place Try.prog 78 0 = some (0, 2) := by
  unfold place; rw [Try.underlying78]; simp [cells28]
theorem place78_1 : place Try.prog 78 1 = some (2, 1) := by
  unfold place; rw [Try.underlying78]; simp [cells76]
theorem zeros78 : zeroCVs Try.prog 78 = some [.nil, .nil, .val (.map none)] := by
  unfold zeroCVs isAg; rw [info78, Try.underlying78]; simp [bs, zeroCV, Try.t78]
theorem zeros76 : zeroCVs Try.prog 76 = some [.val (.map none)] := by
  unfold zeroCVs isAg; rw [info76, Try.underlying76]; simp [bs, zeroCV, Try.t76]
theorem fok82 : fieldsOk Try.prog 82 = true := by
  unfold fieldsOk; rw [Try.underlying82]; simp [info28, info22]
theorem place82_0 : place Try.prog 82 0 = some (0, 2) := by
  unfold place; rw [Try.underlying82]; simp [cells28]
theorem place82_1 : place Try.prog 82 1 = some (2, 1) := by
  unfold place; rw [Try.underlying82]; simp [cells22]
theorem zeros82 : zeroCVs Try.prog 82 = some [.nil, .nil, .nil] := by
  unfold zeroCVs isAg; rw [info82, Try.underlying82]; simp [bs, zeroCV, Try.t82]
theorem zeros22 : zeroCVs Try.prog 22 = some [.nil] := by
  unfold zeroCVs isAg; rw [info22, Try.underlying22]; simp [bs, zeroCV, Try.t22]
theorem zeros4 : zeroCVs Try.prog 4 = some [.val (.bool false)] := by
  unfold zeroCVs isAg; rw [info4, Try.underlying4]; simp [bs, zeroCV, Try.t4]
theorem zd4 : zeroD Try.prog 4 = some (.bool false) := by
  unfold zeroD ofCells isAg; rw [zeros4, cells4, Try.underlying4]; simp [toDs, CV.toD, bs, DVal.cells]
theorem fok91 : fieldsOk Try.prog 91 = true := by
  unfold fieldsOk; rw [Try.underlying91]; simp [info3, info3]
theorem place91_0 : place Try.prog 91 0 = some (0, 1) := by
  unfold place; rw [Try.underlying91]; simp [cells3]
theorem place91_1 : place Try.prog 91 1 = some (1, 1) := by
  unfold place; rw [Try.underlying91]; simp [cells3]
theorem zeros91 : zeroCVs Try.prog 91 = some [.val (.int .i64 (0 : Int)), .val (.int .i64 (0 : Int))] := by
  unfold zeroCVs isAg; rw [info91, Try.underlying91]; simp [bs, zeroCV, Try.t91]
theorem eqs91 : Try.prog.stoodInHeld 91 = false := by kernel_rfl
theorem eqg91 : Try.prog.eqGuardType Try.prog.depth 91 = false := by kernel_rfl
theorem eqBeql91 {a0 b0 : Int} {a1 b1 : Int} : eqBin Try.prog .eql 91 (.agg [.int .i64 a0, .int .i64 a1]) (.agg [.int .i64 b0, .int .i64 b1]) = some (.bool (a0 == b0 && (a1 == b1 && true))) :=
  eqBin_eql (eqD_of Try.underlying91 eqs91 eqg91 (eqF_cons (by simp [isAg, Try.underlying3]) (by simp [eqF1, Try.underlying3, scalarEq, bs_beq']) (eqF_cons (by simp [isAg, Try.underlying3]) (by simp [eqF1, Try.underlying3, scalarEq, bs_beq']) eqF_nil)))
theorem eqBneq91 {a0 b0 : Int} {a1 b1 : Int} : eqBin Try.prog .neq 91 (.agg [.int .i64 a0, .int .i64 a1]) (.agg [.int .i64 b0, .int .i64 b1]) = some (.bool (!(a0 == b0 && (a1 == b1 && true)))) :=
  eqBin_neq (eqD_of Try.underlying91 eqs91 eqg91 (eqF_cons (by simp [isAg, Try.underlying3]) (by simp [eqF1, Try.underlying3, scalarEq, bs_beq']) (eqF_cons (by simp [isAg, Try.underlying3]) (by simp [eqF1, Try.underlying3, scalarEq, bs_beq']) eqF_nil)))
theorem fok88 : fieldsOk Try.prog 88 = true := by
  unfold fieldsOk; rw [Try.underlying88]; simp [info28, info48, info86, info48]
theorem place88_0 : place Try.prog 88 0 = some (0, 2) := by
  unfold place; rw [Try.underlying88]; simp [cells28]
theorem place88_1 : place Try.prog 88 1 = some (2, 1) := by
  unfold place; rw [Try.underlying88]; simp [cells48]
theorem place88_2 : place Try.prog 88 2 = some (3, 1) := by
  unfold place; rw [Try.underlying88]; simp [cells86]
theorem place88_3 : place Try.prog 88 3 = some (4, 1) := by
  unfold place; rw [Try.underlying88]; simp [cells48]
theorem zeros88 : zeroCVs Try.prog 88 = some [.nil, .nil, .nil, .nil, .nil] := by
  unfold zeroCVs isAg; rw [info88, Try.underlying88]; simp [bs, zeroCV, Try.t88]
theorem zeros48 : zeroCVs Try.prog 48 = some [.nil] := by
  unfold zeroCVs isAg; rw [info48, Try.underlying48]; simp [bs, zeroCV, Try.t48]
theorem zeros86 : zeroCVs Try.prog 86 = some [.nil] := by
  unfold zeroCVs isAg; rw [info86, Try.underlying86]; simp [bs, zeroCV, Try.t86]
theorem bytes91 : Try.prog.bytesOf 91 = 16 := (bytes_of info91).trans rfl
theorem zfits91 : zeroFits Try.prog 91 = true := by unfold zeroFits; rw [info91]; rfl
theorem zd91 : zeroD Try.prog 91 = some (.agg [.int .i64 (Tdarray_cell.mk (0 : Int) (0 : Int)).of, .int .i64 (Tdarray_cell.mk (0 : Int) (0 : Int)).to]) := by
  unfold zeroD ofCells isAg; rw [zeros91, cells91, Try.underlying91]; simp [toDs, CV.toD, bs, DVal.cells]
theorem fok73 : fieldsOk Try.prog 73 = true := by
  unfold fieldsOk; rw [Try.underlying73]; simp [info28, info3]
theorem place73_0 : place Try.prog 73 0 = some (0, 2) := by
  unfold place; rw [Try.underlying73]; simp [cells28]
theorem place73_1 : place Try.prog 73 1 = some (2, 1) := by
  unfold place; rw [Try.underlying73]; simp [cells3]
theorem zeros73 : zeroCVs Try.prog 73 = some [.nil, .nil, .val (.int .i64 (0 : Int))] := by
  unfold zeroCVs isAg; rw [info73, Try.underlying73]; simp [bs, zeroCV, Try.t73]
theorem fok99 : fieldsOk Try.prog 99 = true := by
  unfold fieldsOk; rw [Try.underlying99]; simp [info51, info4]
theorem place99_0 : place Try.prog 99 0 = some (0, 1) := by
  unfold place; rw [Try.underlying99]; simp [cells51]
theorem place99_1 : place Try.prog 99 1 = some (1, 1) := by
  unfold place; rw [Try.underlying99]; simp [cells4]
theorem zeros99 : zeroCVs Try.prog 99 = some [.nil, .val (.bool false)] := by
  unfold zeroCVs isAg; rw [info99, Try.underlying99]; simp [bs, zeroCV, Try.t99]
theorem zeros51 : zeroCVs Try.prog 51 = some [.nil] := by
  unfold zeroCVs isAg; rw [info51, Try.underlying51]; simp [bs, zeroCV, Try.t51]
theorem pnneql41 : eqBin Try.prog .eql 41 (.ptr none) (.ptr none) = some (.bool true) := by simp [eqBin, eqD, Try.underlying41, scalarEq]
theorem pnnneq41 : eqBin Try.prog .neq 41 (.ptr none) (.ptr none) = some (.bool false) := by simp [eqBin, eqD, Try.underlying41, scalarEq]
theorem psneql41 {a : Nat × Nat} : eqBin Try.prog .eql 41 (.ptr (some a)) (.ptr none) = some (.bool false) := by simp [eqBin, eqD, Try.underlying41, scalarEq]
theorem psnneq41 {a : Nat × Nat} : eqBin Try.prog .neq 41 (.ptr (some a)) (.ptr none) = some (.bool true) := by simp [eqBin, eqD, Try.underlying41, scalarEq]
theorem pnseql41 {a : Nat × Nat} : eqBin Try.prog .eql 41 (.ptr none) (.ptr (some a)) = some (.bool false) := by simp [eqBin, eqD, Try.underlying41, scalarEq]
theorem pnsneq41 {a : Nat × Nat} : eqBin Try.prog .neq 41 (.ptr none) (.ptr (some a)) = some (.bool true) := by simp [eqBin, eqD, Try.underlying41, scalarEq]
theorem pnneql62 : eqBin Try.prog .eql 62 (.ptr none) (.ptr none) = some (.bool true) := by simp [eqBin, eqD, Try.underlying62, scalarEq]
theorem pnnneq62 : eqBin Try.prog .neq 62 (.ptr none) (.ptr none) = some (.bool false) := by simp [eqBin, eqD, Try.underlying62, scalarEq]
theorem psneql62 {a : Nat × Nat} : eqBin Try.prog .eql 62 (.ptr (some a)) (.ptr none) = some (.bool false) := by simp [eqBin, eqD, Try.underlying62, scalarEq]
theorem psnneq62 {a : Nat × Nat} : eqBin Try.prog .neq 62 (.ptr (some a)) (.ptr none) = some (.bool true) := by simp [eqBin, eqD, Try.underlying62, scalarEq]
theorem pnseql62 {a : Nat × Nat} : eqBin Try.prog .eql 62 (.ptr none) (.ptr (some a)) = some (.bool false) := by simp [eqBin, eqD, Try.underlying62, scalarEq]
theorem pnsneq62 {a : Nat × Nat} : eqBin Try.prog .neq 62 (.ptr none) (.ptr (some a)) = some (.bool true) := by simp [eqBin, eqD, Try.underlying62, scalarEq]
attribute [go_sem] CT_P Try.underlying22 Try.underlying3 cells9 Try.underlying9 cells28 Try.underlying28 cells25 Try.underlying25 cells26 Try.underlying26 cells35 Try.underlying35 cells37 Try.underlying37 zeros37 Try.underlying5 zeros5 zeros3 cells3 cells5 Try.underlying48 bytes3 zd3 cells4 Try.underlying4 zok3 zfits3 Try.underlying29 Try.underlying51 zok5 u8_5 zok9 bytes9 zfits9 eqb4 neb4 eqBeql37 eqBneq37 bytes5 zfits5 fok37 place37_0 place37_1 zok37 bytes37 zfits37 Try.underlying78 cells76 Try.underlying76 zok4 zok35 bytes4 zfits4 bytes35 zfits35 zeros28 zeros25 zeros26 fok28 place28_0 place28_1 fok78 place78_0 place78_1 zeros78 zeros76 cells78 Try.underlying82 cells22 fok82 place82_0 place82_1 zeros82 zeros22 cells82 Try.underlying34 zeros4 zd4 cells41 Try.underlying41 Try.underlying88 cells86 Try.underlying86 cells91 Try.underlying91 fok91 place91_0 place91_1 zeros91 eqBeql91 eqBneq91 cells48 fok88 place88_0 place88_1 place88_2 place88_3 zeros88 zeros48 zeros86 cells88 bytes91 zfits91 zd91 Try.underlying73 fok73 place73_0 place73_1 zeros73 cells73 Try.underlying99 cells51 fok99 place99_0 place99_1 zeros99 zeros51 cells99 pnneql41 pnnneq41 psneql41 psnneq41 pnseql41 pnsneq41 Try.underlying62 pnneql62 pnnneq62 psneql62 psnneq62 pnseql62 pnsneq62
attribute [go_sem] CT_how15_0 CT_how35_0 CT_how34_0 CT_how34_1 CT_how27_0 CT_how26_0 CT_how33_0 CT_how55_0 CT_how55_1 CT_how55_2 CT_how30_0 CT_how30_1 CT_how37_0 CT_how37_1 CT_how39_0 CT_how39_1 CT_how50_0 CT_how74_0 CT_how75_0 CT_how75_1 CT_how18_0 CT_how18_1 CT_how22_0 CT_how22_1 CT_how19_0 CT_how73_0 CT_how73_1 CT_how71_0 CT_how71_1 CT_how70_0 CT_how70_1 CT_how69_0 CT_how48_0 CT_how76_0 CT_how76_1 CT_how77_0 CT_how77_1 CT_how77_2 CT_how52_0 CT_how52_1 CT_how20_0 CT_how20_1 CT_how36_0 CT_how36_1 CT_how38_0 CT_how38_1 CT_how72_0 CT_how72_1 CT_how72_2 CT_how49_0 CT_how49_1 CT_how49_2 CT_how16_0 CT_how51_0 CT_how51_1 CT_how17_0 CT_how3_0 CT_how4_0 CT_how5_0 CT_how5_1 CT_how5_2 CT_how7_0 CT_how9_0 CT_how9_1 CT_how9_2 CT_how10_0 CT_how10_1 CT_how79_0 CT_how79_1 CT_how78_0 CT_how78_1 CT_how78_2 CT_how53_0 CT_how53_1 CT_how53_2 CT_how54_0 CT_how54_1 CT_how23_0 CT_how24_0 CT_how24_1 CT_how24_2 CT_how25_0 CT_how28_0 CT_how29_0 CT_how29_1 CT_how31_0 CT_how32_0 CT_how32_1 CT_how62_0 CT_how62_1 CT_how46_0 CT_how46_1 CT_how66_0 CT_how80_0 CT_how45_0 CT_how56_0 CT_how57_0 CT_how57_1 CT_how57_2 CT_how40_0 CT_how41_0 CT_how41_1 CT_how41_2 CT_how42_0 CT_how42_1 CT_how59_0 CT_how58_0 CT_how58_1 CT_how61_0 CT_how61_1 CT_how63_0 CT_how63_1 CT_how60_0 CT_how43_0 CT_how43_1 CT_how43_2 CT_how81_0 CT_how67_0 CT_how65_0 CT_how64_0 CT_how64_1 CT_how68_0 CT_how44_0 CT_how47_0 CT_how6_0 CT_how8_0 CT_how8_1 CT_how11_0 CT_how11_1 CT_how11_2 CT_how12_0 CT_how12_1 CT_how13_0 CT_how13_1
end Go.Val

/- part GR -/
/- Typed data of the laws' arguments. -/
namespace Go.Val
open Go.Proofs
set_option linter.unusedVariables false
set_option maxRecDepth 100000
theorem mixed : Try.prog.follows .mixedOrders = true := by kernel_rfl
theorem isT_bytes {m : Nat} {ds : List DVal} (h : isT Try.prog (m + 2) 51 ds) : ∃ l : List UInt8, ds = [eL eU l] ∧ l.length ≤ maxLen :=
  isT_slice Try.underlying51 h fun x hx _ ho => by
    obtain ⟨n, hn⟩ := isT_u8 Try.underlying5 hx
    exact ⟨n, one_of hn (ho (by simp [isAg, Try.underlying5]))⟩
end Go.Val

/- part GF -/
/- Functions that are read off the program. -/
namespace Go.Val
set_option linter.unusedVariables false
set_option linter.unusedSimpArgs false
noncomputable section
def scansionref17_Right.k1 : Option Bool :=
  some true
def scansionref17_Right.k2 (s : Int) : Option (Step Int Bool) :=
  some (Step.next (IntKind.i64.wrap (s + (1 : Int))))
def scansionref17_Right.b2 (g : TGraph) (s : Int) : Int → Option (Step Int (Step Int Bool))
  | k =>
    (idx g.Edges s).bind fun xs =>
    if (decide (k < (xs.length : Int))) then
      (idx xs k).bind fun x =>
      (if (decide (x.To < (0 : Int))) then
          some true
        else
          if (decide (x.To ≥ s)) then
            some true
          else
            if (decide (k > (0 : Int))) then
              (idx xs (IntKind.i64.wrap (k - (1 : Int)))).bind fun x1 =>
              some (decide ((x.Label.toNat : Int) ≤ (x1.Label.toNat : Int)))
            else
              some false).bind fun v1 =>
      if v1 then
        some (Step.done (Step.done false))
      else
        some (Step.next (IntKind.i64.wrap (k + (1 : Int))))
    else
      (scansionref17_Right.k2 s).map Step.done
def scansionref17_Right.b1 (g : TGraph) : Int → Option (Step Int Bool)
  | s =>
    if (decide (s < (g.Final.length : Int))) then
      Loop (scansionref17_Right.b2 g s) (0 : Int)
    else
      (scansionref17_Right.k1).map Step.done
def scansionref17_Right (g : TGraph) : Option Bool :=
  if ((decide ((g.Final.length : Int) < (1 : Int))) || ((decide ((g.Final.length : Int) > (65536 : Int))) || ((g.Edges.length : Int) != (g.Final.length : Int)))) then
    some false
  else
    Loop (scansionref17_Right.b1 g) (0 : Int)
def scansionref01_SameInts.k1 : Option Bool :=
  some true
def scansionref01_SameInts.b1 (a_ : List Int) (b : List Int) : Int → Option (Step Int Bool)
  | i =>
    if (decide (i < (a_.length : Int))) then
      (idx a_ i).bind fun n =>
      (idx b i).bind fun n1 =>
      if (n != n1) then
        some (Step.done false)
      else
        some (Step.next (IntKind.i64.wrap (i + (1 : Int))))
    else
      (scansionref01_SameInts.k1).map Step.done
def scansionref01_SameInts (a_ : List Int) (b : List Int) : Option Bool :=
  if ((a_.length : Int) != (b.length : Int)) then
    some false
  else
    Loop (scansionref01_SameInts.b1 a_ b) (0 : Int)
def dawg_Right.k1 : Option Bool :=
  some true
def dawg_Right.k2 (v1 : Int) : Option (Step Int Bool) :=
  some (Step.next (IntKind.i64.wrap (v1 + (1 : Int))))
def dawg_Right.b2 (v1 : Int) (xs : List TEdge) : Int → Option (Step Int (Step Int Bool))
  | v2 =>
    if (decide (v2 < (xs.length : Int))) then
      (idx xs v2).bind fun x =>
      (if (decide (x.To < (0 : Int))) then
          some true
        else
          if (decide (x.To ≥ v1)) then
            some true
          else
            if (decide (v2 > (0 : Int))) then
              (idx xs (IntKind.i64.wrap (v2 - (1 : Int)))).bind fun x1 =>
              some (decide ((x.Label.toNat : Int) ≤ (x1.Label.toNat : Int)))
            else
              some false).bind fun v3 =>
      if v3 then
        some (Step.done (Step.done false))
      else
        some (Step.next (IntKind.i64.wrap (v2 + (1 : Int))))
    else
      (dawg_Right.k2 v1).map Step.done
def dawg_Right.b1 (g : TGraph) : Int → Option (Step Int Bool)
  | v1 =>
    if (decide (v1 < (g.Edges.length : Int))) then
      (idx g.Edges v1).bind fun xs =>
      Loop (dawg_Right.b2 v1 xs) (0 : Int)
    else
      (dawg_Right.k1).map Step.done
def dawg_Right (g : TGraph) : Option Bool :=
  if ((decide ((g.Final.length : Int) < (1 : Int))) || ((decide ((g.Final.length : Int) > (65536 : Int))) || ((g.Edges.length : Int) != (g.Final.length : Int)))) then
    some false
  else
    Loop (dawg_Right.b1 g) (0 : Int)
def dawg_Count.k1 (out : List Int) : Option ((List Int × Int)) :=
  some (out, (0 : Int))
def dawg_Count.k2 (v : Int) (out2 : List Int) : Option (Step ((List Int × Int)) ((List Int × Int))) :=
  some (Step.next (out2, (IntKind.i64.wrap (v + (1 : Int)))))
def dawg_Count.b2 (v : Int) (xs : List TEdge) : (List Int × Int) → Option (Step ((List Int × Int)) (Step ((List Int × Int)) ((List Int × Int))))
  | (out4, v1) =>
    if (decide (v1 < (xs.length : Int))) then
      (idx xs v1).bind fun x =>
      (idx out4 v).bind fun n =>
      (idx out4 x.To).bind fun n1 =>
      some (Step.next ((List.set out4 (Int.toNat v) (mn (IntKind.i64.wrap (n + n1)) (1099511627776 : Int))), (IntKind.i64.wrap (v1 + (1 : Int)))))
    else
      (dawg_Count.k2 v out4).map Step.done
def dawg_Count.k3 (v : Int) (xs : List TEdge) (out3 : List Int) : Option (Step ((List Int × Int)) ((List Int × Int))) :=
  Loop (dawg_Count.b2 v xs) (out3, (0 : Int))
def dawg_Count.b1 (g : TGraph) : (List Int × Int) → Option (Step ((List Int × Int)) ((List Int × Int)))
  | (out1, v) =>
    if (decide (v < (g.Edges.length : Int))) then
      (idx g.Edges v).bind fun xs =>
      (idx g.Final v).bind fun b =>
      if b then
        (idx out1 v).bind fun n2 =>
        dawg_Count.k3 v xs (List.set out1 (Int.toNat v) (1 : Int))
      else
        dawg_Count.k3 v xs out1
    else
      (dawg_Count.k1 out1).map Step.done
def dawg_Count (g : TGraph) : Option ((List Int × Int)) :=
  (dawg_Right g).bind fun r =>
  if (!r) then
    some (([] : List Int), (1 : Int))
  else
    (mk 8 (0 : Int) (g.Final.length : Int)).bind fun _ =>
    Loop (dawg_Count.b1 g) ((List.replicate (Int.toNat (g.Final.length : Int)) (0 : Int)), (0 : Int))
def scansionref17_Count.k1 (out : List Int) : Option ((List Int × Int)) :=
  some (out, (0 : Int))
def scansionref17_Count.k2 (s : Int) (out2 : List Int) : Option (Step ((List Int × Int)) ((List Int × Int))) :=
  some (Step.next (out2, (IntKind.i64.wrap (s + (1 : Int)))))
def scansionref17_Count.k4 (out1 : List Int) (s : Int) (n1 : Int) : Option (Step ((List Int × Int)) ((List Int × Int))) :=
  (room 8 (out1.length + 1)).bind fun _ =>
  scansionref17_Count.k2 s (out1 ++ ([n1]))
def scansionref17_Count.b2 (g : TGraph) (out1 : List Int) (s : Int) : (Int × Int) → Option (Step ((Int × Int)) (Step ((List Int × Int)) ((List Int × Int))))
  | (n2, k) =>
    (idx g.Edges s).bind fun xs =>
    if (decide (k < (xs.length : Int))) then
      (idx xs k).bind fun x =>
      (idx out1 x.To).bind fun n3 =>
      some (Step.next ((mn (IntKind.i64.wrap (n2 + n3)) (1099511627776 : Int)), (IntKind.i64.wrap (k + (1 : Int)))))
    else
      (scansionref17_Count.k4 out1 s n2).map Step.done
def scansionref17_Count.k3 (g : TGraph) (out1 : List Int) (s : Int) (n : Int) : Option (Step ((List Int × Int)) ((List Int × Int))) :=
  Loop (scansionref17_Count.b2 g out1 s) (n, (0 : Int))
def scansionref17_Count.b1 (g : TGraph) : (List Int × Int) → Option (Step ((List Int × Int)) ((List Int × Int)))
  | (out1, s) =>
    if (decide (s < (g.Final.length : Int))) then
      (idx g.Final s).bind fun b =>
      if b then
        scansionref17_Count.k3 g out1 s (1 : Int)
      else
        scansionref17_Count.k3 g out1 s (0 : Int)
    else
      (scansionref17_Count.k1 out1).map Step.done
def scansionref17_Count (g : TGraph) : Option ((List Int × Int)) :=
  (scansionref17_Right g).bind fun r =>
  if (!r) then
    some (([] : List Int), (1 : Int))
  else
    Loop (scansionref17_Count.b1 g) ([], (0 : Int))
def scansionref17_to.k1 : Option Int :=
  some (-1 : Int)
def scansionref17_to.b1 (g : TGraph) (s : Int) (b : UInt8) : Int → Option (Step Int Int)
  | k =>
    (idx g.Edges s).bind fun xs =>
    if (decide (k < (xs.length : Int))) then
      (idx xs k).bind fun x =>
      if ((x.Label.toNat : Int) == (b.toNat : Int)) then
        some (Step.done x.To)
      else
        some (Step.next (IntKind.i64.wrap (k + (1 : Int))))
    else
      (scansionref17_to.k1).map Step.done
def scansionref17_to (g : TGraph) (s : Int) (b : UInt8) : Option Int :=
  Loop (scansionref17_to.b1 g s b) (0 : Int)
def scansionref17_Has.k1 (g : TGraph) (s : Int) : Option Bool :=
  (idx g.Final s).bind fun b =>
  some b
def scansionref17_Has.b1 (g : TGraph) (word : Str) : (Int × Int) → Option (Step ((Int × Int)) Bool)
  | (s1, i) =>
    if (decide (i < (word.length : Int))) then
      (idx word i).bind fun c =>
      (scansionref17_to g s1 c).bind fun r1 =>
      if (decide (r1 < (0 : Int))) then
        some (Step.done false)
      else
        some (Step.next (r1, (IntKind.i64.wrap (i + (1 : Int)))))
    else
      (scansionref17_Has.k1 g s1).map Step.done
def scansionref17_Has (g : TGraph) (word : Str) : Option Bool :=
  (scansionref17_Right g).bind fun r =>
  if (!r) then
    some false
  else
    Loop (scansionref17_Has.b1 g word) ((IntKind.i64.wrap ((g.Final.length : Int) - (1 : Int))), (0 : Int))
def scansionref17_Number.k1 (n : Int) : Option ((Int × Int)) :=
  some ((mn n (1099511627776 : Int)), (0 : Int))
def scansionref17_Number.k2 (i : Int) (n2 : Int) (s1 : Int) : Option (Step ((Int × Int × Int)) ((Int × Int))) :=
  some (Step.next (n2, s1, (IntKind.i64.wrap (i + (1 : Int)))))
def scansionref17_Number.k4 (g : TGraph) (word : Str) (s : Int) (i : Int) (n4 : Int) : Option (Step ((Int × Int × Int)) ((Int × Int))) :=
  (idx word i).bind fun c =>
  (scansionref17_to g s c).bind fun r2 =>
  scansionref17_Number.k2 i n4 r2
def scansionref17_Number.b2 (g : TGraph) (word : Str) (r : (List Int × Int)) (s : Int) (i : Int) : (Int × Int) → Option (Step ((Int × Int)) (Step ((Int × Int × Int)) ((Int × Int))))
  | (n5, k) =>
    ((idx g.Edges s).bind fun xs =>
      if (decide (k < (xs.length : Int))) then
        (idx xs k).bind fun x =>
        (idx word i).bind fun c1 =>
        some (decide ((x.Label.toNat : Int) < (c1.toNat : Int)))
      else
        some false).bind fun v =>
    if v then
      (idx g.Edges s).bind fun xs1 =>
      (idx xs1 k).bind fun x1 =>
      (idx r.1 x1.To).bind fun n6 =>
      some (Step.next ((IntKind.i64.wrap (n5 + n6)), (IntKind.i64.wrap (k + (1 : Int)))))
    else
      (scansionref17_Number.k4 g word s i n5).map Step.done
def scansionref17_Number.k3 (g : TGraph) (word : Str) (r : (List Int × Int)) (s : Int) (i : Int) (n3 : Int) : Option (Step ((Int × Int × Int)) ((Int × Int))) :=
  Loop (scansionref17_Number.b2 g word r s i) (n3, (0 : Int))
def scansionref17_Number.b1 (g : TGraph) (word : Str) (r : (List Int × Int)) : (Int × Int × Int) → Option (Step ((Int × Int × Int)) ((Int × Int)))
  | (n1, s, i) =>
    if (decide (i < (word.length : Int))) then
      (idx g.Final s).bind fun b =>
      if b then
        scansionref17_Number.k3 g word r s i (IntKind.i64.wrap (n1 + (1 : Int)))
      else
        scansionref17_Number.k3 g word r s i n1
    else
      (scansionref17_Number.k1 n1).map Step.done
def scansionref17_Number (g : TGraph) (word : Str) : Option ((Int × Int)) :=
  (scansionref17_Count g).bind fun r =>
  if (r.2 != (0 : Int)) then
    some ((0 : Int), r.2)
  else
    (scansionref17_Has g word).bind fun r1 =>
    if (!r1) then
      some ((0 : Int), (4 : Int))
    else
      Loop (scansionref17_Number.b1 g word r) ((0 : Int), (IntKind.i64.wrap ((g.Final.length : Int) - (1 : Int))), (0 : Int))
def scansionref17_Word.k1 (n3 : Int) (s1 : Int) (word1 : Str) : Option (Step ((Int × Int × Str)) ((Str × Int))) :=
  some (Step.next (n3, s1, word1))
def scansionref17_Word.k3 (g : TGraph) (s : Int) (word : Str) (n5 : Int) (k : Int) : Option (Step ((Int × Int × Str)) ((Str × Int))) :=
  (idx g.Edges s).bind fun xs =>
  (idx xs k).bind fun x =>
  (roomS (word.length + 1)).bind fun _ =>
  scansionref17_Word.k1 n5 x.To (word ++ ([x.Label]))
def scansionref17_Word.b2 (g : TGraph) (r : (List Int × Int)) (s : Int) (word : Str) : (Int × Int) → Option (Step ((Int × Int)) (Step ((Int × Int × Str)) ((Str × Int))))
  | (n6, k1) =>
    (idx g.Edges s).bind fun xs1 =>
    (idx xs1 k1).bind fun x1 =>
    (idx r.1 x1.To).bind fun n7 =>
    if (decide (n6 ≥ n7)) then
      some (Step.next ((IntKind.i64.wrap (n6 - n7)), (IntKind.i64.wrap (k1 + (1 : Int)))))
    else
      (scansionref17_Word.k3 g s word n6 k1).map Step.done
def scansionref17_Word.k2 (g : TGraph) (r : (List Int × Int)) (s : Int) (word : Str) (n4 : Int) : Option (Step ((Int × Int × Str)) ((Str × Int))) :=
  Loop (scansionref17_Word.b2 g r s word) (n4, (0 : Int))
def scansionref17_Word.b1 (g : TGraph) (r : (List Int × Int)) : (Int × Int × Str) → Option (Step ((Int × Int × Str)) ((Str × Int)))
  | (n2, s, word) =>
    (idx g.Final s).bind fun b =>
    if b then
      if (n2 == (0 : Int)) then
        some (Step.done (word, (0 : Int)))
      else
        scansionref17_Word.k2 g r s word (IntKind.i64.wrap (n2 - (1 : Int)))
    else
      scansionref17_Word.k2 g r s word n2
def scansionref17_Word (g : TGraph) (n : Int) : Option ((Str × Int)) :=
  (scansionref17_Count g).bind fun r =>
  if (r.2 != (0 : Int)) then
    some (([] : Str), r.2)
  else
    (if (decide (n < (0 : Int))) then
        some true
      else
        (idx r.1 (IntKind.i64.wrap ((g.Final.length : Int) - (1 : Int)))).bind fun n1 =>
        some (decide (n ≥ n1))).bind fun v =>
    if v then
      some (([] : Str), (4 : Int))
    else
      Loop (scansionref17_Word.b1 g r) (n, (IntKind.i64.wrap ((g.Final.length : Int) - (1 : Int))), ([] : Str))
def scansionref17_right.k1 : Option Bool :=
  some true
def scansionref17_right.b1 (words : List Str) : Int → Option (Step Int Bool)
  | i =>
    if (decide (i < (words.length : Int))) then
      ((idx words i).bind fun s =>
        if (decide ((s.length : Int) < (1 : Int))) then
          some true
        else
          if (decide ((s.length : Int) > (64 : Int))) then
            some true
          else
            if (decide (i > (0 : Int))) then
              (idx words (IntKind.i64.wrap (i - (1 : Int)))).bind fun s1 =>
              some (Op.bytesLess s s1 || s == s1)
            else
              some false).bind fun v =>
      if v then
        some (Step.done false)
      else
        some (Step.next (IntKind.i64.wrap (i + (1 : Int))))
    else
      (scansionref17_right.k1).map Step.done
def scansionref17_right (words : List Str) : Option Bool :=
  if (decide ((words.length : Int) > (5000 : Int))) then
    some false
  else
    Loop (scansionref17_right.b1 words) (0 : Int)
def scansionref17_one.k1 (s : Str) : Option Str :=
  some s
def scansionref17_one.b1 (ends : List Str) : (Str × Int) → Option (Step ((Str × Int)) Str)
  | (s1, i) =>
    if (decide (i < (ends.length : Int))) then
      (idx ends i).bind fun s2 =>
      (roomS (s1.length + 1)).bind fun _ =>
      (roomS (s1.length + 1 + s2.length)).bind fun _ =>
      some (Step.next (((s1 ++ ([(u8 (IntKind.u8.wrap (s2.length : Int)))])) ++ s2), (IntKind.i64.wrap (i + (1 : Int)))))
    else
      (scansionref17_one.k1 s1).map Step.done
def scansionref17_one (ends : List Str) : Option Str :=
  Loop (scansionref17_one.b1 ends) (([] : Str), (0 : Int))
def scansionref17_behind.k1 (out : List Str) : Option (List Str) :=
  some out
def scansionref17_behind.k2 (i : Int) (out2 : List Str) : Option (Step ((List Str × Int)) (List Str)) :=
  some (Step.next (out2, (IntKind.i64.wrap (i + (1 : Int)))))
def scansionref17_behind.b1 (ends : List Str) (b : UInt8) : (List Str × Int) → Option (Step ((List Str × Int)) (List Str))
  | (out1, i) =>
    if (decide (i < (ends.length : Int))) then
      ((idx ends i).bind fun s =>
        if (decide ((s.length : Int) > (0 : Int))) then
          (s[0]?).bind fun c =>
          some ((c.toNat : Int) == (b.toNat : Int))
        else
          some false).bind fun v =>
      if v then
        (idx ends i).bind fun s1 =>
        (cutL s1 (1 : Int)).bind fun _ =>
        (room 16 (out1.length + 1)).bind fun _ =>
        scansionref17_behind.k2 i (out1 ++ ([(List.drop (Int.toNat (1 : Int)) s1)]))
      else
        scansionref17_behind.k2 i out1
    else
      (scansionref17_behind.k1 out1).map Step.done
def scansionref17_behind (ends : List Str) (b : UInt8) : Option (List Str) :=
  Loop (scansionref17_behind.b1 ends b) ([], (0 : Int))
def dawg_key.k2 (out1 : List UInt8) : Option Str :=
  some out1
def dawg_key.b1 (edges : List TEdge) : (List UInt8 × Int) → Option (Step ((List UInt8 × Int)) Str)
  | (out2, v) =>
    if (decide (v < (edges.length : Int))) then
      (idx edges v).bind fun x =>
      (room 1 (out2.length + 5)).bind fun _ =>
      some (Step.next ((out2 ++ ([x.Label, (u8 (IntKind.u8.wrap (shR .i64 x.To (24 : Int)))), (u8 (IntKind.u8.wrap (shR .i64 x.To (16 : Int)))), (u8 (IntKind.u8.wrap (shR .i64 x.To (8 : Int)))), (u8 (IntKind.u8.wrap x.To))])), (IntKind.i64.wrap (v + (1 : Int)))))
    else
      (dawg_key.k2 out2).map Step.done
def dawg_key.k1 (edges : List TEdge) (out : List UInt8) : Option Str :=
  Loop (dawg_key.b1 edges) (out, (0 : Int))
def dawg_key (final : Bool) (edges : List TEdge) : Option Str :=
  if final then
    (([(u8 (0 : Int))])[0]?).bind fun n =>
    dawg_key.k1 edges (List.set ([(u8 (0 : Int))]) (Int.toNat (0 : Int)) (u8 (1 : Int)))
  else
    dawg_key.k1 edges ([(u8 (0 : Int))])
def slices_IndexFunc_string_string.k1 : Option Int :=
  some (-1 : Int)
def slices_IndexFunc_string_string.b1 (s : List Str) (f : Str → Option Bool) : Int → Option (Step Int Int)
  | v =>
    if (decide (v < (s.length : Int))) then
      (idx s v).bind fun s1 =>
      (f s1).bind fun r =>
      if r then
        some (Step.done v)
      else
        some (Step.next (IntKind.i64.wrap (v + (1 : Int))))
    else
      (slices_IndexFunc_string_string.k1).map Step.done
def slices_IndexFunc_string_string (s : List Str) (f : Str → Option Bool) : Option Int :=
  Loop (slices_IndexFunc_string_string.b1 s f) (0 : Int)
def slices_ContainsFunc_string_string (s : List Str) (f : Str → Option Bool) : Option Bool :=
  (slices_IndexFunc_string_string s f).bind fun r =>
  some (decide (r ≥ (0 : Int)))
def dawg_rise_1 (s : Str) : Option Bool :=
  some ((decide ((s.length : Int) < (1 : Int))) || (decide ((s.length : Int) > (64 : Int))))
def dawg_rise.k1 (words : List Str) : Option Bool :=
  (if (decide ((words.length : Int) ≤ (5000 : Int))) then
      (slices_ContainsFunc_string_string words (dawg_rise_1)).bind fun r =>
      some (!r)
    else
      some false).bind fun v =>
  some v
def dawg_rise.b1 (words : List Str) : Int → Option (Step Int Bool)
  | i =>
    if (decide (i < (words.length : Int))) then
      (idx words i).bind fun s =>
      (idx words (IntKind.i64.wrap (i - (1 : Int)))).bind fun s1 =>
      if (Op.bytesLess s s1 || s == s1) then
        some (Step.done false)
      else
        some (Step.next (IntKind.i64.wrap (i + (1 : Int))))
    else
      (dawg_rise.k1 words).map Step.done
def dawg_rise (words : List Str) : Option Bool :=
  Loop (dawg_rise.b1 words) (1 : Int)
def slices_IndexFunc_api_Edge_api_Edge.k1 : Option Int :=
  some (-1 : Int)
def slices_IndexFunc_api_Edge_api_Edge.b1 (s : List TEdge) (f : TEdge → Option Bool) : Int → Option (Step Int Int)
  | v =>
    if (decide (v < (s.length : Int))) then
      (idx s v).bind fun x =>
      (f x).bind fun r =>
      if r then
        some (Step.done v)
      else
        some (Step.next (IntKind.i64.wrap (v + (1 : Int))))
    else
      (slices_IndexFunc_api_Edge_api_Edge.k1).map Step.done
def slices_IndexFunc_api_Edge_api_Edge (s : List TEdge) (f : TEdge → Option Bool) : Option Int :=
  Loop (slices_IndexFunc_api_Edge_api_Edge.b1 s f) (0 : Int)
def dawg_walk_1 (x : TEdge) (p1 : Str) (p2 : Int) : Option Bool :=
  (idx p1 p2).bind fun c =>
  some ((x.Label.toNat : Int) == (c.toNat : Int))
def dawg_walk.k1 (at_ : List Int) : Option ((List Int × Bool)) :=
  some (at_, true)
def dawg_walk.b1 (g : TGraph) (word : Str) : (List Int × Int) → Option (Step ((List Int × Int)) ((List Int × Bool)))
  | (at_1, v) =>
    if (decide (v < (word.length : Int))) then
      (idx at_1 v).bind fun n =>
      (idx g.Edges n).bind fun xs =>
      (slices_IndexFunc_api_Edge_api_Edge xs (fun x0 => dawg_walk_1 x0 word v)).bind fun r =>
      if (decide (r < (0 : Int))) then
        some (Step.done (([] : List Int), false))
      else
        (idx xs r).bind fun x =>
        (room 8 (at_1.length + 1)).bind fun _ =>
        some (Step.next ((at_1 ++ ([x.To])), (IntKind.i64.wrap (v + (1 : Int)))))
    else
      (dawg_walk.k1 at_1).map Step.done
def dawg_walk (g : TGraph) (word : Str) : Option ((List Int × Bool)) :=
  Loop (dawg_walk.b1 g word) ([(IntKind.i64.wrap ((g.Final.length : Int) - (1 : Int)))], (0 : Int))
def dawg_Number.k1 (n1 : Int) : Option ((Int × Int)) :=
  some ((mn n1 (1099511627776 : Int)), (0 : Int))
def dawg_Number.k2 (v1 : Int) (n3 : Int) : Option (Step ((Int × Int)) ((Int × Int))) :=
  some (Step.next (n3, (IntKind.i64.wrap (v1 + (1 : Int)))))
def dawg_Number.k4 (v2 : Int) (n7 : Int) : Option (Step ((Int × Int)) (Step ((Int × Int)) ((Int × Int)))) :=
  some (Step.next (n7, (IntKind.i64.wrap (v2 + (1 : Int)))))
def dawg_Number.b2 (word : Str) (r : (List Int × Int)) (v1 : Int) (xs : List TEdge) : (Int × Int) → Option (Step ((Int × Int)) (Step ((Int × Int)) ((Int × Int))))
  | (n6, v2) =>
    if (decide (v2 < (xs.length : Int))) then
      (idx xs v2).bind fun x =>
      (idx word v1).bind fun c =>
      if (decide ((x.Label.toNat : Int) < (c.toNat : Int))) then
        (idx r.1 x.To).bind fun n8 =>
        dawg_Number.k4 v2 (IntKind.i64.wrap (n6 + n8))
      else
        dawg_Number.k4 v2 n6
    else
      (dawg_Number.k2 v1 n6).map Step.done
def dawg_Number.k3 (g : TGraph) (word : Str) (r : (List Int × Int)) (v1 : Int) (n4 : Int) (n5 : Int) : Option (Step ((Int × Int)) ((Int × Int))) :=
  (idx g.Edges n4).bind fun xs =>
  Loop (dawg_Number.b2 word r v1 xs) (n5, (0 : Int))
def dawg_Number.b1 (g : TGraph) (word : Str) (r : (List Int × Int)) (r1 : (List Int × Bool)) : (Int × Int) → Option (Step ((Int × Int)) ((Int × Int)))
  | (n2, v1) =>
    if (decide (v1 < (word.length : Int))) then
      (idx r1.1 v1).bind fun n4 =>
      (idx g.Final n4).bind fun b1 =>
      if b1 then
        dawg_Number.k3 g word r v1 n4 (IntKind.i64.wrap (n2 + (1 : Int)))
      else
        dawg_Number.k3 g word r v1 n4 n2
    else
      (dawg_Number.k1 n2).map Step.done
def dawg_Number (g : TGraph) (word : Str) : Option ((Int × Int)) :=
  (dawg_Count g).bind fun r =>
  if (r.2 != (0 : Int)) then
    some ((0 : Int), r.2)
  else
    (dawg_walk g word).bind fun r1 =>
    (if (!r1.2) then
        some true
      else
        (idx r1.1 (word.length : Int)).bind fun n =>
        (idx g.Final n).bind fun b =>
        some (!b)).bind fun v =>
    if v then
      some ((0 : Int), (4 : Int))
    else
      Loop (dawg_Number.b1 g word r r1) ((0 : Int), (0 : Int))
def dawg_Word.k1 (n3 : Int) (s1 : Int) (word1 : List UInt8) : Option (Step ((Int × Int × List UInt8)) ((Str × Int))) :=
  some (Step.next (n3, s1, word1))
def dawg_Word.b2 (r : (List Int × Int)) (s : Int) (word : List UInt8) (xs : List TEdge) : (Int × Int) → Option (Step ((Int × Int)) (Step ((Int × Int × List UInt8)) ((Str × Int))))
  | (n5, v1) =>
    if (decide (v1 < (xs.length : Int))) then
      (idx xs v1).bind fun x =>
      (idx r.1 x.To).bind fun n6 =>
      if (decide (n5 < n6)) then
        (room 1 (word.length + 1)).bind fun _ =>
        (dawg_Word.k1 n5 x.To (word ++ ([x.Label]))).map Step.done
      else
        some (Step.next ((IntKind.i64.wrap (n5 - n6)), (IntKind.i64.wrap (v1 + (1 : Int)))))
    else
      (dawg_Word.k1 n5 s word).map Step.done
def dawg_Word.k2 (g : TGraph) (r : (List Int × Int)) (s : Int) (word : List UInt8) (n4 : Int) : Option (Step ((Int × Int × List UInt8)) ((Str × Int))) :=
  (idx g.Edges s).bind fun xs =>
  Loop (dawg_Word.b2 r s word xs) (n4, (0 : Int))
def dawg_Word.b1 (g : TGraph) (r : (List Int × Int)) : (Int × Int × List UInt8) → Option (Step ((Int × Int × List UInt8)) ((Str × Int)))
  | (n2, s, word) =>
    (idx g.Final s).bind fun b =>
    if b then
      if (n2 == (0 : Int)) then
        some (Step.done (word, (0 : Int)))
      else
        dawg_Word.k2 g r s word (IntKind.i64.wrap (n2 - (1 : Int)))
    else
      dawg_Word.k2 g r s word n2
def dawg_Word (g : TGraph) (n : Int) : Option ((Str × Int)) :=
  (dawg_Count g).bind fun r =>
  if (r.2 != (0 : Int)) then
    some (([] : Str), r.2)
  else
    (if (decide (n < (0 : Int))) then
        some true
      else
        (idx r.1 (IntKind.i64.wrap ((r.1.length : Int) - (1 : Int)))).bind fun n1 =>
        some (decide (n ≥ n1))).bind fun v =>
    if v then
      some (([] : Str), (4 : Int))
    else
      Loop (dawg_Word.b1 g r) (n, (IntKind.i64.wrap ((r.1.length : Int) - (1 : Int))), [])
def dawg_builder_state_1 (s : Str) (p1 : Int) (p2 : UInt8) : Option Bool :=
  (idx s p1).bind fun c =>
  some ((c.toNat : Int) != (p2.toNat : Int))
def dawg_builder_state.k3 (s1 : Int) (Final1 : List Bool) (Edges1 : List (List TEdge)) (m1 : List (Str × Int)) : Option ((Int × Tdawg_builder)) :=
  some (s1, (Tdawg_builder.mk (TGraph.mk Final1 Edges1) m1))
def dawg_builder_state.k2 (final : Bool) (edges : List TEdge) (Final : List Bool) (Edges : List (List TEdge)) (m : List (Str × Int)) : Option ((Int × Tdawg_builder)) :=
  (dawg_key final edges).bind fun r =>
  if (!(aget r m).isSome) then
    (room 1 (Final.length + 1)).bind fun _ =>
    (room 24 (Edges.length + 1)).bind fun _ =>
    dawg_builder_state.k3 (Final.length : Int) (Final ++ ([final])) (Edges ++ ([edges])) (aput r (Final.length : Int) m)
  else
    dawg_builder_state.k3 ((aget r m).getD (0 : Int)) Final Edges m
def dawg_builder_state.k4 (self : Tdawg_builder → (List Str) → Int → Option ((Int × Tdawg_builder))) (gone : Int) (texts2 : List Str) (edges1 : List TEdge) (Final2 : List Bool) (Edges2 : List (List TEdge)) (m2 : List (Str × Int)) (c : UInt8) (n : Int) : Option (Step ((List Str × List TEdge × List Bool × List (List TEdge) × List (Str × Int))) ((Int × Tdawg_builder))) :=
  (cutH texts2 n).bind fun _ =>
  (self (Tdawg_builder.mk (TGraph.mk Final2 Edges2) m2) (List.take (Int.toNat n) texts2) (IntKind.i64.wrap (gone + (1 : Int)))).bind fun r2 =>
  (room 16 (edges1.length + 1)).bind fun _ =>
  (cutL texts2 n).bind fun _ =>
  some (Step.next ((List.drop (Int.toNat n) texts2), (edges1 ++ ([(TEdge.mk c r2.1)])), r2.2.Graph.Final, r2.2.Graph.Edges, r2.2.known))
def dawg_builder_state.b1 (self : Tdawg_builder → (List Str) → Int → Option ((Int × Tdawg_builder))) (gone : Int) (final : Bool) : (List Str × List TEdge × List Bool × List (List TEdge) × List (Str × Int)) → Option (Step ((List Str × List TEdge × List Bool × List (List TEdge) × List (Str × Int))) ((Int × Tdawg_builder)))
  | (texts2, edges1, Final2, Edges2, m2) =>
    if (decide ((texts2.length : Int) > (0 : Int))) then
      (texts2[0]?).bind fun s2 =>
      (idx s2 gone).bind fun c =>
      (slices_IndexFunc_string_string texts2 (fun x0 => dawg_builder_state_1 x0 gone c)).bind fun r1 =>
      if (decide (r1 < (0 : Int))) then
        dawg_builder_state.k4 self gone texts2 edges1 Final2 Edges2 m2 c (texts2.length : Int)
      else
        dawg_builder_state.k4 self gone texts2 edges1 Final2 Edges2 m2 c r1
    else
      (dawg_builder_state.k2 final edges1 Final2 Edges2 m2).map Step.done
def dawg_builder_state.k1 (self : Tdawg_builder → (List Str) → Int → Option ((Int × Tdawg_builder))) (b : Tdawg_builder) (gone : Int) (final : Bool) (texts1 : List Str) : Option ((Int × Tdawg_builder)) :=
  Loop (dawg_builder_state.b1 self gone final) (texts1, [], b.Graph.Final, b.Graph.Edges, b.known)
def dawg_builder_state.r : Nat → Tdawg_builder → (List Str) → Int → Option ((Int × Tdawg_builder))
  | 0, _, _, _ => none
  | fu + 1, b, texts, gone =>
    (if (decide ((texts.length : Int) > (0 : Int))) then
        (texts[0]?).bind fun s =>
        some ((s.length : Int) == gone)
      else
        some false).bind fun final =>
    if final then
      (cutL texts (1 : Int)).bind fun _ =>
      dawg_builder_state.k1 (dawg_builder_state.r fu) b gone final (List.drop (Int.toNat (1 : Int)) texts)
    else
      dawg_builder_state.k1 (dawg_builder_state.r fu) b gone final texts
def dawg_builder_state (b : Tdawg_builder) (texts : List Str) (gone : Int) : Option ((Int × Tdawg_builder)) := lim fun n => dawg_builder_state.r n b texts gone
def dawg_Build (words : List Str) : Option ((TGraph × Int)) :=
  (dawg_rise words).bind fun r =>
  if (!r) then
    some ((TGraph.mk ([] : List Bool) ([] : List (List TEdge))), (1 : Int))
  else
    (dawg_builder_state (Tdawg_builder.mk (TGraph.mk [] []) []) words (0 : Int)).bind fun r1 =>
    some (r1.2.Graph, (0 : Int))
def scansionref17_maker_state.k2 (ends : List Str) (r : Str) (edges : List TEdge) (Final : List Bool) (Edges : List (List TEdge)) (ends1 : List Str) : Option ((Int × Tscansionref17_maker)) :=
  (room 16 (ends1.length + 1)).bind fun _ =>
  (if (decide ((ends.length : Int) > (0 : Int))) then
      (ends[0]?).bind fun s =>
      (room 1 (Final.length + 1)).bind fun _ =>
      some (Final ++ ([(s == ([] : Str))]))
    else
      (room 1 (Final.length + 1)).bind fun _ =>
      some (Final ++ ([false]))).bind fun Final1 =>
  (room 24 (Edges.length + 1)).bind fun _ =>
  some ((IntKind.i64.wrap (((ends1 ++ ([r])).length : Int) - (1 : Int))), (Tscansionref17_maker.mk (TGraph.mk Final1 (Edges ++ ([edges]))) (ends1 ++ ([r]))))
def scansionref17_maker_state.k3 (c : Int) (edges2 : List TEdge) (Final3 : List Bool) (Edges2 : List (List TEdge)) (ends3 : List Str) : Option (Step ((List TEdge × Int × List Bool × List (List TEdge) × List Str)) ((Int × Tscansionref17_maker))) :=
  some (Step.next (edges2, (IntKind.i64.wrap (c + (1 : Int))), Final3, Edges2, ends3))
def scansionref17_maker_state.b1 (self : Tscansionref17_maker → (List Str) → Option ((Int × Tscansionref17_maker))) (ends : List Str) (r : Str) : (List TEdge × Int × List Bool × List (List TEdge) × List Str) → Option (Step ((List TEdge × Int × List Bool × List (List TEdge) × List Str)) ((Int × Tscansionref17_maker)))
  | (edges1, c, Final2, Edges1, ends2) =>
    if (decide (c < (256 : Int))) then
      (scansionref17_behind ends (u8 (IntKind.u8.wrap c))).bind fun r1 =>
      if (decide ((r1.length : Int) > (0 : Int))) then
        (self (Tscansionref17_maker.mk (TGraph.mk Final2 Edges1) ends2) r1).bind fun r2 =>
        (room 16 (edges1.length + 1)).bind fun _ =>
        scansionref17_maker_state.k3 c (edges1 ++ ([(TEdge.mk (u8 (IntKind.u8.wrap c)) r2.1)])) r2.2.g.Final r2.2.g.Edges r2.2.ends
      else
        scansionref17_maker_state.k3 c edges1 Final2 Edges1 ends2
    else
      (scansionref17_maker_state.k2 ends r edges1 Final2 Edges1 ends2).map Step.done
def scansionref17_maker_state.k1 (self : Tscansionref17_maker → (List Str) → Option ((Int × Tscansionref17_maker))) (m : Tscansionref17_maker) (ends : List Str) (r : Str) : Option ((Int × Tscansionref17_maker)) :=
  Loop (scansionref17_maker_state.b1 self ends r) ([], (0 : Int), m.g.Final, m.g.Edges, m.ends)
def scansionref17_maker_state.b2 (self : Tscansionref17_maker → (List Str) → Option ((Int × Tscansionref17_maker))) (m : Tscansionref17_maker) (ends : List Str) (r : Str) : Int → Option (Step Int ((Int × Tscansionref17_maker)))
  | i =>
    if (decide (i < (m.ends.length : Int))) then
      (idx m.ends i).bind fun s1 =>
      if (s1 == r) then
        some (Step.done (i, m))
      else
        some (Step.next (IntKind.i64.wrap (i + (1 : Int))))
    else
      (scansionref17_maker_state.k1 self m ends r).map Step.done
def scansionref17_maker_state.r : Nat → Tscansionref17_maker → (List Str) → Option ((Int × Tscansionref17_maker))
  | 0, _, _ => none
  | fu + 1, m, ends =>
    (scansionref17_one ends).bind fun r =>
    Loop (scansionref17_maker_state.b2 (scansionref17_maker_state.r fu) m ends r) (0 : Int)
def scansionref17_maker_state (m : Tscansionref17_maker) (ends : List Str) : Option ((Int × Tscansionref17_maker)) := lim fun n => scansionref17_maker_state.r n m ends
def scansionref17_Build (words : List Str) : Option ((TGraph × Int)) :=
  (scansionref17_right words).bind fun r =>
  if (!r) then
    some ((TGraph.mk ([] : List Bool) ([] : List (List TEdge))), (1 : Int))
  else
    (scansionref17_maker_state (Tscansionref17_maker.mk (TGraph.mk [] []) []) words).bind fun r1 =>
    some (r1.2.g, (0 : Int))
def slices_ContainsFunc_api_Edge_api_Edge (s : List TEdge) (f : TEdge → Option Bool) : Option Bool :=
  (slices_IndexFunc_api_Edge_api_Edge s f).bind fun r =>
  some (decide (r ≥ (0 : Int)))
def darray_Array_fits_1 (x : TEdge) (p1 : Int) (p2 : Tdarray_Array) : Option Bool :=
  (if (decide ((IntKind.i64.wrap (p1 + (IntKind.i64.wrap (x.Label.toNat : Int)))) < (p2.cells.length : Int))) then
      (idx p2.cells (IntKind.i64.wrap (p1 + (IntKind.i64.wrap (x.Label.toNat : Int))))).bind fun x1 =>
      some (!(x1.of == (Tdarray_cell.mk (0 : Int) (0 : Int)).of && (x1.to == (Tdarray_cell.mk (0 : Int) (0 : Int)).to && true)))
    else
      some false).bind fun v =>
  some v
def darray_Array_fits (a_ : Tdarray_Array) (base : Int) (l : List TEdge) : Option Bool :=
  (slices_ContainsFunc_api_Edge_api_Edge l (fun x0 => darray_Array_fits_1 x0 base a_)).bind fun r =>
  some (!r)
def darray_Array_has (a_ : Tdarray_Array) (s : Int) : Option Bool :=
  some ((decide (s ≥ (0 : Int))) && (decide (s < (a_.base.length : Int))))
def darray_Pack.k2 (g : TGraph) (r : (List Int × Int)) (base : List Int) (cells : List Tdarray_cell) : Option ((Option Tdarray_Array × Int)) :=
  some ((some (Tdarray_Array.mk g base cells r.1)), (0 : Int))
def darray_Pack.k3 (v1 : Int) (base2 : List Int) (cells2 : List Tdarray_cell) : Option (Step ((Int × List Int × List Tdarray_cell)) ((Option Tdarray_Array × Int))) :=
  some (Step.next ((IntKind.i64.wrap (v1 + (1 : Int))), base2, cells2))
def darray_Pack.k5 (v1 : Int) (base1 : List Int) (base3 : Int) (cells3 : List Tdarray_cell) : Option (Step ((Int × List Int × List Tdarray_cell)) ((Option Tdarray_Array × Int))) :=
  (room 8 (base1.length + 1)).bind fun _ =>
  if (decide ((cells3.length : Int) > (1048576 : Int))) then
    some (Step.done (none, (3 : Int)))
  else
    darray_Pack.k3 v1 (base1 ++ ([base3])) cells3
def darray_Pack.k6 (v1 : Int) (base3 : Int) (v2 : Int) (x : TEdge) (cells5 : List Tdarray_cell) : Option (Step ((Int × List Tdarray_cell)) (Step ((Int × List Int × List Tdarray_cell)) ((Option Tdarray_Array × Int)))) :=
  (idx cells5 (IntKind.i64.wrap (base3 + (IntKind.i64.wrap (x.Label.toNat : Int))))).bind fun x1 =>
  some (Step.next ((IntKind.i64.wrap (v2 + (1 : Int))), (List.set cells5 (Int.toNat (IntKind.i64.wrap (base3 + (IntKind.i64.wrap (x.Label.toNat : Int))))) (Tdarray_cell.mk (IntKind.i64.wrap (v1 + (1 : Int))) x.To))))
def darray_Pack.b2 (v1 : Int) (base1 : List Int) (xs : List TEdge) (base3 : Int) : (Int × List Tdarray_cell) → Option (Step ((Int × List Tdarray_cell)) (Step ((Int × List Int × List Tdarray_cell)) ((Option Tdarray_Array × Int))))
  | (v2, cells4) =>
    if (decide (v2 < (xs.length : Int))) then
      (idx xs v2).bind fun x =>
      if (decide ((IntKind.i64.wrap (base3 + (IntKind.i64.wrap (x.Label.toNat : Int)))) ≥ (cells4.length : Int))) then
        (nat (IntKind.i64.wrap ((IntKind.i64.wrap ((IntKind.i64.wrap (base3 + (IntKind.i64.wrap (x.Label.toNat : Int)))) + (1 : Int))) - (cells4.length : Int)))).bind fun _ =>
        (room 16 (cells4.length + ((Int.toNat (IntKind.i64.wrap ((IntKind.i64.wrap ((IntKind.i64.wrap (base3 + (IntKind.i64.wrap (x.Label.toNat : Int)))) + (1 : Int))) - (cells4.length : Int))))))).bind fun _ =>
        darray_Pack.k6 v1 base3 v2 x (cells4 ++ (List.replicate (Int.toNat (IntKind.i64.wrap ((IntKind.i64.wrap ((IntKind.i64.wrap (base3 + (IntKind.i64.wrap (x.Label.toNat : Int)))) + (1 : Int))) - (cells4.length : Int)))) (Tdarray_cell.mk (0 : Int) (0 : Int))))
      else
        darray_Pack.k6 v1 base3 v2 x cells4
    else
      (darray_Pack.k5 v1 base1 base3 cells4).map Step.done
def darray_Pack.k4 (v1 : Int) (base1 : List Int) (cells1 : List Tdarray_cell) (xs : List TEdge) (base3 : Int) : Option (Step ((Int × List Int × List Tdarray_cell)) ((Option Tdarray_Array × Int))) :=
  Loop (darray_Pack.b2 v1 base1 xs base3) ((0 : Int), cells1)
def darray_Pack.b3 (g : TGraph) (r : (List Int × Int)) (v1 : Int) (base1 : List Int) (cells1 : List Tdarray_cell) (xs : List TEdge) : Int → Option (Step Int (Step ((Int × List Int × List Tdarray_cell)) ((Option Tdarray_Array × Int))))
  | base4 =>
    (darray_Array_fits (Tdarray_Array.mk g base1 cells1 r.1) base4 xs).bind fun r1 =>
    if (!r1) then
      some (Step.next (IntKind.i64.wrap (base4 + (1 : Int))))
    else
      (darray_Pack.k4 v1 base1 cells1 xs base4).map Step.done
def darray_Pack.b1 (g : TGraph) (r : (List Int × Int)) : (Int × List Int × List Tdarray_cell) → Option (Step ((Int × List Int × List Tdarray_cell)) ((Option Tdarray_Array × Int)))
  | (v1, base1, cells1) =>
    if (decide (v1 < (g.Edges.length : Int))) then
      (idx g.Edges v1).bind fun xs =>
      Loop (darray_Pack.b3 g r v1 base1 cells1 xs) (0 : Int)
    else
      (darray_Pack.k2 g r base1 cells1).map Step.done
def darray_Pack.k1 (g : TGraph) (r : (List Int × Int)) (edges : Int) : Option ((Option Tdarray_Array × Int)) :=
  if ((decide ((g.Final.length : Int) > (20000 : Int))) || (decide (edges > (20000 : Int)))) then
    some (none, (3 : Int))
  else
    Loop (darray_Pack.b1 g r) ((0 : Int), [], [])
def darray_Pack.b4 (g : TGraph) (r : (List Int × Int)) : (Int × Int) → Option (Step ((Int × Int)) ((Option Tdarray_Array × Int)))
  | (edges1, v3) =>
    if (decide (v3 < (g.Edges.length : Int))) then
      (idx g.Edges v3).bind fun xs1 =>
      some (Step.next ((IntKind.i64.wrap (edges1 + (xs1.length : Int))), (IntKind.i64.wrap (v3 + (1 : Int)))))
    else
      (darray_Pack.k1 g r edges1).map Step.done
def darray_Pack (g : TGraph) : Option ((Option Tdarray_Array × Int)) :=
  (dawg_Count g).bind fun r =>
  if (r.2 != (0 : Int)) then
    some (none, r.2)
  else
    Loop (darray_Pack.b4 g r) ((0 : Int), (0 : Int))
def darray_Array_Step (a_ : Tdarray_Array) (s : Int) (b : UInt8) : Option ((Int × Bool)) :=
  (darray_Array_has a_ s).bind fun r =>
  if (!r) then
    some ((0 : Int), false)
  else
    (idx a_.base s).bind fun n =>
    (if (decide ((IntKind.i64.wrap (n + (IntKind.i64.wrap (b.toNat : Int)))) ≥ (a_.cells.length : Int))) then
        some true
      else
        (idx a_.cells (IntKind.i64.wrap (n + (IntKind.i64.wrap (b.toNat : Int))))).bind fun x =>
        some (x.of != (IntKind.i64.wrap (s + (1 : Int))))).bind fun v =>
    if v then
      some ((0 : Int), false)
    else
      (idx a_.cells (IntKind.i64.wrap (n + (IntKind.i64.wrap (b.toNat : Int))))).bind fun x1 =>
      some (x1.to, true)
def darray_Array_Cells (a_ : Tdarray_Array) : Option Int :=
  some (a_.cells.length : Int)
def darray_Array_Start (a_ : Tdarray_Array) : Option Int :=
  some (IntKind.i64.wrap ((a_.base.length : Int) - (1 : Int)))
def darray_Array_Final (a_ : Tdarray_Array) (s : Int) : Option Bool :=
  ((darray_Array_has a_ s).bind fun r =>
    if r then
      (idx a_.graph.Final s).bind fun b =>
      some b
    else
      some false).bind fun v =>
  some v
def darray_Array_Words (a_ : Tdarray_Array) : Option Int :=
  (idx a_.count (IntKind.i64.wrap ((a_.count.length : Int) - (1 : Int)))).bind fun n =>
  some n
def darray_Array_Number (a_ : Tdarray_Array) (word : List UInt8) : Option ((Int × Bool)) :=
  (dawg_Number a_.graph word).bind fun r =>
  some (r.1, (r.2 == (0 : Int)))
def darray_Array_Word (a_ : Tdarray_Array) (n : Int) : Option ((Str × Bool)) :=
  (dawg_Word a_.graph n).bind fun r =>
  some (r.1, (r.2 == (0 : Int)))
def darray_Array_Prefixes.k1 (out : List Int) : Option (List Int) :=
  some out
def darray_Array_Prefixes.k2 (a_ : Tdarray_Array) (b : List UInt8) (s : Int) (n : Int) (out2 : List Int) : Option (Step ((List Int × Int × Bool × Int)) (List Int)) :=
  if (n == (b.length : Int)) then
    (darray_Array_Prefixes.k1 out2).map Step.done
  else
    (idx b n).bind fun n1 =>
    (darray_Array_Step a_ s n1).bind fun r2 =>
    some (Step.next (out2, r2.1, r2.2, (IntKind.i64.wrap (n + (1 : Int)))))
def darray_Array_Prefixes.b1 (a_ : Tdarray_Array) (b : List UInt8) : (List Int × Int × Bool × Int) → Option (Step ((List Int × Int × Bool × Int)) (List Int))
  | (out1, s, is, n) =>
    if is then
      (darray_Array_Final a_ s).bind fun r1 =>
      if r1 then
        (room 8 (out1.length + 1)).bind fun _ =>
        darray_Array_Prefixes.k2 a_ b s n (out1 ++ ([n]))
      else
        darray_Array_Prefixes.k2 a_ b s n out1
    else
      (darray_Array_Prefixes.k1 out1).map Step.done
def darray_Array_Prefixes (a_ : Tdarray_Array) (b : List UInt8) : Option (List Int) :=
  (darray_Array_Start a_).bind fun r =>
  Loop (darray_Array_Prefixes.b1 a_ b) ([], r, true, (0 : Int))
def packed_Number.k1 (n1 : Int) (out : List UInt8) : Option (List UInt8) :=
  (room 1 (out.length + 1)).bind fun _ =>
  some (out ++ ([(u8 (IntKind.u8.wrap n1))]))
def packed_Number.b1 : (Int × List UInt8) → Option (Step ((Int × List UInt8)) (List UInt8))
  | (n2, out1) =>
    if (decide (n2 ≥ (128 : Int))) then
      (room 1 (out1.length + 1)).bind fun _ =>
      some (Step.next ((shR .i64 n2 (7 : Int)), (out1 ++ ([(u8 (IntKind.u8.wrap (bOr .i64 n2 (128 : Int))))]))))
    else
      (packed_Number.k1 n2 out1).map Step.done
def packed_Number (n : Int) : Option (List UInt8) :=
  Loop packed_Number.b1 ((mx n (0 : Int)), [])
def scansionref14_Number.k1 (n1 : Int) (out : List UInt8) : Option (List UInt8) :=
  (room 1 (out.length + 1)).bind fun _ =>
  some (out ++ ([(u8 (IntKind.u8.wrap n1))]))
def scansionref14_Number.b1 : (Int × List UInt8) → Option (Step ((Int × List UInt8)) (List UInt8))
  | (n2, out1) =>
    if (decide (n2 ≥ (128 : Int))) then
      (room 1 (out1.length + 1)).bind fun _ =>
      some (Step.next ((IntKind.i64.wrap (Int.tdiv n2 (128 : Int))), (out1 ++ ([(u8 (IntKind.u8.wrap (IntKind.i64.wrap ((128 : Int) + (Int.tmod n2 (128 : Int))))))]))))
    else
      (scansionref14_Number.k1 n2 out1).map Step.done
def scansionref14_Number (n : Int) : Option (List UInt8) :=
  Loop scansionref14_Number.b1 ((mx n (0 : Int)), [])
def darray_Array_Save.k1 (out : List UInt8) : Option (List UInt8) :=
  some out
def darray_Array_Save.k2 (v : Int) (out2 : List UInt8) : Option (Step ((List UInt8 × Int)) (List UInt8)) :=
  some (Step.next (out2, (IntKind.i64.wrap (v + (1 : Int)))))
def darray_Array_Save.b2 (v : Int) (xs : List TEdge) : (List UInt8 × Int) → Option (Step ((List UInt8 × Int)) (Step ((List UInt8 × Int)) (List UInt8)))
  | (out3, v1) =>
    if (decide (v1 < (xs.length : Int))) then
      (idx xs v1).bind fun x =>
      (room 1 (out3.length + 1)).bind fun _ =>
      (packed_Number x.To).bind fun r2 =>
      (room 1 (out3.length + 1 + r2.length)).bind fun _ =>
      some (Step.next (((out3 ++ ([x.Label])) ++ r2), (IntKind.i64.wrap (v1 + (1 : Int)))))
    else
      (darray_Array_Save.k2 v out3).map Step.done
def darray_Array_Save.k3 (out1 : List UInt8) (v : Int) (xs : List TEdge) (final : UInt8) : Option (Step ((List UInt8 × Int)) (List UInt8)) :=
  (room 1 (out1.length + 1)).bind fun _ =>
  (packed_Number (xs.length : Int)).bind fun r1 =>
  (room 1 (out1.length + 1 + r1.length)).bind fun _ =>
  Loop (darray_Array_Save.b2 v xs) (((out1 ++ ([final])) ++ r1), (0 : Int))
def darray_Array_Save.b1 (a_ : Tdarray_Array) : (List UInt8 × Int) → Option (Step ((List UInt8 × Int)) (List UInt8))
  | (out1, v) =>
    if (decide (v < (a_.graph.Edges.length : Int))) then
      (idx a_.graph.Edges v).bind fun xs =>
      (idx a_.graph.Final v).bind fun b =>
      if b then
        darray_Array_Save.k3 out1 v xs (u8 (1 : Int))
      else
        darray_Array_Save.k3 out1 v xs (u8 (0 : Int))
    else
      (darray_Array_Save.k1 out1).map Step.done
def darray_Array_Save (a_ : Tdarray_Array) : Option (List UInt8) :=
  (packed_Number (a_.graph.Final.length : Int)).bind fun r =>
  Loop (darray_Array_Save.b1 a_) (r, (0 : Int))
def scansionref18_edges.k1 (n : Int) : Option Int :=
  some n
def scansionref18_edges.b1 (g : TGraph) : (Int × Int) → Option (Step ((Int × Int)) Int)
  | (n1, s) =>
    if (decide (s < (g.Edges.length : Int))) then
      (idx g.Edges s).bind fun xs =>
      some (Step.next ((IntKind.i64.wrap (n1 + (xs.length : Int))), (IntKind.i64.wrap (s + (1 : Int)))))
    else
      (scansionref18_edges.k1 n1).map Step.done
def scansionref18_edges (g : TGraph) : Option Int :=
  Loop (scansionref18_edges.b1 g) ((0 : Int), (0 : Int))
def scansionref18_free.k1 : Option Bool :=
  some true
def scansionref18_free.b1 (cells : List Bool) (l : List TEdge) (base : Int) : Int → Option (Step Int Bool)
  | k =>
    if (decide (k < (l.length : Int))) then
      (idx l k).bind fun x =>
      (if (decide ((IntKind.i64.wrap (base + (IntKind.i64.wrap (x.Label.toNat : Int)))) < (cells.length : Int))) then
          (idx cells (IntKind.i64.wrap (base + (IntKind.i64.wrap (x.Label.toNat : Int))))).bind fun b =>
          some b
        else
          some false).bind fun v =>
      if v then
        some (Step.done false)
      else
        some (Step.next (IntKind.i64.wrap (k + (1 : Int))))
    else
      (scansionref18_free.k1).map Step.done
def scansionref18_free (cells : List Bool) (l : List TEdge) (base : Int) : Option Bool :=
  Loop (scansionref18_free.b1 cells l base) (0 : Int)
def scansionref18_Pack.k1 (g : TGraph) (cells : List Bool) : Option ((Option Tscansionref18_Array × Int)) :=
  some ((some (Tscansionref18_Array.mk g (cells.length : Int))), (0 : Int))
def scansionref18_Pack.k2 (s : Int) (cells2 : List Bool) : Option (Step ((List Bool × Int)) ((Option Tscansionref18_Array × Int))) :=
  some (Step.next (cells2, (IntKind.i64.wrap (s + (1 : Int)))))
def scansionref18_Pack.k4 (s : Int) (cells3 : List Bool) : Option (Step ((List Bool × Int)) ((Option Tscansionref18_Array × Int))) :=
  if (decide ((cells3.length : Int) > (1048576 : Int))) then
    some (Step.done (none, (3 : Int)))
  else
    scansionref18_Pack.k2 s cells3
def scansionref18_Pack.k5 (k : Int) (cells5 : List Bool) : Option (Step ((List Bool × Int)) (Step ((List Bool × Int)) ((Option Tscansionref18_Array × Int)))) :=
  some (Step.next (cells5, (IntKind.i64.wrap (k + (1 : Int)))))
def scansionref18_Pack.k6 (base : Int) (k : Int) (x : TEdge) (cells6 : List Bool) : Option (Step ((List Bool × Int)) (Step ((List Bool × Int)) ((Option Tscansionref18_Array × Int)))) :=
  (idx cells6 (IntKind.i64.wrap (base + (IntKind.i64.wrap (x.Label.toNat : Int))))).bind fun b =>
  scansionref18_Pack.k5 k (List.set cells6 (Int.toNat (IntKind.i64.wrap (base + (IntKind.i64.wrap (x.Label.toNat : Int))))) true)
def scansionref18_Pack.b3 (base : Int) (k : Int) (x : TEdge) : List Bool → Option (Step (List Bool) (Step ((List Bool × Int)) (Step ((List Bool × Int)) ((Option Tscansionref18_Array × Int)))))
  | cells7 =>
    if (decide ((cells7.length : Int) ≤ (IntKind.i64.wrap (base + (IntKind.i64.wrap (x.Label.toNat : Int)))))) then
      (room 1 (cells7.length + 1)).bind fun _ =>
      some (Step.next (cells7 ++ ([false])))
    else
      (scansionref18_Pack.k6 base k x cells7).map Step.done
def scansionref18_Pack.b2 (g : TGraph) (s : Int) (base : Int) : (List Bool × Int) → Option (Step ((List Bool × Int)) (Step ((List Bool × Int)) ((Option Tscansionref18_Array × Int))))
  | (cells4, k) =>
    (idx g.Edges s).bind fun xs =>
    if (decide (k < (xs.length : Int))) then
      (idx xs k).bind fun x =>
      Loop (scansionref18_Pack.b3 base k x) cells4
    else
      (scansionref18_Pack.k4 s cells4).map Step.done
def scansionref18_Pack.k3 (g : TGraph) (cells1 : List Bool) (s : Int) (base : Int) : Option (Step ((List Bool × Int)) ((Option Tscansionref18_Array × Int))) :=
  Loop (scansionref18_Pack.b2 g s base) (cells1, (0 : Int))
def scansionref18_Pack.b4 (g : TGraph) (cells1 : List Bool) (s : Int) : Int → Option (Step Int (Step ((List Bool × Int)) ((Option Tscansionref18_Array × Int))))
  | base1 =>
    ((idx g.Edges s).bind fun xs1 =>
      if (decide ((xs1.length : Int) > (0 : Int))) then
        (scansionref18_free cells1 xs1 base1).bind fun r2 =>
        some (!r2)
      else
        some false).bind fun v1 =>
    if v1 then
      some (Step.next (IntKind.i64.wrap (base1 + (1 : Int))))
    else
      (scansionref18_Pack.k3 g cells1 s base1).map Step.done
def scansionref18_Pack.b1 (g : TGraph) : (List Bool × Int) → Option (Step ((List Bool × Int)) ((Option Tscansionref18_Array × Int)))
  | (cells1, s) =>
    if (decide (s < (g.Edges.length : Int))) then
      Loop (scansionref18_Pack.b4 g cells1 s) (0 : Int)
    else
      (scansionref18_Pack.k1 g cells1).map Step.done
def scansionref18_Pack (g : TGraph) : Option ((Option Tscansionref18_Array × Int)) :=
  (scansionref17_Right g).bind fun r =>
  if (!r) then
    some (none, (1 : Int))
  else
    (if (decide ((g.Final.length : Int) > (20000 : Int))) then
        some true
      else
        (scansionref18_edges g).bind fun r1 =>
        some (decide (r1 > (20000 : Int)))).bind fun v =>
    if v then
      some (none, (3 : Int))
    else
      Loop (scansionref18_Pack.b1 g) ([], (0 : Int))
def scansionref18_Array_Words (a_ : Tscansionref18_Array) : Option Int :=
  (scansionref17_Count a_.G).bind fun r =>
  (idx r.1 (IntKind.i64.wrap ((r.1.length : Int) - (1 : Int)))).bind fun n =>
  some n
def scansionref18_Array_Prefixes.k1 (out : List Int) : Option (List Int) :=
  some out
def scansionref18_Array_Prefixes.k2 (n : Int) (out2 : List Int) : Option (Step ((List Int × Int)) (List Int)) :=
  some (Step.next (out2, (IntKind.i64.wrap (n + (1 : Int)))))
def scansionref18_Array_Prefixes.b1 (a_ : Tscansionref18_Array) (b : List UInt8) : (List Int × Int) → Option (Step ((List Int × Int)) (List Int))
  | (out1, n) =>
    if (decide (n ≤ (b.length : Int))) then
      (cutH b n).bind fun _ =>
      (scansionref17_Has a_.G (List.take (Int.toNat n) b)).bind fun r =>
      if r then
        (room 8 (out1.length + 1)).bind fun _ =>
        scansionref18_Array_Prefixes.k2 n (out1 ++ ([n]))
      else
        scansionref18_Array_Prefixes.k2 n out1
    else
      (scansionref18_Array_Prefixes.k1 out1).map Step.done
def scansionref18_Array_Prefixes (a_ : Tscansionref18_Array) (b : List UInt8) : Option (List Int) :=
  Loop (scansionref18_Array_Prefixes.b1 a_ b) ([], (0 : Int))
def scansionref18_Array_Number (a_ : Tscansionref18_Array) (word : List UInt8) : Option ((Int × Bool)) :=
  (scansionref17_Number a_.G word).bind fun r =>
  some (r.1, (r.2 == (0 : Int)))
def scansionref18_Array_Word (a_ : Tscansionref18_Array) (n : Int) : Option ((Str × Bool)) :=
  (scansionref17_Word a_.G n).bind fun r =>
  some (r.1, (r.2 == (0 : Int)))
def scansionref18_Array_Save.k1 (out : List UInt8) : Option (List UInt8) :=
  some out
def scansionref18_Array_Save.k2 (s : Int) (out2 : List UInt8) : Option (Step ((List UInt8 × Int)) (List UInt8)) :=
  some (Step.next (out2, (IntKind.i64.wrap (s + (1 : Int)))))
def scansionref18_Array_Save.b2 (s : Int) (xs : List TEdge) : (List UInt8 × Int) → Option (Step ((List UInt8 × Int)) (Step ((List UInt8 × Int)) (List UInt8)))
  | (out3, k) =>
    if (decide (k < (xs.length : Int))) then
      (idx xs k).bind fun x =>
      (room 1 (out3.length + 1)).bind fun _ =>
      (scansionref14_Number x.To).bind fun r2 =>
      (room 1 (out3.length + 1 + r2.length)).bind fun _ =>
      some (Step.next (((out3 ++ ([x.Label])) ++ r2), (IntKind.i64.wrap (k + (1 : Int)))))
    else
      (scansionref18_Array_Save.k2 s out3).map Step.done
def scansionref18_Array_Save.k3 (a_ : Tscansionref18_Array) (out1 : List UInt8) (s : Int) (final : UInt8) : Option (Step ((List UInt8 × Int)) (List UInt8)) :=
  (room 1 (out1.length + 1)).bind fun _ =>
  (idx a_.G.Edges s).bind fun xs =>
  (scansionref14_Number (xs.length : Int)).bind fun r1 =>
  (room 1 (out1.length + 1 + r1.length)).bind fun _ =>
  Loop (scansionref18_Array_Save.b2 s xs) (((out1 ++ ([final])) ++ r1), (0 : Int))
def scansionref18_Array_Save.b1 (a_ : Tscansionref18_Array) : (List UInt8 × Int) → Option (Step ((List UInt8 × Int)) (List UInt8))
  | (out1, s) =>
    if (decide (s < (a_.G.Final.length : Int))) then
      (idx a_.G.Final s).bind fun b =>
      if b then
        scansionref18_Array_Save.k3 a_ out1 s (u8 (1 : Int))
      else
        scansionref18_Array_Save.k3 a_ out1 s (u8 (0 : Int))
    else
      (scansionref18_Array_Save.k1 out1).map Step.done
def scansionref18_Array_Save (a_ : Tscansionref18_Array) : Option (List UInt8) :=
  (scansionref14_Number (a_.G.Final.length : Int)).bind fun r =>
  Loop (scansionref18_Array_Save.b1 a_) (r, (0 : Int))
def scansionlaw18_alike (a_ : Tdarray_Array) (w : Tscansionref18_Array) (b : List UInt8) : Option Bool :=
  (darray_Array_Prefixes a_ b).bind fun r =>
  (scansionref18_Array_Prefixes w b).bind fun r1 =>
  (scansionref01_SameInts r r1).bind fun r2 =>
  ((darray_Array_Words a_).bind fun r3 =>
    (scansionref18_Array_Words w).bind fun r4 =>
    if (r3 == r4) then
      (darray_Array_Cells a_).bind fun r5 =>
      if (r5 == w.Cells) then
        (darray_Array_Save a_).bind fun r6 =>
        (scansionref18_Array_Save w).bind fun r7 =>
        some (r6 == r7)
      else
        some false
    else
      some false).bind fun rest_ =>
  (scansionref18_Array_Words w).bind fun r8 =>
  if (decide (r8 > (1073741824 : Int))) then
    some (r2 && rest_)
  else
    (darray_Array_Number a_ b).bind fun r9 =>
    (scansionref18_Array_Number w b).bind fun r10 =>
    (darray_Array_Word a_ (IntKind.i64.wrap ((b.length : Int) - (1 : Int)))).bind fun r11 =>
    (scansionref18_Array_Word w (IntKind.i64.wrap ((b.length : Int) - (1 : Int)))).bind fun r12 =>
    if ((!(r11.1 == r12.1)) || (!(r11.2 == r12.2))) then
      some false
    else
      some (r2 && (rest_ && ((r9.1 == r10.1) && (r9.2 == r10.2))))
def packed_Told.k1 : Option ((Int × Int × Int)) :=
  some ((0 : Int), (0 : Int), (2 : Int))
def packed_Told.b1 (b : List UInt8) : (Int × Int) → Option (Step ((Int × Int)) ((Int × Int × Int)))
  | (n, i) =>
    if (decide (i < (mn (b.length : Int) (5 : Int)))) then
      (idx b i).bind fun n1 =>
      (some (bNot .u8 (n1.toNat : Int) (128 : Int))).bind fun z =>
      (nat (IntKind.i64.wrap ((7 : Int) * i))).bind fun _ =>
      (some (shL .i64 (IntKind.i64.wrap z) (IntKind.i64.wrap ((7 : Int) * i)))).bind fun z1 =>
      (some (bOr .i64 n z1)).bind fun z2 =>
      if (decide ((n1.toNat : Int) < (128 : Int))) then
        if ((decide (z2 > (2147483647 : Int))) || ((decide (i > (0 : Int))) && ((n1.toNat : Int) == (0 : Int)))) then
          (packed_Told.k1).map Step.done
        else
          some (Step.done (z2, (IntKind.i64.wrap (i + (1 : Int))), (0 : Int)))
      else
        some (Step.next (z2, (IntKind.i64.wrap (i + (1 : Int)))))
    else
      (packed_Told.k1).map Step.done
def packed_Told (b : List UInt8) : Option ((Int × Int × Int)) :=
  Loop (packed_Told.b1 b) ((0 : Int), (0 : Int))
def scansionref14_Told.k1 : Option ((Int × Int × Int)) :=
  some ((0 : Int), (0 : Int), (2 : Int))
def scansionref14_Told.b1 (b : List UInt8) : (Int × Int × Int) → Option (Step ((Int × Int × Int)) ((Int × Int × Int)))
  | (n, weight, i) =>
    if ((decide (i < (b.length : Int))) && (decide (i < (5 : Int)))) then
      (idx b i).bind fun n1 =>
      if (decide ((n1.toNat : Int) < (128 : Int))) then
        if ((decide ((IntKind.i64.wrap (n + (IntKind.i64.wrap ((IntKind.i64.wrap (Int.tmod (n1.toNat : Int) (128 : Int))) * weight)))) > (2147483647 : Int))) || ((decide (i > (0 : Int))) && ((n1.toNat : Int) == (0 : Int)))) then
          some (Step.done ((0 : Int), (0 : Int), (2 : Int)))
        else
          some (Step.done ((IntKind.i64.wrap (n + (IntKind.i64.wrap ((IntKind.i64.wrap (Int.tmod (n1.toNat : Int) (128 : Int))) * weight)))), (IntKind.i64.wrap (i + (1 : Int))), (0 : Int)))
      else
        some (Step.next ((IntKind.i64.wrap (n + (IntKind.i64.wrap ((IntKind.i64.wrap (Int.tmod (n1.toNat : Int) (128 : Int))) * weight)))), (IntKind.i64.wrap (weight * (128 : Int))), (IntKind.i64.wrap (i + (1 : Int)))))
    else
      (scansionref14_Told.k1).map Step.done
def scansionref14_Told (b : List UInt8) : Option ((Int × Int × Int)) :=
  Loop (scansionref14_Told.b1 b) ((0 : Int), (1 : Int), (0 : Int))
def darray_reader_byte (r : Tdarray_reader) : Option ((UInt8 × Tdarray_reader)) :=
  (if r.fault then
      some true
    else
      some ((r.rest_.length : Int) == (0 : Int))).bind fun fault =>
  if fault then
    some ((u8 (0 : Int)), (Tdarray_reader.mk r.rest_ fault))
  else
    (r.rest_[0]?).bind fun n =>
    (cutL r.rest_ (1 : Int)).bind fun _ =>
    some (n, (Tdarray_reader.mk (List.drop (Int.toNat (1 : Int)) r.rest_) fault))
def darray_reader_number (r : Tdarray_reader) (most : Int) : Option ((Int × Tdarray_reader)) :=
  (packed_Told r.rest_).bind fun r1 =>
  (if r.fault then
      some true
    else
      if (r1.2.2 != (0 : Int)) then
        some true
      else
        some (decide (r1.1 > most))).bind fun fault =>
  if fault then
    some ((0 : Int), (Tdarray_reader.mk r.rest_ fault))
  else
    (cutL r.rest_ r1.2.1).bind fun _ =>
    some (r1.1, (Tdarray_reader.mk (List.drop (Int.toNat r1.2.1) r.rest_) fault))
def scansionref18_row.k1 (b1 : List UInt8) (l : List TEdge) : Option ((List TEdge × List UInt8 × Bool)) :=
  some (l, b1, true)
def scansionref18_row.b1 (r : (Int × Int × Int)) : (List UInt8 × List TEdge × Int) → Option (Step ((List UInt8 × List TEdge × Int)) ((List TEdge × List UInt8 × Bool)))
  | (b2, l1, i) =>
    if (decide (i < r.1)) then
      if ((b2.length : Int) == (0 : Int)) then
        some (Step.done (([] : List TEdge), ([] : List UInt8), false))
      else
        (cutL b2 (1 : Int)).bind fun _ =>
        (scansionref14_Told (List.drop (Int.toNat (1 : Int)) b2)).bind fun r1 =>
        if (r1.2.2 != (0 : Int)) then
          some (Step.done (([] : List TEdge), ([] : List UInt8), false))
        else
          (b2[0]?).bind fun n =>
          (room 16 (l1.length + 1)).bind fun _ =>
          (cutL b2 (IntKind.i64.wrap ((1 : Int) + r1.2.1))).bind fun _ =>
          some (Step.next ((List.drop (Int.toNat (IntKind.i64.wrap ((1 : Int) + r1.2.1))) b2), (l1 ++ ([(TEdge.mk n r1.1)])), (IntKind.i64.wrap (i + (1 : Int)))))
    else
      (scansionref18_row.k1 b2 l1).map Step.done
def scansionref18_row (b : List UInt8) : Option ((List TEdge × List UInt8 × Bool)) :=
  (scansionref14_Told b).bind fun r =>
  if ((r.2.2 != (0 : Int)) || (decide (r.1 > (256 : Int)))) then
    some (([] : List TEdge), ([] : List UInt8), false)
  else
    (cutL b r.2.1).bind fun _ =>
    Loop (scansionref18_row.b1 r) ((List.drop (Int.toNat r.2.1) b), [], (0 : Int))
def darray_Load.k1 (rest_ : List UInt8) (fault : Bool) (Final : List Bool) (Edges : List (List TEdge)) : Option ((Option Tdarray_Array × Int)) :=
  (darray_Pack (TGraph.mk Final Edges)).bind fun r1 =>
  (match r1.1 with
  | none =>
    if (fault || ((decide ((rest_.length : Int) > (0 : Int))) || (r1.2 != (0 : Int)))) then
      some (none, (2 : Int))
    else
      some (none, (0 : Int))
  | some y =>
    if (fault || ((decide ((rest_.length : Int) > (0 : Int))) || (r1.2 != (0 : Int)))) then
      some (none, (2 : Int))
    else
      some ((some y), (0 : Int)))
def darray_Load.k2 (v2 : Int) (rest_2 : List UInt8) (fault2 : Bool) (Final2 : List Bool) (Edges2 : List (List TEdge)) : Option (Step ((Int × List UInt8 × Bool × List Bool × List (List TEdge))) ((Option Tdarray_Array × Int))) :=
  some (Step.next ((IntKind.i64.wrap (v2 + (1 : Int))), rest_2, fault2, Final2, Edges2))
def darray_Load.k3 (v2 : Int) (Final1 : List Bool) (Edges1 : List (List TEdge)) (r2 : (UInt8 × Tdarray_reader)) (l : List TEdge) (rest_3 : List UInt8) (fault3 : Bool) : Option (Step ((Int × List UInt8 × Bool × List Bool × List (List TEdge))) ((Option Tdarray_Array × Int))) :=
  if (fault3 || (decide ((r2.1.toNat : Int) > (1 : Int)))) then
    some (Step.done (none, (2 : Int)))
  else
    (room 1 (Final1.length + 1)).bind fun _ =>
    (room 24 (Edges1.length + 1)).bind fun _ =>
    darray_Load.k2 v2 rest_3 (fault3 || (decide ((r2.1.toNat : Int) > (1 : Int)))) (Final1 ++ ([((r2.1.toNat : Int) == (1 : Int))])) (Edges1 ++ ([l]))
def darray_Load.b2 (v2 : Int) (Final1 : List Bool) (Edges1 : List (List TEdge)) (r2 : (UInt8 × Tdarray_reader)) (r3 : (Int × Tdarray_reader)) : (List TEdge × Int × List UInt8 × Bool) → Option (Step ((List TEdge × Int × List UInt8 × Bool)) (Step ((Int × List UInt8 × Bool × List Bool × List (List TEdge))) ((Option Tdarray_Array × Int))))
  | (l1, v3, rest_4, fault5) =>
    if (decide (v3 < r3.1)) then
      (darray_reader_byte (Tdarray_reader.mk rest_4 fault5)).bind fun r4 =>
      (darray_reader_number r4.2 (20000 : Int)).bind fun r5 =>
      (room 16 (l1.length + 1)).bind fun _ =>
      some (Step.next ((l1 ++ ([(TEdge.mk r4.1 r5.1)])), (IntKind.i64.wrap (v3 + (1 : Int))), r5.2.rest_, r5.2.fault))
    else
      (darray_Load.k3 v2 Final1 Edges1 r2 l1 rest_4 fault5).map Step.done
def darray_Load.b1 (r : (Int × Tdarray_reader)) : (Int × List UInt8 × Bool × List Bool × List (List TEdge)) → Option (Step ((Int × List UInt8 × Bool × List Bool × List (List TEdge))) ((Option Tdarray_Array × Int)))
  | (v2, rest_1, fault1, Final1, Edges1) =>
    if (decide (v2 < r.1)) then
      (darray_reader_byte (Tdarray_reader.mk rest_1 fault1)).bind fun r2 =>
      (darray_reader_number r2.2 (256 : Int)).bind fun r3 =>
      Loop (darray_Load.b2 v2 Final1 Edges1 r2 r3) ([], (0 : Int), r3.2.rest_, r3.2.fault)
    else
      (darray_Load.k1 rest_1 fault1 Final1 Edges1).map Step.done
def darray_Load (b : List UInt8) : Option ((Option Tdarray_Array × Int)) :=
  (darray_reader_number (Tdarray_reader.mk b false) (20000 : Int)).bind fun r =>
  Loop (darray_Load.b1 r) ((0 : Int), r.2.rest_, r.2.fault, [], [])
def scansionref18_Load.k1 (b1 : List UInt8) (Final : List Bool) (Edges : List (List TEdge)) : Option ((Option Tscansionref18_Array × Int)) :=
  (scansionref18_Pack (TGraph.mk Final Edges)).bind fun r1 =>
  (match r1.1 with
  | none =>
    if ((r1.2 != (0 : Int)) || (decide ((b1.length : Int) > (0 : Int)))) then
      some (none, (2 : Int))
    else
      some (none, (0 : Int))
  | some y =>
    if ((r1.2 != (0 : Int)) || (decide ((b1.length : Int) > (0 : Int)))) then
      some (none, (2 : Int))
    else
      some ((some y), (0 : Int)))
def scansionref18_Load.b1 (r : (Int × Int × Int)) : (List UInt8 × Int × List Bool × List (List TEdge)) → Option (Step ((List UInt8 × Int × List Bool × List (List TEdge))) ((Option Tscansionref18_Array × Int)))
  | (b2, s, Final1, Edges1) =>
    if (decide (s < r.1)) then
      (if ((b2.length : Int) == (0 : Int)) then
          some true
        else
          (b2[0]?).bind fun n =>
          some (decide ((n.toNat : Int) > (1 : Int)))).bind fun v3 =>
      if v3 then
        some (Step.done (none, (2 : Int)))
      else
        (b2[0]?).bind fun n1 =>
        (room 1 (Final1.length + 1)).bind fun _ =>
        (cutL b2 (1 : Int)).bind fun _ =>
        (scansionref18_row (List.drop (Int.toNat (1 : Int)) b2)).bind fun r2 =>
        if (!r2.2.2) then
          some (Step.done (none, (2 : Int)))
        else
          (room 24 (Edges1.length + 1)).bind fun _ =>
          some (Step.next (r2.2.1, (IntKind.i64.wrap (s + (1 : Int))), (Final1 ++ ([((n1.toNat : Int) == (1 : Int))])), (Edges1 ++ ([r2.1]))))
    else
      (scansionref18_Load.k1 b2 Final1 Edges1).map Step.done
def scansionref18_Load (b : List UInt8) : Option ((Option Tscansionref18_Array × Int)) :=
  (scansionref14_Told b).bind fun r =>
  if ((r.2.2 != (0 : Int)) || (decide (r.1 > (20000 : Int)))) then
    some (none, (2 : Int))
  else
    (cutL b r.2.1).bind fun _ =>
    Loop (scansionref18_Load.b1 r) ((List.drop (Int.toNat r.2.1) b), (0 : Int), [], [])
def scansionlaw18_awake : Option Bool :=
  (scansionref17_Build ([([97, 98] : Str), ([99, 98] : Str)])).bind fun r =>
  (darray_Pack r.1).bind fun r1 =>
  (match r1.1 with
  | none =>
    some false
  | some y =>
    (if (r1.2 == (0 : Int)) then
        (darray_Array_Start y).bind fun r2 =>
        if (r2 == (2 : Int)) then
          (darray_Array_Words y).bind fun r3 =>
          if (r3 == (2 : Int)) then
            (darray_Array_Prefixes y ([(u8 (97 : Int)), (u8 (98 : Int)), (u8 (99 : Int))])).bind fun r4 =>
            (scansionref01_SameInts r4 ([(2 : Int)])).bind fun r5 =>
            some r5
          else
            some false
        else
          some false
      else
        some false).bind fun v =>
    some v)
def scansionlaw18_DarrayLoads (c : List UInt8) (b : List UInt8) : Option Bool :=
  scansionlaw18_awake.bind fun r =>
  if ((!r) || ((decide ((c.length : Int) > (1500 : Int))) || (decide ((b.length : Int) > (100 : Int))))) then
    some r
  else
    (darray_Load c).bind fun r1 =>
    (match r1.1 with
    | none =>
      (scansionref18_Load c).bind fun r2 =>
      (match r2.1 with
      | none =>
        if (r1.2 != r2.2) then
          some false
        else
          some true
      | some y1 =>
        some false)
    | some y =>
      (scansionref18_Load c).bind fun r3 =>
      (match r3.1 with
      | none =>
        some false
      | some y2 =>
        if (r1.2 != r3.2) then
          some false
        else
          if (decide ((y2.G.Final.length : Int) > (200 : Int))) then
            (darray_Array_Save y).bind fun r4 =>
            some (r4 == c)
          else
            ((scansionlaw18_alike y y2 b).bind fun r5 =>
              if r5 then
                (darray_Array_Save y).bind fun r6 =>
                some (r6 == c)
              else
                some false).bind fun v5 =>
            some v5))
end
end Go.Val

/- part GW66 -/
/- scansion/packed.Number runs as it is read off. -/
namespace Go.Val
set_option linter.unusedVariables false
set_option linter.unusedSimpArgs false
set_option maxRecDepth 20000
open Go.Proofs
theorem packed_Number_runs (n : Int) {h : Heap} {a : List UInt8} (e : packed_Number n = some a) :
    Runs CT 66 [.cv (.val (.int .i64 n))] h fun o h' => o = [.cv (.row 5 (List.map eU a))] ∧ h' = h := by
  refine Runs.start Try.f66 _ Try.func66 rfl (by rw [Try.ntmps66]; simp) (by rfl) (by rfl) (fun hwf hu => ?_)
  obtain ⟨D, hD, hr⟩ : ∃ D : List UInt8 → Prop, (∀ z, D z → z = a) ∧ Holds (packed_Number n) D := ⟨fun z => z = a, fun _ h => h, Holds.intro e rfl⟩
  dsimp only [packed_Number] at hr
  change wpCode _ _ _ _ _ ⟨[(0, .cv (.val (.int .i64 n)))], h.on []⟩
  refine w_seq ?_
  refine A_region ?_
  refine w_n ?_
  refine w_seq ?_
  refine A_region ?_
  refine w_n ?_
  refine w_seq ?_
  refine w_seq ?_
  refine A_region ?_
  refine w_n ?_
  refine w_K (D := D) (fun xX : (Int × List UInt8) => ⟨[(0, .cv (.val (.int .i64 xX.1))), (3, .cv (.row 5 (List.map eU xX.2)))], h.on []⟩) (fun xX : (Int × List UInt8) => packed_Number.k1 xX.1 xX.2) (fun xX s' hr ht => ?_) ?_
  · obtain ⟨n1, out⟩ := xX
    dsimp only [packed_Number.k1] at hr ht
    refine (w_nT ht ?_)
    refine w_seq ?_
    obtain ⟨nF1, hr⟩ := hr.room
    refine A_region ?_
    refine w_n ?_
    refine w_ret ?_
    obtain rfl := hD _ hr
    exact (A_endR (A_cut (os' := []) (sl := [(2, .cv (.row 5 (List.map eU (out ++ ([(u8 (IntKind.u8.wrap n1))])))))]) hwf) ⟨rfl, on_nil hwf⟩)
  · refine w_block ?_
    refine w_Loop (fun xX : (Int × List UInt8) => ⟨[(0, .cv (.val (.int .i64 xX.1))), (3, .cv (.row 5 (List.map eU xX.2)))], h.on []⟩) hr (A_cut hwf) (fun W1 xX hr => ?_)
    obtain ⟨n2, out1⟩ := xX
    dsimp only [packed_Number.b1] at hr
    refine w_seq ?_
    refine w_seq ?_
    refine A_region ?_
    refine w_n ?_
    refine A_condH hr (fun cF2 hr => ?_) (fun cF2 hr => ?_)
    · refine w_skip ?_
      refine w_n ?_
      refine w_seq ?_
      refine w_block ?_
      obtain ⟨nF3, hr⟩ := hr.room
      refine A_region ?_
      refine (w_bn (w_n ?_))
      refine w_region rfl (by simp (disch := (apply Apart.mk; decide)) only [go_sem, Nat.reduceAdd, Nat.reduceLT, Nat.reduceMul, Nat.reduceLeDiff, Int.reduceToNat, Int.reduceLT, Int.reduceLE, (eq_false (by decide : ¬ ((7 : Int) < 0))), cF2]; rfl) ?_
      exact (w_k ⟨((shR .i64 n2 (7 : Int)), (out1 ++ ([(u8 (IntKind.u8.wrap (bOr .i64 n2 (128 : Int))))]))), hr, (A_cut hwf)⟩)
    · refine w_exit ?_
      exact (w_te (w_te (w_bx (w_k ⟨(n2, out1), (hr).map, (A_cut hwf)⟩))))
end Go.Val

/- part GW45 -/
/- (*scansion/darray.Array).Save runs as it is read off. -/
namespace Go.Val
set_option linter.unusedVariables false
set_option linter.unusedSimpArgs false
set_option maxRecDepth 20000
open Go.Proofs
theorem darray_Array_Save_runs (a_ : Tdarray_Array) (l0 : Nat) {h : Heap} (ha0 : h.at_ l0 = some (.cells [.val (.sl (List.map eB a_.graph.Final)), .val (.sl (List.map (eL eEdge) a_.graph.Edges)), .row 3 (List.map eI a_.base), .row 91 (List.map edarray_cell a_.cells), .val (.sl (List.map eI a_.count))])) {a : List UInt8} (e : darray_Array_Save a_ = some a) :
    Runs CT 45 [.cv (.val (.ptr (some (l0, 0))))] h fun o h' => o = [.cv (.val (.sl (List.map eU a)))] ∧ h' = h := by
  refine Runs.start Try.f45 _ Try.func45 rfl (by rw [Try.ntmps45]; simp) (by rfl) (by rfl) (fun hwf hu => ?_)
  have hl0 := (hwf _ _ ha0).1
  have kl0 := locF hl0
  obtain ⟨D, hD, hr⟩ : ∃ D : List UInt8 → Prop, (∀ z, D z → z = a) ∧ Holds (darray_Array_Save a_) D := ⟨fun z => z = a, fun _ h => h, Holds.intro e rfl⟩
  dsimp only [darray_Array_Save] at hr
  change wpCode _ _ _ _ _ ⟨[(0, .cv (.val (.ptr (some (l0, 0)))))], h.on []⟩
  refine w_seq ?_
  refine A_region ?_
  refine w_n ?_
  refine w_seq ?_
  refine A_ops ?_
  refine A_upto 6 ?_
  obtain ⟨r, eF1, hr⟩ := hr.bind
  refine A_call (out := ?o_eF1) (hp := ?p_eF1) ?c_eF1 ?d_eF1 ?_
  case c_eF1 => exact packed_Number_runs (a_.graph.Final.length : Int) eF1
  case d_eF1 => rfl
  refine A_ops_end ?_
  refine w_n ?_
  refine w_seq ?_
  refine w_seq ?_
  refine A_region ?_
  refine w_n ?_
  refine w_K (D := D) (fun xX : List UInt8 => ⟨[(3, .cv (.row 5 (List.map eU xX)))], h.on []⟩) (fun xX : List UInt8 => darray_Array_Save.k1 xX) (fun xX s' hr ht => ?_) ?_
  · obtain ⟨out, rfl⟩ : ∃ z, z = xX := ⟨xX, rfl⟩
    dsimp only [darray_Array_Save.k1] at hr ht
    refine (w_nT ht ?_)
    refine w_seq ?_
    refine A_region ?_
    refine w_n ?_
    refine w_ret ?_
    obtain rfl := hD _ hr
    exact (A_endR (.fix _ _ (.slot 2) 5 _ (by simp (disch := (apply Apart.mk; decide)) only [go_sem, Nat.reduceAdd, Nat.reduceLT, Nat.reduceMul, Nat.reduceLeDiff, Int.reduceToNat, Int.reduceLT, Int.reduceLE, ha0, on_atB hl0, lt_add hl0, lt_at hl0]; rfl) (A_cut (os' := []) (sl := [(2, .cv (.val (.sl (List.map eU out))))]) hwf)) ⟨rfl, on_nil hwf⟩)
  · refine w_block ?_
    refine w_Loop (fun xX : (List UInt8 × Int) => ⟨[(0, .cv (.val (.ptr (some (l0, 0))))), (3, .cv (.row 5 (List.map eU xX.1))), (20, .cv (.val (.sl (List.map (eL eEdge) a_.graph.Edges)))), (21, .cv (.val (.int .i64 (a_.graph.Edges.length : Int)))), (22, .cv (.val (.int .i64 xX.2)))], h.on []⟩) hr (A_cut hwf) (fun W1 xX hr => ?_)
    obtain ⟨out1, v⟩ := xX
    dsimp only [darray_Array_Save.b1] at hr
    refine w_seq ?_
    refine A_region ?_
    refine w_n ?_
    refine w_seq ?_
    refine A_condH hr (fun cF2 hr => ?_) (fun cF2 hr => ?_)
    · refine w_skip ?_
      refine w_n ?_
      refine w_seq ?_
      refine w_K (D := (Aft W1 D)) (fun xX : List UInt8 => ⟨[(0, .cv (.val (.ptr (some (l0, 0))))), (3, .cv (.row 5 (List.map eU xX))), (20, .cv (.val (.sl (List.map (eL eEdge) a_.graph.Edges)))), (21, .cv (.val (.int .i64 (a_.graph.Edges.length : Int)))), (22, .cv (.val (.int .i64 v)))], h.on []⟩) (fun xX : List UInt8 => darray_Array_Save.k2 v xX) (fun xX s' hr ht => ?_) ?_
      · obtain ⟨out2, rfl⟩ : ∃ z, z = xX := ⟨xX, rfl⟩
        dsimp only [darray_Array_Save.k2] at hr ht
        refine (w_nT ht ?_)
        refine A_region ?_
        exact (w_k ⟨(out2, (IntKind.i64.wrap (v + (1 : Int)))), hr, (A_cut hwf)⟩)
      · refine w_block ?_
        refine w_seq ?_
        obtain ⟨xs, nF3, eF4, gF5, hr⟩ := hr.idx
        refine A_region ?_
        refine w_n ?_
        refine w_seq ?_
        refine A_region ?_
        refine w_n ?_
        refine w_seq ?_
        refine w_seq ?_
        obtain ⟨b, nF6, eF7, gF8, hr⟩ := hr.idx
        refine A_region ?_
        refine w_n ?_
        refine w_K (D := (Aft W1 D)) (fun xX : UInt8 => ⟨[(0, .cv (.val (.ptr (some (l0, 0))))), (3, .cv (.row 5 (List.map eU out1))), (5, .cv (.val (.sl (List.map eEdge xs)))), (6, .cv (.val (.int .u8 (xX.toNat : Int)))), (20, .cv (.val (.sl (List.map (eL eEdge) a_.graph.Edges)))), (21, .cv (.val (.int .i64 (a_.graph.Edges.length : Int)))), (22, .cv (.val (.int .i64 v)))], h.on []⟩) (fun xX : UInt8 => darray_Array_Save.k3 out1 v xs xX) (fun xX s' hr ht => ?_) ?_
        · obtain ⟨final, rfl⟩ : ∃ z, z = xX := ⟨xX, rfl⟩
          dsimp only [darray_Array_Save.k3] at hr ht
          refine (w_nT ht ?_)
          refine w_seq ?_
          refine A_ops ?_
          obtain ⟨nF9, hr⟩ := hr.room
          refine A_upto 6 ?_
          obtain ⟨r1, eF10, hr⟩ := hr.bind
          refine A_call (out := ?o_eF10) (hp := ?p_eF10) ?c_eF10 ?d_eF10 ?_
          case c_eF10 => exact packed_Number_runs (xs.length : Int) eF10
          case d_eF10 => rfl
          obtain ⟨nF11, hr⟩ := hr.room
          refine A_ops_end ?_
          refine w_n ?_
          refine w_seq ?_
          refine A_region ?_
          refine w_n ?_
          refine w_block ?_
          refine w_Loop (fun xX : (List UInt8 × Int) => ⟨[(0, .cv (.val (.ptr (some (l0, 0))))), (3, .cv (.row 5 (List.map eU xX.1))), (20, .cv (.val (.sl (List.map (eL eEdge) a_.graph.Edges)))), (21, .cv (.val (.int .i64 (a_.graph.Edges.length : Int)))), (22, .cv (.val (.int .i64 v))), (43, .cv (.val (.sl (List.map eEdge xs)))), (44, .cv (.val (.int .i64 (xs.length : Int)))), (45, .cv (.val (.int .i64 xX.2)))], h.on []⟩) hr (A_cut hwf) (fun W2 xX hr => ?_)
          obtain ⟨out3, v1⟩ := xX
          dsimp only [darray_Array_Save.b2] at hr
          refine w_seq ?_
          refine A_region ?_
          refine w_n ?_
          refine w_seq ?_
          refine A_condH hr (fun cF12 hr => ?_) (fun cF12 hr => ?_)
          · refine w_skip ?_
            refine w_n ?_
            refine w_seq ?_
            refine w_block ?_
            refine w_seq ?_
            obtain ⟨x, nF13, eF14, gF15, hr⟩ := hr.idx
            refine A_region ?_
            refine w_n ?_
            refine w_drawn [0, 1, 2, 3, 5, 6, 4, 7, 8, 9] (by rfl) ?_
            obtain ⟨nF16, hr⟩ := hr.room
            refine p_run (l := [0, 1, 2, 3, 5, 6]) (pend' := [6, 5, 3, 2, 1, 0]) (by simp (disch := (apply Apart.mk; decide)) only [go_sem, Nat.reduceAdd, Nat.reduceLT, Nat.reduceMul, Nat.reduceLeDiff, Int.reduceToNat, Int.reduceLT, Int.reduceLE, ha0, on_atB hl0, lt_add hl0, lt_at hl0, nF16]; rfl) rfl ?_
            refine p_op (pend' := [6, 5]) rfl (by simp (disch := (apply Apart.mk; decide)) only [go_sem, Nat.reduceAdd, Nat.reduceLT, Nat.reduceMul, Nat.reduceLeDiff, Int.reduceToNat, Int.reduceLT, Int.reduceLE, ha0, on_atB hl0, lt_add hl0, lt_at hl0, nF16]) (by simp (disch := (apply Apart.mk; decide)) only [go_sem, Nat.reduceAdd, Nat.reduceLT, Nat.reduceMul, Nat.reduceLeDiff, Int.reduceToNat, Int.reduceLT, Int.reduceLE, ha0, on_atB hl0, lt_add hl0, lt_at hl0, nF16]; rfl) (by rfl) ?_
            obtain ⟨r2, eF17, hr⟩ := hr.bind
            refine p_call (out := ?o_eF17) (hp := ?p_eF17) (pend' := []) rfl (by simp (disch := (apply Apart.mk; decide)) only [go_sem, Nat.reduceAdd, Nat.reduceLT, Nat.reduceMul, Nat.reduceLeDiff, Int.reduceToNat, Int.reduceLT, Int.reduceLE, ha0, on_atB hl0, lt_add hl0, lt_at hl0, Option.getD_some, nF16]) rfl (by simp (disch := (apply Apart.mk; decide)) only [go_sem, Nat.reduceAdd, Nat.reduceLT, Nat.reduceMul, Nat.reduceLeDiff, Int.reduceToNat, Int.reduceLT, Int.reduceLE, ha0, on_atB hl0, lt_add hl0, lt_at hl0, Option.getD_some, nF16]; rfl) (by simp (disch := (apply Apart.mk; decide)) only [go_sem, Nat.reduceAdd, Nat.reduceLT, Nat.reduceMul, Nat.reduceLeDiff, Int.reduceToNat, Int.reduceLT, Int.reduceLE, ha0, on_atB hl0, lt_add hl0, lt_at hl0, Option.getD_some, nF16]; rfl) (by simp (disch := (apply Apart.mk; decide)) only [go_sem, Nat.reduceAdd, Nat.reduceLT, Nat.reduceMul, Nat.reduceLeDiff, Int.reduceToNat, Int.reduceLT, Int.reduceLE, ha0, on_atB hl0, lt_add hl0, lt_at hl0, Option.getD_some, nF16]; rfl) (by rfl) ?c_eF17 ?d_eF17 ?_
            case c_eF17 => exact packed_Number_runs x.To eF17
            case d_eF17 => rfl
            obtain ⟨nF18, hr⟩ := hr.room
            refine p_op (pend' := []) rfl (by simp (disch := (apply Apart.mk; decide)) only [go_sem, Nat.reduceAdd, Nat.reduceLT, Nat.reduceMul, Nat.reduceLeDiff, Int.reduceToNat, Int.reduceLT, Int.reduceLE, ha0, on_atB hl0, lt_add hl0, lt_at hl0, nF16, nF18]) (by simp (disch := (apply Apart.mk; decide)) only [go_sem, Nat.reduceAdd, Nat.reduceLT, Nat.reduceMul, Nat.reduceLeDiff, Int.reduceToNat, Int.reduceLT, Int.reduceLE, ha0, on_atB hl0, lt_add hl0, lt_at hl0, nF16, nF18]; rfl) (by rfl) ?_
            refine p_op (pend' := []) rfl (by simp (disch := (apply Apart.mk; decide)) only [go_sem, Nat.reduceAdd, Nat.reduceLT, Nat.reduceMul, Nat.reduceLeDiff, Int.reduceToNat, Int.reduceLT, Int.reduceLE, ha0, on_atB hl0, lt_add hl0, lt_at hl0, nF16, nF18]) (by simp (disch := (apply Apart.mk; decide)) only [go_sem, Nat.reduceAdd, Nat.reduceLT, Nat.reduceMul, Nat.reduceLeDiff, Int.reduceToNat, Int.reduceLT, Int.reduceLE, ha0, on_atB hl0, lt_add hl0, lt_at hl0, nF16, nF18]; rfl) (by rfl) ?_
            refine p_end (by simp (disch := (apply Apart.mk; decide)) only [go_sem, Nat.reduceAdd, Nat.reduceLT, Nat.reduceMul, Nat.reduceLeDiff, Int.reduceToNat, Int.reduceLT, Int.reduceLE, ha0, on_atB hl0, lt_add hl0, lt_at hl0, nF16, nF18]) ?_
            refine (w_bn (w_n ?_))
            refine A_region ?_
            exact (w_k ⟨(((out3 ++ ([x.Label])) ++ r2), (IntKind.i64.wrap (v1 + (1 : Int)))), hr, (A_cut hwf)⟩)
          · refine w_exit ?_
            exact (w_te (w_te (w_bx (w_bn (w_k ⟨out3, (hr).map, (A_cut hwf)⟩)))))
        · refine A_condH hr (fun cF19 hr => ?_) (fun cF19 hr => ?_)
          · refine A_region ?_
            exact (w_k ⟨(u8 (1 : Int)), hr, (A_cut hwf)⟩)
          · refine w_skip ?_
            exact (w_k ⟨(u8 (0 : Int)), hr, (A_cut hwf)⟩)
    · refine w_exit ?_
      exact (w_te (w_te (w_bx (w_k ⟨out1, (hr).map, (A_cut hwf)⟩))))
end Go.Val

/- part GW34 -/
/- scansion/scansionref01.SameInts runs as it is read off. -/
namespace Go.Val
set_option linter.unusedVariables false
set_option linter.unusedSimpArgs false
set_option maxRecDepth 20000
open Go.Proofs
theorem scansionref01_SameInts_runs (a_ : List Int) (b : List Int) {h : Heap} {a : Bool} (e : scansionref01_SameInts a_ b = some a) :
    Runs CT 34 [.cv (.val (.sl (List.map eI a_))), .cv (.val (.sl (List.map eI b)))] h fun o h' => o = [.cv (.val (.bool a))] ∧ h' = h := by
  refine Runs.start Try.f34 _ Try.func34 rfl (by rw [Try.ntmps34]; simp) (by rfl) (by rfl) (fun hwf hu => ?_)
  obtain ⟨D, hD, hr⟩ : ∃ D : Bool → Prop, (∀ z, D z → z = a) ∧ Holds (scansionref01_SameInts a_ b) D := ⟨fun z => z = a, fun _ h => h, Holds.intro e rfl⟩
  dsimp only [scansionref01_SameInts] at hr
  change wpCode _ _ _ _ _ ⟨[(0, .cv (.val (.sl (List.map eI a_)))), (1, .cv (.val (.sl (List.map eI b))))], h.on []⟩
  refine w_seq ?_
  refine A_region ?_
  refine w_n ?_
  refine w_seq ?_
  refine w_seq ?_
  refine A_region ?_
  refine w_n ?_
  refine A_condH hr (fun cF1 hr => ?_) (fun cF1 hr => ?_)
  · refine w_seq ?_
    refine A_region ?_
    refine w_n ?_
    refine w_ret ?_
    obtain rfl := hD _ hr
    exact (w_tr (A_endR (A_cut (os' := []) (sl := [(4, .cv (.val (.bool false)))]) hwf) ⟨rfl, on_nil hwf⟩))
  · refine w_skip ?_
    refine w_n ?_
    refine w_seq ?_
    refine w_seq ?_
    refine A_region ?_
    refine w_n ?_
    refine w_K (D := D) (fun xX : Unit => ⟨[], h.on []⟩) (fun xX : Unit => scansionref01_SameInts.k1) (fun xX s' hr ht => ?_) ?_
    · dsimp only [scansionref01_SameInts.k1] at hr ht
      refine (w_nT ht ?_)
      refine w_seq ?_
      refine A_region ?_
      refine w_n ?_
      refine w_ret ?_
      obtain rfl := hD _ hr
      exact (A_endR (A_cut (os' := []) (sl := [(4, .cv (.val (.bool true)))]) hwf) ⟨rfl, on_nil hwf⟩)
    · refine w_block ?_
      refine w_Loop (fun xX : Int => ⟨[(0, .cv (.val (.sl (List.map eI a_)))), (1, .cv (.val (.sl (List.map eI b)))), (5, .cv (.val (.int .i64 xX)))], h.on []⟩) hr (A_cut hwf) (fun W1 xX hr => ?_)
      obtain ⟨i, rfl⟩ : ∃ z, z = xX := ⟨xX, rfl⟩
      dsimp only [scansionref01_SameInts.b1] at hr
      refine w_seq ?_
      refine w_seq ?_
      refine A_region ?_
      refine w_n ?_
      refine A_condH hr (fun cF2 hr => ?_) (fun cF2 hr => ?_)
      · refine w_skip ?_
        refine w_n ?_
        refine w_seq ?_
        refine w_block ?_
        refine w_seq ?_
        refine w_drawn [0, 1, 2, 3, 4, 5, 6, 7, 8] (by rfl) ?_
        obtain ⟨n, nF3, eF4, gF5, hr⟩ := hr.idx
        obtain ⟨n1, nF6, eF7, gF8, hr⟩ := hr.idx
        refine p_run (l := [0, 1, 2, 3, 4, 5, 6, 7, 8]) (pend' := [8, 7, 6, 5, 4, 3, 2, 1, 0]) (by simp (disch := (apply Apart.mk; decide)) only [go_sem, Nat.reduceAdd, Nat.reduceLT, Nat.reduceMul, Nat.reduceLeDiff, Int.reduceToNat, Int.reduceLT, Int.reduceLE, nF3, eF4, gF5, nF6, eF7, gF8]; rfl) rfl ?_
        refine p_end (by simp (disch := (apply Apart.mk; decide)) only [go_sem, Nat.reduceAdd, Nat.reduceLT, Nat.reduceMul, Nat.reduceLeDiff, Int.reduceToNat, Int.reduceLT, Int.reduceLE, nF3, eF4, gF5, nF6, eF7, gF8]) ?_
        refine w_n ?_
        refine A_condH hr (fun cF9 hr => ?_) (fun cF9 hr => ?_)
        · refine w_seq ?_
          refine A_region ?_
          refine w_n ?_
          refine w_ret ?_
          obtain rfl := hD _ hr
          exact (w_br (w_tr (w_tr (w_br (w_tr (w_tr (A_endR (A_cut (os' := []) (sl := [(4, .cv (.val (.bool false)))]) hwf) ⟨rfl, on_nil hwf⟩)))))))
        · refine w_skip ?_
          refine (w_bn (w_n ?_))
          refine A_region ?_
          exact (w_k ⟨(IntKind.i64.wrap (i + (1 : Int))), hr, (A_cut hwf)⟩)
      · refine w_exit ?_
        exact (w_te (w_te (w_bx (w_k ⟨(), (hr).map, (A_cut hwf)⟩))))
end Go.Val

/- part GW25 -/
/- (*scansion/darray.Array).Cells runs as it is read off. -/
namespace Go.Val
set_option linter.unusedVariables false
set_option linter.unusedSimpArgs false
set_option maxRecDepth 20000
open Go.Proofs
theorem darray_Array_Cells_runs (a_ : Tdarray_Array) (l0 : Nat) {h : Heap} (ha0 : h.at_ l0 = some (.cells [.val (.sl (List.map eB a_.graph.Final)), .val (.sl (List.map (eL eEdge) a_.graph.Edges)), .row 3 (List.map eI a_.base), .row 91 (List.map edarray_cell a_.cells), .val (.sl (List.map eI a_.count))])) {a : Int} (e : darray_Array_Cells a_ = some a) :
    Runs CT 25 [.cv (.val (.ptr (some (l0, 0))))] h fun o h' => o = [.cv (.val (.int .i64 a))] ∧ h' = h := by
  refine Runs.start Try.f25 _ Try.func25 rfl (by rw [Try.ntmps25]; simp) (by rfl) (by rfl) (fun hwf hu => ?_)
  have hl0 := (hwf _ _ ha0).1
  have kl0 := locF hl0
  obtain ⟨D, hD, hr⟩ : ∃ D : Int → Prop, (∀ z, D z → z = a) ∧ Holds (darray_Array_Cells a_) D := ⟨fun z => z = a, fun _ h => h, Holds.intro e rfl⟩
  dsimp only [darray_Array_Cells] at hr
  change wpCode _ _ _ _ _ ⟨[(0, .cv (.val (.ptr (some (l0, 0)))))], h.on []⟩
  refine w_seq ?_
  refine A_region ?_
  refine w_n ?_
  refine w_seq ?_
  refine A_region ?_
  refine w_n ?_
  refine w_ret ?_
  obtain rfl := hD _ hr
  exact (A_endR (A_cut (os' := []) (sl := [(2, .cv (.val (.int .i64 (a_.cells.length : Int))))]) hwf) ⟨rfl, on_nil hwf⟩)
end Go.Val

/- part GW31 -/
/- (*scansion/darray.Array).Words runs as it is read off. -/
namespace Go.Val
set_option linter.unusedVariables false
set_option linter.unusedSimpArgs false
set_option maxRecDepth 20000
open Go.Proofs
theorem darray_Array_Words_runs (a_ : Tdarray_Array) (l0 : Nat) {h : Heap} (ha0 : h.at_ l0 = some (.cells [.val (.sl (List.map eB a_.graph.Final)), .val (.sl (List.map (eL eEdge) a_.graph.Edges)), .row 3 (List.map eI a_.base), .row 91 (List.map edarray_cell a_.cells), .val (.sl (List.map eI a_.count))])) {a : Int} (e : darray_Array_Words a_ = some a) :
    Runs CT 31 [.cv (.val (.ptr (some (l0, 0))))] h fun o h' => o = [.cv (.val (.int .i64 a))] ∧ h' = h := by
  refine Runs.start Try.f31 _ Try.func31 rfl (by rw [Try.ntmps31]; simp) (by rfl) (by rfl) (fun hwf hu => ?_)
  have hl0 := (hwf _ _ ha0).1
  have kl0 := locF hl0
  obtain ⟨D, hD, hr⟩ : ∃ D : Int → Prop, (∀ z, D z → z = a) ∧ Holds (darray_Array_Words a_) D := ⟨fun z => z = a, fun _ h => h, Holds.intro e rfl⟩
  dsimp only [darray_Array_Words] at hr
  change wpCode _ _ _ _ _ ⟨[(0, .cv (.val (.ptr (some (l0, 0)))))], h.on []⟩
  refine w_seq ?_
  refine A_region ?_
  refine w_n ?_
  refine w_seq ?_
  refine w_drawn [0, 1, 2, 3, 4, 5, 6, 7, 8, 9, 10, 11, 12] (by rfl) ?_
  obtain ⟨n, nF1, eF2, gF3, hr⟩ := hr.idx
  refine p_run (l := [0, 1, 2, 3, 4, 5, 6, 7, 8, 9, 10, 11]) (pend' := [11, 10, 9, 8, 7, 6, 5, 4, 3, 2, 1, 0]) (by simp (disch := (apply Apart.mk; decide)) only [go_sem, Nat.reduceAdd, Nat.reduceLT, Nat.reduceMul, Nat.reduceLeDiff, Int.reduceToNat, Int.reduceLT, Int.reduceLE, ha0, on_atB hl0, lt_add hl0, lt_at hl0, nF1, eF2, gF3]; rfl) rfl ?_
  refine p_op (pend' := []) rfl (by simp (disch := (apply Apart.mk; decide)) only [go_sem, Nat.reduceAdd, Nat.reduceLT, Nat.reduceMul, Nat.reduceLeDiff, Int.reduceToNat, Int.reduceLT, Int.reduceLE, ha0, on_atB hl0, lt_add hl0, lt_at hl0, nF1, eF2, gF3]) (by simp (disch := (apply Apart.mk; decide)) only [go_sem, Nat.reduceAdd, Nat.reduceLT, Nat.reduceMul, Nat.reduceLeDiff, Int.reduceToNat, Int.reduceLT, Int.reduceLE, ha0, on_atB hl0, lt_add hl0, lt_at hl0, nF1, eF2, gF3]; rfl) (by rfl) ?_
  refine p_end (by simp (disch := (apply Apart.mk; decide)) only [go_sem, Nat.reduceAdd, Nat.reduceLT, Nat.reduceMul, Nat.reduceLeDiff, Int.reduceToNat, Int.reduceLT, Int.reduceLE, ha0, on_atB hl0, lt_add hl0, lt_at hl0, nF1, eF2, gF3]) ?_
  refine w_n ?_
  refine w_ret ?_
  obtain rfl := hD _ hr
  exact (A_endR (A_cut (os' := []) (sl := [(2, .cv (.val (.int .i64 n)))]) hwf) ⟨rfl, on_nil hwf⟩)
end Go.Val

/- part GW27 -/
/- scansion/dawg.Right runs as it is read off. -/
namespace Go.Val
set_option linter.unusedVariables false
set_option linter.unusedSimpArgs false
set_option maxRecDepth 20000
open Go.Proofs
theorem dawg_Right_runs (g : TGraph) {h : Heap} {a : Bool} (e : dawg_Right g = some a) :
    Runs CT 27 [.cv (.val (.agg [.sl (List.map eB g.Final), .sl (List.map (eL eEdge) g.Edges)]))] h fun o h' => o = [.cv (.val (.bool a))] ∧ h' = h := by
  refine Runs.start Try.f27 _ Try.func27 rfl (by rw [Try.ntmps27]; simp) (by rfl) (by rfl) (fun hwf hu => ?_)
  obtain ⟨D, hD, hr⟩ : ∃ D : Bool → Prop, (∀ z, D z → z = a) ∧ Holds (dawg_Right g) D := ⟨fun z => z = a, fun _ h => h, Holds.intro e rfl⟩
  dsimp only [dawg_Right] at hr
  change wpCode _ _ _ _ _ ⟨[(0, .cv (.val (.agg [.sl (List.map eB g.Final), .sl (List.map (eL eEdge) g.Edges)])))], h.on []⟩
  refine w_seq ?_
  refine A_region ?_
  refine w_n ?_
  refine w_seq ?_
  refine A_region ?_
  refine w_n ?_
  refine w_seq ?_
  refine w_joinR (sj := ⟨[(1, .cv (.val (.ptr (some (h.n + 0, 0))))), (23, .cv (.val (.bool ((decide ((g.Final.length : Int) < (1 : Int))) || ((decide ((g.Final.length : Int) > (65536 : Int))) || ((g.Edges.length : Int) != (g.Final.length : Int)))))))], h.on [some (.cells [.val (.sl (List.map eB g.Final)), .val (.sl (List.map (eL eEdge) g.Edges))])]⟩) (A_ops ?_) ?_
  · refine A_upto 3 ?_
    rcases Bool.eq_false_or_eq_true (decide ((g.Final.length : Int) < (1 : Int))) with cF1 | cF1
    · refine A_ops_end ?_
      exact w_k (A_cut hwf)
    · refine A_upto 4 ?_
      rcases Bool.eq_false_or_eq_true (decide ((g.Final.length : Int) > (65536 : Int))) with cF2 | cF2
      · refine A_ops_end ?_
        exact w_k (A_cut hwf)
      · refine A_ops_end ?_
        exact w_k (A_cut hwf)
  refine A_condH hr (fun cF3 hr => ?_) (fun cF3 hr => ?_)
  · refine w_seq ?_
    refine A_region ?_
    refine w_n ?_
    refine w_ret ?_
    obtain rfl := hD _ hr
    exact (w_tr (A_endR (A_cut (os' := []) (sl := [(2, .cv (.val (.bool false)))]) hwf) ⟨rfl, on_nil hwf⟩))
  · refine w_skip ?_
    refine w_n ?_
    refine w_seq ?_
    refine w_seq ?_
    refine A_region ?_
    refine w_n ?_
    refine w_K (D := D) (fun xX : Unit => ⟨[], h.on []⟩) (fun xX : Unit => dawg_Right.k1) (fun xX s' hr ht => ?_) ?_
    · dsimp only [dawg_Right.k1] at hr ht
      refine (w_nT ht ?_)
      refine w_seq ?_
      refine A_region ?_
      refine w_n ?_
      refine w_ret ?_
      obtain rfl := hD _ hr
      exact (A_endR (A_cut (os' := []) (sl := [(2, .cv (.val (.bool true)))]) hwf) ⟨rfl, on_nil hwf⟩)
    · refine w_block ?_
      refine w_Loop (fun xX : Int => ⟨[(25, .cv (.val (.sl (List.map (eL eEdge) g.Edges)))), (26, .cv (.val (.int .i64 (g.Edges.length : Int)))), (27, .cv (.val (.int .i64 xX)))], h.on []⟩) hr (A_cut hwf) (fun W1 xX hr => ?_)
      obtain ⟨v1, rfl⟩ : ∃ z, z = xX := ⟨xX, rfl⟩
      dsimp only [dawg_Right.b1] at hr
      refine w_seq ?_
      refine A_region ?_
      refine w_n ?_
      refine w_seq ?_
      refine A_condH hr (fun cF4 hr => ?_) (fun cF4 hr => ?_)
      · refine w_skip ?_
        refine w_n ?_
        refine w_seq ?_
        refine w_K (D := (Aft W1 D)) (fun xX : Unit => ⟨[(25, .cv (.val (.sl (List.map (eL eEdge) g.Edges)))), (26, .cv (.val (.int .i64 (g.Edges.length : Int)))), (27, .cv (.val (.int .i64 v1)))], h.on []⟩) (fun xX : Unit => dawg_Right.k2 v1) (fun xX s' hr ht => ?_) ?_
        · dsimp only [dawg_Right.k2] at hr ht
          refine (w_nT ht ?_)
          refine A_region ?_
          exact (w_k ⟨(IntKind.i64.wrap (v1 + (1 : Int))), hr, (A_cut hwf)⟩)
        · refine w_block ?_
          refine w_seq ?_
          obtain ⟨xs, nF5, eF6, gF7, hr⟩ := hr.idx
          refine A_region ?_
          refine w_n ?_
          refine w_seq ?_
          refine A_region ?_
          refine w_n ?_
          refine w_block ?_
          refine w_Loop (fun xX : Int => ⟨[(4, .cv (.val (.int .i64 v1))), (5, .cv (.val (.sl (List.map eEdge xs)))), (25, .cv (.val (.sl (List.map (eL eEdge) g.Edges)))), (26, .cv (.val (.int .i64 (g.Edges.length : Int)))), (27, .cv (.val (.int .i64 v1))), (32, .cv (.val (.sl (List.map eEdge xs)))), (33, .cv (.val (.int .i64 (xs.length : Int)))), (34, .cv (.val (.int .i64 xX)))], h.on []⟩) hr (A_cut hwf) (fun W2 xX hr => ?_)
          obtain ⟨v2, rfl⟩ : ∃ z, z = xX := ⟨xX, rfl⟩
          dsimp only [dawg_Right.b2] at hr
          refine w_seq ?_
          refine A_region ?_
          refine w_n ?_
          refine w_seq ?_
          refine A_condH hr (fun cF8 hr => ?_) (fun cF8 hr => ?_)
          · refine w_skip ?_
            refine w_n ?_
            refine w_seq ?_
            refine w_block ?_
            refine w_seq ?_
            obtain ⟨x, nF9, eF10, gF11, hr⟩ := hr.idx
            refine A_region ?_
            refine w_n ?_
            obtain ⟨v3, vF18, hr⟩ := hr.bind
            refine w_joinR (sj := ⟨[(4, .cv (.val (.int .i64 v1))), (5, .cv (.val (.sl (List.map eEdge xs)))), (25, .cv (.val (.sl (List.map (eL eEdge) g.Edges)))), (26, .cv (.val (.int .i64 (g.Edges.length : Int)))), (27, .cv (.val (.int .i64 v1))), (32, .cv (.val (.sl (List.map eEdge xs)))), (33, .cv (.val (.int .i64 (xs.length : Int)))), (34, .cv (.val (.int .i64 v2))), (62, .cv (.val (.bool v3)))], h.on []⟩) (w_drawn [0, 1, 2, 3, 4, 5, 6, 7, 8, 9, 10, 11, 12, 13, 14, 15, 16, 17, 18, 19, 20, 21, 22, 23] (by rfl) ?_) ?_
            · have hr := Holds.intro (D := fun z => z = v3) vF18 rfl
              refine p_run (l := [0, 1, 2, 3]) (pend' := [3, 2, 1, 0]) (by simp (disch := (apply Apart.mk; decide)) only [go_sem, Nat.reduceAdd, Nat.reduceLT, Nat.reduceMul, Nat.reduceLeDiff, Int.reduceToNat, Int.reduceLT, Int.reduceLE]; rfl) rfl ?_
              rcases hr.ite with ⟨cF12, hr⟩ | ⟨cF12, hr⟩
              · refine p_run (l := [4, 5, 6, 7, 8, 9, 10, 11, 12, 13, 14, 15, 16, 17, 18, 19, 20, 21, 22, 23]) (pend' := [23, 22, 21, 20, 19, 18, 17, 16, 15, 14, 13, 12, 11, 10, 9, 8, 7, 6, 5, 4, 3, 2, 1, 0]) (by simp (disch := (apply Apart.mk; decide)) only [go_sem, Nat.reduceAdd, Nat.reduceLT, Nat.reduceMul, Nat.reduceLeDiff, Int.reduceToNat, Int.reduceLT, Int.reduceLE, cF12]; rfl) rfl ?_
                refine p_end (by simp (disch := (apply Apart.mk; decide)) only [go_sem, Nat.reduceAdd, Nat.reduceLT, Nat.reduceMul, Nat.reduceLeDiff, Int.reduceToNat, Int.reduceLT, Int.reduceLE, cF12]) ?_
                obtain rfl : _ = v3 := hr
                exact w_k (A_cut hwf)
              · refine p_run (l := [4, 5, 6, 7, 8, 9]) (pend' := [9, 8, 7, 6, 5, 4, 3, 2, 1, 0]) (by simp (disch := (apply Apart.mk; decide)) only [go_sem, Nat.reduceAdd, Nat.reduceLT, Nat.reduceMul, Nat.reduceLeDiff, Int.reduceToNat, Int.reduceLT, Int.reduceLE, cF12]; rfl) rfl ?_
                rcases hr.ite with ⟨cF13, hr⟩ | ⟨cF13, hr⟩
                · refine p_run (l := [10, 11, 12, 13, 14, 15, 16, 17, 18, 19, 20, 21, 22, 23]) (pend' := [23, 22, 21, 20, 19, 18, 17, 16, 15, 14, 13, 12, 11, 10, 9, 8, 7, 6, 5, 4, 3, 2, 1, 0]) (by simp (disch := (apply Apart.mk; decide)) only [go_sem, Nat.reduceAdd, Nat.reduceLT, Nat.reduceMul, Nat.reduceLeDiff, Int.reduceToNat, Int.reduceLT, Int.reduceLE, cF12, cF13]; rfl) rfl ?_
                  refine p_end (by simp (disch := (apply Apart.mk; decide)) only [go_sem, Nat.reduceAdd, Nat.reduceLT, Nat.reduceMul, Nat.reduceLeDiff, Int.reduceToNat, Int.reduceLT, Int.reduceLE, cF12, cF13]) ?_
                  obtain rfl : _ = v3 := hr
                  exact w_k (A_cut hwf)
                · refine p_run (l := [10, 11, 12]) (pend' := [12, 11, 10, 9, 8, 7, 6, 5, 4, 3, 2, 1, 0]) (by simp (disch := (apply Apart.mk; decide)) only [go_sem, Nat.reduceAdd, Nat.reduceLT, Nat.reduceMul, Nat.reduceLeDiff, Int.reduceToNat, Int.reduceLT, Int.reduceLE, cF12, cF13]; rfl) rfl ?_
                  rcases hr.ite with ⟨cF14, hr⟩ | ⟨cF14, hr⟩
                  · obtain ⟨x1, nF15, eF16, gF17, hr⟩ := hr.idx
                    refine p_run (l := [13, 14, 15, 16, 17, 18, 19, 20, 21, 22, 23]) (pend' := [23, 22, 21, 20, 19, 18, 17, 16, 15, 14, 13, 12, 11, 10, 9, 8, 7, 6, 5, 4, 3, 2, 1, 0]) (by simp (disch := (apply Apart.mk; decide)) only [go_sem, Nat.reduceAdd, Nat.reduceLT, Nat.reduceMul, Nat.reduceLeDiff, Int.reduceToNat, Int.reduceLT, Int.reduceLE, cF12, cF13, cF14, nF15, eF16, gF17]; rfl) rfl ?_
                    refine p_end (by simp (disch := (apply Apart.mk; decide)) only [go_sem, Nat.reduceAdd, Nat.reduceLT, Nat.reduceMul, Nat.reduceLeDiff, Int.reduceToNat, Int.reduceLT, Int.reduceLE, cF12, cF13, cF14, nF15, eF16, gF17]) ?_
                    obtain rfl : _ = v3 := hr
                    exact w_k (A_cut hwf)
                  · refine p_run (l := [13, 14, 15, 16, 17, 18, 19, 20, 21, 22, 23]) (pend' := [23, 22, 21, 20, 19, 18, 17, 16, 15, 14, 13, 12, 11, 10, 9, 8, 7, 6, 5, 4, 3, 2, 1, 0]) (by simp (disch := (apply Apart.mk; decide)) only [go_sem, Nat.reduceAdd, Nat.reduceLT, Nat.reduceMul, Nat.reduceLeDiff, Int.reduceToNat, Int.reduceLT, Int.reduceLE, cF12, cF13, cF14]; rfl) rfl ?_
                    refine p_end (by simp (disch := (apply Apart.mk; decide)) only [go_sem, Nat.reduceAdd, Nat.reduceLT, Nat.reduceMul, Nat.reduceLeDiff, Int.reduceToNat, Int.reduceLT, Int.reduceLE, cF12, cF13, cF14]) ?_
                    obtain rfl : _ = v3 := hr
                    exact w_k (A_cut hwf)
            refine A_condH hr (fun cF19 hr => ?_) (fun cF19 hr => ?_)
            · refine w_seq ?_
              refine A_region ?_
              refine w_n ?_
              refine w_ret ?_
              obtain rfl := hD _ hr
              exact (w_br (w_tr (w_tr (w_br (w_br (w_tr (w_tr (w_tr (w_br (w_tr (w_tr (A_endR (A_cut (os' := []) (sl := [(2, .cv (.val (.bool false)))]) hwf) ⟨rfl, on_nil hwf⟩))))))))))))
            · refine w_skip ?_
              refine (w_bn (w_n ?_))
              refine A_region ?_
              exact (w_k ⟨(IntKind.i64.wrap (v2 + (1 : Int))), hr, (A_cut hwf)⟩)
          · refine w_exit ?_
            exact (w_te (w_te (w_bx (w_bn (w_k ⟨(), (hr).map, (A_cut hwf)⟩)))))
      · refine w_exit ?_
        exact (w_te (w_te (w_bx (w_k ⟨(), (hr).map, (A_cut hwf)⟩))))
end Go.Val

/- part GW26 -/
/- scansion/dawg.Count runs as it is read off. -/
namespace Go.Val
set_option linter.unusedVariables false
set_option linter.unusedSimpArgs false
set_option maxRecDepth 20000
open Go.Proofs
theorem dawg_Count_runs (g : TGraph) {h : Heap} {a : (List Int × Int)} (e : dawg_Count g = some a) :
    Runs CT 26 [.cv (.val (.agg [.sl (List.map eB g.Final), .sl (List.map (eL eEdge) g.Edges)]))] h fun o h' => o = [.cv (.val (.sl (List.map eI a.1))), .cv (.val (.int .i64 a.2))] ∧ h' = h := by
  refine Runs.start Try.f26 _ Try.func26 rfl (by rw [Try.ntmps26]; simp) (by rfl) (by rfl) (fun hwf hu => ?_)
  obtain ⟨D, hD, hr⟩ : ∃ D : (List Int × Int) → Prop, (∀ z, D z → z = a) ∧ Holds (dawg_Count g) D := ⟨fun z => z = a, fun _ h => h, Holds.intro e rfl⟩
  dsimp only [dawg_Count] at hr
  change wpCode _ _ _ _ _ ⟨[(0, .cv (.val (.agg [.sl (List.map eB g.Final), .sl (List.map (eL eEdge) g.Edges)])))], h.on []⟩
  refine w_seq ?_
  refine A_region ?_
  refine w_n ?_
  refine w_seq ?_
  refine w_seq ?_
  refine A_ops ?_
  refine A_upto 1 ?_
  obtain ⟨r, eF1, hr⟩ := hr.bind
  refine A_call (out := ?o_eF1) (hp := ?p_eF1) ?c_eF1 ?d_eF1 ?_
  case c_eF1 => exact dawg_Right_runs g eF1
  case d_eF1 => rfl
  refine A_ops_end ?_
  refine w_n ?_
  refine A_condH hr (fun cF2 hr => ?_) (fun cF2 hr => ?_)
  · refine w_seq ?_
    refine A_region ?_
    refine w_n ?_
    refine w_ret ?_
    obtain rfl := hD _ hr
    exact (w_tr (A_endR (A_cut (os' := []) (sl := [(2, .cv (.val (.sl (List.map eI ([] : List Int))))), (3, .cv (.val (.int .i64 (1 : Int))))]) hwf) ⟨rfl, on_nil hwf⟩))
  · refine w_skip ?_
    refine w_n ?_
    refine w_seq ?_
    obtain ⟨nF3, nF4, hr⟩ := hr.mk
    refine A_region ?_
    refine w_n ?_
    refine w_seq ?_
    refine w_seq ?_
    refine A_region ?_
    refine w_n ?_
    refine w_K (D := D) (fun xX : List Int => ⟨[(4, .cv (.row 3 (List.map eI xX)))], h.on []⟩) (fun xX : List Int => dawg_Count.k1 xX) (fun xX s' hr ht => ?_) ?_
    · obtain ⟨out, rfl⟩ : ∃ z, z = xX := ⟨xX, rfl⟩
      dsimp only [dawg_Count.k1] at hr ht
      refine (w_nT ht ?_)
      refine w_seq ?_
      refine A_region ?_
      refine w_n ?_
      refine w_ret ?_
      obtain rfl := hD _ hr
      exact (A_endR (.fix _ _ (.slot 2) 3 _ (by simp (disch := (apply Apart.mk; decide)) only [go_sem, Nat.reduceAdd, Nat.reduceLT, Nat.reduceMul, Nat.reduceLeDiff, Int.reduceToNat, Int.reduceLT, Int.reduceLE, cF2]; rfl) (A_cut (os' := []) (sl := [(2, .cv (.val (.sl (List.map eI out)))), (3, .cv (.val (.int .i64 (0 : Int))))]) hwf)) ⟨rfl, on_nil hwf⟩)
    · refine w_block ?_
      refine w_Loop (fun xX : (List Int × Int) => ⟨[(1, .cv (.val (.ptr (some (h.n + 0, 0))))), (4, .cv (.row 3 (List.map eI xX.1))), (17, .cv (.val (.sl (List.map (eL eEdge) g.Edges)))), (18, .cv (.val (.int .i64 (g.Edges.length : Int)))), (19, .cv (.val (.int .i64 xX.2)))], h.on [some (.cells [.val (.sl (List.map eB g.Final)), .val (.sl (List.map (eL eEdge) g.Edges))])]⟩) hr (A_cut hwf) (fun W1 xX hr => ?_)
      obtain ⟨out1, v⟩ := xX
      dsimp only [dawg_Count.b1] at hr
      refine w_seq ?_
      refine A_region ?_
      refine w_n ?_
      refine w_seq ?_
      refine A_condH hr (fun cF5 hr => ?_) (fun cF5 hr => ?_)
      · refine w_skip ?_
        refine w_n ?_
        refine w_seq ?_
        refine w_K (D := (Aft W1 D)) (fun xX : List Int => ⟨[(1, .cv (.val (.ptr (some (h.n + 0, 0))))), (4, .cv (.row 3 (List.map eI xX))), (17, .cv (.val (.sl (List.map (eL eEdge) g.Edges)))), (18, .cv (.val (.int .i64 (g.Edges.length : Int)))), (19, .cv (.val (.int .i64 v)))], h.on [some (.cells [.val (.sl (List.map eB g.Final)), .val (.sl (List.map (eL eEdge) g.Edges))])]⟩) (fun xX : List Int => dawg_Count.k2 v xX) (fun xX s' hr ht => ?_) ?_
        · obtain ⟨out2, rfl⟩ : ∃ z, z = xX := ⟨xX, rfl⟩
          dsimp only [dawg_Count.k2] at hr ht
          refine (w_nT ht ?_)
          refine A_region ?_
          exact (w_k ⟨(out2, (IntKind.i64.wrap (v + (1 : Int)))), hr, (A_cut hwf)⟩)
        · refine w_block ?_
          refine w_seq ?_
          obtain ⟨xs, nF6, eF7, gF8, hr⟩ := hr.idx
          refine A_region ?_
          refine w_n ?_
          refine w_seq ?_
          refine w_seq ?_
          obtain ⟨b, nF9, eF10, gF11, hr⟩ := hr.idx
          refine A_region ?_
          refine w_n ?_
          refine w_K (D := (Aft W1 D)) (fun xX : List Int => ⟨[(1, .cv (.val (.ptr (some (h.n + 0, 0))))), (4, .cv (.row 3 (List.map eI xX))), (5, .cv (.val (.int .i64 v))), (6, .cv (.val (.sl (List.map eEdge xs)))), (17, .cv (.val (.sl (List.map (eL eEdge) g.Edges)))), (18, .cv (.val (.int .i64 (g.Edges.length : Int)))), (19, .cv (.val (.int .i64 v)))], h.on [some (.cells [.val (.sl (List.map eB g.Final)), .val (.sl (List.map (eL eEdge) g.Edges))])]⟩) (fun xX : List Int => dawg_Count.k3 v xs xX) (fun xX s' hr ht => ?_) ?_
          · obtain ⟨out3, rfl⟩ : ∃ z, z = xX := ⟨xX, rfl⟩
            dsimp only [dawg_Count.k3] at hr ht
            refine (w_nT ht ?_)
            refine w_seq ?_
            refine A_region ?_
            refine w_n ?_
            refine w_block ?_
            refine w_Loop (fun xX : (List Int × Int) => ⟨[(1, .cv (.val (.ptr (some (h.n + 0, 0))))), (4, .cv (.row 3 (List.map eI xX.1))), (5, .cv (.val (.int .i64 v))), (17, .cv (.val (.sl (List.map (eL eEdge) g.Edges)))), (18, .cv (.val (.int .i64 (g.Edges.length : Int)))), (19, .cv (.val (.int .i64 v))), (32, .cv (.val (.sl (List.map eEdge xs)))), (33, .cv (.val (.int .i64 (xs.length : Int)))), (34, .cv (.val (.int .i64 xX.2)))], h.on [some (.cells [.val (.sl (List.map eB g.Final)), .val (.sl (List.map (eL eEdge) g.Edges))])]⟩) hr (A_cut hwf) (fun W2 xX hr => ?_)
            obtain ⟨out4, v1⟩ := xX
            dsimp only [dawg_Count.b2] at hr
            refine w_seq ?_
            refine A_region ?_
            refine w_n ?_
            refine w_seq ?_
            refine A_condH hr (fun cF12 hr => ?_) (fun cF12 hr => ?_)
            · refine w_skip ?_
              refine w_n ?_
              refine w_seq ?_
              refine w_block ?_
              refine w_seq ?_
              obtain ⟨x, nF13, eF14, gF15, hr⟩ := hr.idx
              refine A_region ?_
              refine w_n ?_
              refine w_drawn [0, 1, 2, 3, 4, 5, 6, 7, 8, 9, 10, 11, 12, 13, 14] (by rfl) ?_
              obtain ⟨n, nF16, eF17, gF18, hr⟩ := hr.idx
              obtain ⟨n1, nF19, eF20, gF21, hr⟩ := hr.idx
              refine p_run (l := [0, 1, 2, 3, 4, 5, 6, 7, 8, 9, 10, 11, 12, 13]) (pend' := [13, 12, 11, 10, 9, 8, 7, 6, 5, 4, 3, 2, 1, 0]) (by simp (disch := (apply Apart.mk; decide)) only [go_sem, Nat.reduceAdd, Nat.reduceLT, Nat.reduceMul, Nat.reduceLeDiff, Int.reduceToNat, Int.reduceLT, Int.reduceLE, nF16, eF17, gF18, nF19, eF20, gF21]; rfl) rfl ?_
              refine p_op (pend' := []) rfl (by simp (disch := (apply Apart.mk; decide)) only [go_sem, Nat.reduceAdd, Nat.reduceLT, Nat.reduceMul, Nat.reduceLeDiff, Int.reduceToNat, Int.reduceLT, Int.reduceLE, nF16, eF17, gF18, nF19, eF20, gF21]) (by simp (disch := (apply Apart.mk; decide)) only [go_sem, Nat.reduceAdd, Nat.reduceLT, Nat.reduceMul, Nat.reduceLeDiff, Int.reduceToNat, Int.reduceLT, Int.reduceLE, nF16, eF17, gF18, nF19, eF20, gF21]; rfl) (by rfl) ?_
              refine p_end (by simp (disch := (apply Apart.mk; decide)) only [go_sem, Nat.reduceAdd, Nat.reduceLT, Nat.reduceMul, Nat.reduceLeDiff, Int.reduceToNat, Int.reduceLT, Int.reduceLE, nF16, eF17, gF18, nF19, eF20, gF21, nF16, eF17, gF18]) ?_
              refine (w_bn (w_n ?_))
              refine A_region ?_
              exact (w_k ⟨((List.set out4 (Int.toNat v) (mn (IntKind.i64.wrap (n + n1)) (1099511627776 : Int))), (IntKind.i64.wrap (v1 + (1 : Int)))), hr, (A_cut hwf)⟩)
            · refine w_exit ?_
              exact (w_te (w_te (w_bx (w_bn (w_k ⟨out4, (hr).map, (A_cut hwf)⟩)))))
          · refine A_condH hr (fun cF22 hr => ?_) (fun cF22 hr => ?_)
            · obtain ⟨n2, nF23, eF24, gF25, hr⟩ := hr.idx
              refine A_region ?_
              exact (w_k ⟨(List.set out1 (Int.toNat v) (1 : Int)), hr, (A_cut hwf)⟩)
            · refine w_skip ?_
              exact (w_k ⟨out1, hr, (A_cut hwf)⟩)
      · refine w_exit ?_
        exact (w_te (w_te (w_bx (w_k ⟨out1, (hr).map, (A_cut hwf)⟩))))
end Go.Val

/- part GW76 -/
/- slices.IndexFunc[[]scansion/api.Edge,scansion/api.Edge] runs as it is read off. -/
namespace Go.Val
set_option linter.unusedVariables false
set_option linter.unusedSimpArgs false
set_option maxRecDepth 20000
open Go.Proofs
theorem slices_IndexFunc_api_Edge_api_Edge_runs (s : List TEdge) (f : TEdge → Option Bool) (fid_f : FuncId) (caps_f : List DVal) {h : Heap} (h_f : ∀ os x0 r, f x0 = some r → Runs CT fid_f ([.cv (.val (.agg [.int .u8 (x0.Label.toNat : Int), .int .i64 x0.To]))] ++ sval caps_f) (h.on os) fun o h' => o = [.cv (.val (.bool r))] ∧ h' = h.on os) {a : Int} (e : slices_IndexFunc_api_Edge_api_Edge s f = some a) :
    Runs CT 76 [.cv (.val (.sl (List.map eEdge s))), .cv (.val (.fn fid_f [] caps_f))] h fun o h' => o = [.cv (.val (.int .i64 a))] ∧ h' = h := by
  refine Runs.start Try.f76 _ Try.func76 rfl (by rw [Try.ntmps76]; simp) (by rfl) (by rfl) (fun hwf hu => ?_)
  have u_f : underL h.n caps_f := (hu (.cv (.val (.fn fid_f [] caps_f))) (by simp)).2
  have vu_f := fun k => under_add (k := k) u_f
  obtain ⟨D, hD, hr⟩ : ∃ D : Int → Prop, (∀ z, D z → z = a) ∧ Holds (slices_IndexFunc_api_Edge_api_Edge s f) D := ⟨fun z => z = a, fun _ h => h, Holds.intro e rfl⟩
  dsimp only [slices_IndexFunc_api_Edge_api_Edge] at hr
  change wpCode _ _ _ _ _ ⟨[(0, .cv (.val (.sl (List.map eEdge s)))), (1, .cv (.val (.fn fid_f [] caps_f)))], h.on []⟩
  refine w_seq ?_
  refine A_region ?_
  refine w_n ?_
  refine w_seq ?_
  refine w_seq ?_
  refine A_region ?_
  refine w_n ?_
  refine w_K (D := D) (fun xX : Unit => ⟨[], h.on []⟩) (fun xX : Unit => slices_IndexFunc_api_Edge_api_Edge.k1) (fun xX s' hr ht => ?_) ?_
  · dsimp only [slices_IndexFunc_api_Edge_api_Edge.k1] at hr ht
    refine (w_nT ht ?_)
    refine w_seq ?_
    refine A_region ?_
    refine w_n ?_
    refine w_ret ?_
    obtain rfl := hD _ hr
    exact (A_endR (A_cut (os' := []) (sl := [(4, .cv (.val (.int .i64 (-1 : Int))))]) hwf) ⟨rfl, on_nil hwf⟩)
  · refine w_block ?_
    refine w_Loop (fun xX : Int => ⟨[(0, .cv (.val (.sl (List.map eEdge s)))), (1, .cv (.val (.fn fid_f [] caps_f))), (7, .cv (.val (.int .i64 (s.length : Int)))), (8, .cv (.val (.int .i64 xX)))], h.on []⟩) hr (A_cut hwf) (fun W1 xX hr => ?_)
    obtain ⟨v, rfl⟩ : ∃ z, z = xX := ⟨xX, rfl⟩
    dsimp only [slices_IndexFunc_api_Edge_api_Edge.b1] at hr
    refine w_seq ?_
    refine A_region ?_
    refine w_n ?_
    refine w_seq ?_
    refine A_condH hr (fun cF1 hr => ?_) (fun cF1 hr => ?_)
    · refine w_skip ?_
      refine w_n ?_
      refine w_seq ?_
      refine w_block ?_
      refine w_seq ?_
      refine A_region ?_
      refine w_n ?_
      refine w_seq ?_
      refine A_ops ?_
      obtain ⟨x, nF2, eF3, gF4, hr⟩ := hr.idx
      refine A_upto 5 ?_
      obtain ⟨r, eF5, hr⟩ := hr.bind
      refine A_call (out := ?o_eF5) (hp := ?p_eF5) ?c_eF5 ?d_eF5 ?_
      case c_eF5 => exact h_f _ _ _ eF5
      case d_eF5 => rfl
      refine w_ops_nil ?_
      refine w_n ?_
      refine A_condH hr (fun cF6 hr => ?_) (fun cF6 hr => ?_)
      · refine w_seq ?_
        refine A_region ?_
        refine w_n ?_
        refine w_ret ?_
        obtain rfl := hD _ hr
        exact (w_br (w_tr (w_tr (w_br (w_tr (w_tr (A_endR (A_cut (os' := []) (sl := [(4, .cv (.val (.int .i64 v)))]) hwf) ⟨rfl, on_nil hwf⟩)))))))
      · refine w_skip ?_
        refine (w_bn (w_n ?_))
        refine A_region ?_
        exact (w_k ⟨(IntKind.i64.wrap (v + (1 : Int))), hr, (A_cut hwf)⟩)
    · refine w_exit ?_
      exact (w_te (w_te (w_bx (w_k ⟨(), (hr).map, (A_cut hwf)⟩))))
end Go.Val

/- part GW77 -/
/- scansion/dawg.walk$1 runs as it is read off. -/
namespace Go.Val
set_option linter.unusedVariables false
set_option linter.unusedSimpArgs false
set_option maxRecDepth 20000
open Go.Proofs
theorem dawg_walk_1_runs (x : TEdge) (p1 : Str) (p2 : Int) (l1 : Nat) (l2 : Nat) {h : Heap} (ha1 : h.at_ l1 = some (.cells [.val (.str (bs p1))])) (ha2 : h.at_ l2 = some (.cells [.val (.int .i64 p2)])) (hn1_2 : l1 ≠ l2) {a : Bool} (e : dawg_walk_1 x p1 p2 = some a) :
    Runs CT 77 [.cv (.val (.agg [.int .u8 (x.Label.toNat : Int), .int .i64 x.To])), .cv (.val (.ptr (some (l1, 0)))), .cv (.val (.ptr (some (l2, 0))))] h fun o h' => o = [.cv (.val (.bool a))] ∧ h' = h := by
  refine Runs.start Try.f77 _ Try.func77 rfl (by rw [Try.ntmps77]; simp) (by rfl) (by rfl) (fun hwf hu => ?_)
  have hl1 := (hwf _ _ ha1).1
  have kl1 := locF hl1
  have hl2 := (hwf _ _ ha2).1
  have kl2 := locF hl2
  obtain ⟨D, hD, hr⟩ : ∃ D : Bool → Prop, (∀ z, D z → z = a) ∧ Holds (dawg_walk_1 x p1 p2) D := ⟨fun z => z = a, fun _ h => h, Holds.intro e rfl⟩
  dsimp only [dawg_walk_1] at hr
  change wpCode _ _ _ _ _ ⟨[(0, .cv (.val (.agg [.int .u8 (x.Label.toNat : Int), .int .i64 x.To]))), (1, .cv (.val (.ptr (some (l1, 0))))), (2, .cv (.val (.ptr (some (l2, 0)))))], h.on []⟩
  refine w_seq ?_
  refine A_region ?_
  refine w_n ?_
  refine w_seq ?_
  refine w_drawn [0, 1, 2, 3, 4, 5, 6] (by rfl) ?_
  obtain ⟨c, nF1, eF2, gF3, hr⟩ := hr.idx
  refine p_run (l := [0, 1, 2, 3, 4, 5]) (pend' := [5, 4, 3, 2, 1, 0]) (by simp (disch := (apply Apart.mk; decide)) only [go_sem, Nat.reduceAdd, Nat.reduceLT, Nat.reduceMul, Nat.reduceLeDiff, Int.reduceToNat, Int.reduceLT, Int.reduceLE, ha1, on_atB hl1, lt_add hl1, lt_at hl1, ha2, on_atB hl2, lt_add hl2, lt_at hl2, nF1, eF2, gF3]; rfl) rfl ?_
  refine p_op (pend' := []) rfl (by simp (disch := (apply Apart.mk; decide)) only [go_sem, Nat.reduceAdd, Nat.reduceLT, Nat.reduceMul, Nat.reduceLeDiff, Int.reduceToNat, Int.reduceLT, Int.reduceLE, ha1, on_atB hl1, lt_add hl1, lt_at hl1, ha2, on_atB hl2, lt_add hl2, lt_at hl2, nF1, eF2, gF3]) (by simp (disch := (apply Apart.mk; decide)) only [go_sem, Nat.reduceAdd, Nat.reduceLT, Nat.reduceMul, Nat.reduceLeDiff, Int.reduceToNat, Int.reduceLT, Int.reduceLE, ha1, on_atB hl1, lt_add hl1, lt_at hl1, ha2, on_atB hl2, lt_add hl2, lt_at hl2, nF1, eF2, gF3]; rfl) (by rfl) ?_
  refine p_end (by simp (disch := (apply Apart.mk; decide)) only [go_sem, Nat.reduceAdd, Nat.reduceLT, Nat.reduceMul, Nat.reduceLeDiff, Int.reduceToNat, Int.reduceLT, Int.reduceLE, ha1, on_atB hl1, lt_add hl1, lt_at hl1, ha2, on_atB hl2, lt_add hl2, lt_at hl2, nF1, eF2, gF3]) ?_
  refine w_n ?_
  refine w_ret ?_
  obtain rfl := hD _ hr
  exact (A_endR (A_cut (os' := []) (sl := [(4, .cv (.val (.bool ((x.Label.toNat : Int) == (c.toNat : Int)))))]) hwf) ⟨rfl, on_nil hwf⟩)
end Go.Val

/- part GW52 -/
/- scansion/dawg.walk runs as it is read off. -/
namespace Go.Val
set_option linter.unusedVariables false
set_option linter.unusedSimpArgs false
set_option maxRecDepth 20000
open Go.Proofs
theorem dawg_walk_runs (g : TGraph) (word : Str) {h : Heap} {a : (List Int × Bool)} (e : dawg_walk g word = some a) :
    Runs CT 52 [.cv (.val (.agg [.sl (List.map eB g.Final), .sl (List.map (eL eEdge) g.Edges)])), .cv (.val (.str (bs word)))] h fun o h' => o = [.cv (.val (.sl (List.map eI a.1))), .cv (.val (.bool a.2))] ∧ h' = h := by
  refine Runs.start Try.f52 _ Try.func52 rfl (by rw [Try.ntmps52]; simp) (by rfl) (by rfl) (fun hwf hu => ?_)
  obtain ⟨D, hD, hr⟩ : ∃ D : (List Int × Bool) → Prop, (∀ z, D z → z = a) ∧ Holds (dawg_walk g word) D := ⟨fun z => z = a, fun _ h => h, Holds.intro e rfl⟩
  dsimp only [dawg_walk] at hr
  change wpCode _ _ _ _ _ ⟨[(0, .cv (.val (.agg [.sl (List.map eB g.Final), .sl (List.map (eL eEdge) g.Edges)]))), (1, .cv (.val (.str (bs word))))], h.on []⟩
  refine w_seq ?_
  refine A_region ?_
  refine w_n ?_
  refine w_seq ?_
  refine A_region ?_
  refine w_n ?_
  refine w_seq ?_
  refine w_seq ?_
  refine A_region ?_
  refine w_n ?_
  refine w_K (D := D) (fun xX : List Int => ⟨[(6, .cv (.row 3 (List.map eI xX)))], h.on []⟩) (fun xX : List Int => dawg_walk.k1 xX) (fun xX s' hr ht => ?_) ?_
  · obtain ⟨at_, rfl⟩ : ∃ z, z = xX := ⟨xX, rfl⟩
    dsimp only [dawg_walk.k1] at hr ht
    refine (w_nT ht ?_)
    refine w_seq ?_
    refine A_region ?_
    refine w_n ?_
    refine w_ret ?_
    obtain rfl := hD _ hr
    exact (A_endR (.fix _ _ (.slot 4) 3 _ (by simp (disch := (apply Apart.mk; decide)) only [go_sem, Nat.reduceAdd, Nat.reduceLT, Nat.reduceMul, Nat.reduceLeDiff, Int.reduceToNat, Int.reduceLT, Int.reduceLE]; rfl) (A_cut (os' := []) (sl := [(4, .cv (.val (.sl (List.map eI at_)))), (5, .cv (.val (.bool true)))]) hwf)) ⟨rfl, on_nil hwf⟩)
  · refine w_block ?_
    refine w_Loop (fun xX : (List Int × Int) => ⟨[(2, .cv (.val (.ptr (some (h.n + 0, 0))))), (3, .cv (.val (.ptr (some (h.n + 1, 0))))), (6, .cv (.row 3 (List.map eI xX.1))), (16, .cv (.val (.int .i64 (word.length : Int)))), (17, .cv (.val (.int .i64 xX.2)))], h.on [some (.cells [.val (.sl (List.map eB g.Final)), .val (.sl (List.map (eL eEdge) g.Edges))]), some (.cells [.val (.str (bs word))])]⟩) hr (A_cut hwf) (fun W1 xX hr => ?_)
    obtain ⟨at_1, v⟩ := xX
    dsimp only [dawg_walk.b1] at hr
    refine w_seq ?_
    refine A_region ?_
    refine w_n ?_
    refine w_seq ?_
    refine A_condH hr (fun cF1 hr => ?_) (fun cF1 hr => ?_)
    · refine w_skip ?_
      refine w_n ?_
      refine w_seq ?_
      refine w_block ?_
      refine w_seq ?_
      refine A_region ?_
      refine w_n ?_
      refine w_seq ?_
      refine w_drawn [0, 1, 2, 3, 4, 5, 6, 7, 8] (by rfl) ?_
      obtain ⟨n, nF2, eF3, gF4, hr⟩ := hr.idx
      obtain ⟨xs, nF5, eF6, gF7, hr⟩ := hr.idx
      refine p_run (l := [0, 1, 2, 3, 4, 5, 6, 7]) (pend' := [7, 6, 5, 4, 3, 2, 1, 0]) (by simp (disch := (apply Apart.mk; decide)) only [go_sem, Nat.reduceAdd, Nat.reduceLT, Nat.reduceMul, Nat.reduceLeDiff, Int.reduceToNat, Int.reduceLT, Int.reduceLE, nF2, eF3, gF4, nF5, eF6, gF7]; rfl) rfl ?_
      refine p_op (pend' := []) rfl (by simp (disch := (apply Apart.mk; decide)) only [go_sem, Nat.reduceAdd, Nat.reduceLT, Nat.reduceMul, Nat.reduceLeDiff, Int.reduceToNat, Int.reduceLT, Int.reduceLE, nF2, eF3, gF4, nF5, eF6, gF7]) (by simp (disch := (apply Apart.mk; decide)) only [go_sem, Nat.reduceAdd, Nat.reduceLT, Nat.reduceMul, Nat.reduceLeDiff, Int.reduceToNat, Int.reduceLT, Int.reduceLE, nF2, eF3, gF4, nF5, eF6, gF7]; rfl) (by rfl) ?_
      refine p_end (by simp (disch := (apply Apart.mk; decide)) only [go_sem, Nat.reduceAdd, Nat.reduceLT, Nat.reduceMul, Nat.reduceLeDiff, Int.reduceToNat, Int.reduceLT, Int.reduceLE, nF2, eF3, gF4, nF5, eF6, gF7]) ?_
      refine w_n ?_
      refine w_seq ?_
      refine A_ops ?_
      refine A_upto 2 ?_
      obtain ⟨r, eF8, hr⟩ := hr.bind
      refine A_call (out := ?o_eF8) (hp := ?p_eF8) ?c_eF8 ?d_eF8 ?_
      case c_eF8 => (refine slices_IndexFunc_api_Edge_api_Edge_runs xs (fun x0 => dawg_walk_1 x0 word v) _ _ ?_ eF8; (exact (fun os x0 r e => dawg_walk_1_runs x0 word v (h.n + 1) (h.n + 2) (by simp (disch := (apply Apart.mk; decide)) only [go_sem, Nat.reduceAdd, Nat.reduceLT, Nat.reduceMul, Nat.reduceLeDiff, Int.reduceToNat, Int.reduceLT, Int.reduceLE]) (by simp (disch := (apply Apart.mk; decide)) only [go_sem, Nat.reduceAdd, Nat.reduceLT, Nat.reduceMul, Nat.reduceLeDiff, Int.reduceToNat, Int.reduceLT, Int.reduceLE]) (by first | omega | assumption | exact Ne.symm (by assumption)) e)))
      case d_eF8 => rfl
      refine A_ops_end ?_
      refine w_n ?_
      refine w_seq ?_
      refine w_seq ?_
      refine A_region ?_
      refine w_n ?_
      refine A_condH hr (fun cF9 hr => ?_) (fun cF9 hr => ?_)
      · refine w_seq ?_
        refine A_region ?_
        refine w_n ?_
        refine w_ret ?_
        obtain rfl := hD _ hr
        exact (w_tr (w_br (w_tr (w_tr (w_br (w_tr (w_tr (A_endR (A_cut (os' := []) (sl := [(4, .cv (.val (.sl (List.map eI ([] : List Int))))), (5, .cv (.val (.bool false)))]) hwf) ⟨rfl, on_nil hwf⟩))))))))
      · refine w_skip ?_
        refine w_n ?_
        obtain ⟨x, nF10, eF11, gF12, hr⟩ := hr.idx
        obtain ⟨nF13, hr⟩ := hr.room
        refine A_region ?_
        refine (w_bn (w_n ?_))
        refine A_region ?_
        exact (w_k ⟨((at_1 ++ ([x.To])), (IntKind.i64.wrap (v + (1 : Int)))), hr, (A_cut hwf)⟩)
    · refine w_exit ?_
      exact (w_te (w_te (w_bx (w_k ⟨at_1, (hr).map, (A_cut hwf)⟩))))
end Go.Val

/- part GW36 -/
/- scansion/dawg.Number runs as it is read off. -/
namespace Go.Val
set_option linter.unusedVariables false
set_option linter.unusedSimpArgs false
set_option maxRecDepth 20000
open Go.Proofs
theorem dawg_Number_runs (g : TGraph) (word : Str) {h : Heap} {a : (Int × Int)} (e : dawg_Number g word = some a) :
    Runs CT 36 [.cv (.val (.agg [.sl (List.map eB g.Final), .sl (List.map (eL eEdge) g.Edges)])), .cv (.val (.str (bs word)))] h fun o h' => o = [.cv (.val (.int .i64 a.1)), .cv (.val (.int .i64 a.2))] ∧ h' = h := by
  refine Runs.start Try.f36 _ Try.func36 rfl (by rw [Try.ntmps36]; simp) (by rfl) (by rfl) (fun hwf hu => ?_)
  obtain ⟨D, hD, hr⟩ : ∃ D : (Int × Int) → Prop, (∀ z, D z → z = a) ∧ Holds (dawg_Number g word) D := ⟨fun z => z = a, fun _ h => h, Holds.intro e rfl⟩
  dsimp only [dawg_Number] at hr
  change wpCode _ _ _ _ _ ⟨[(0, .cv (.val (.agg [.sl (List.map eB g.Final), .sl (List.map (eL eEdge) g.Edges)]))), (1, .cv (.val (.str (bs word))))], h.on []⟩
  refine w_seq ?_
  refine A_region ?_
  refine w_n ?_
  refine w_seq ?_
  refine A_ops ?_
  refine A_upto 1 ?_
  obtain ⟨r, eF1, hr⟩ := hr.bind
  refine A_call (out := ?o_eF1) (hp := ?p_eF1) ?c_eF1 ?d_eF1 ?_
  case c_eF1 => exact dawg_Count_runs g eF1
  case d_eF1 => rfl
  refine A_ops_end ?_
  refine w_n ?_
  refine w_seq ?_
  refine w_seq ?_
  refine A_region ?_
  refine w_n ?_
  refine A_condH hr (fun cF2 hr => ?_) (fun cF2 hr => ?_)
  · refine w_seq ?_
    refine A_region ?_
    refine w_n ?_
    refine w_ret ?_
    obtain rfl := hD _ hr
    exact (w_tr (A_endR (A_cut (os' := []) (sl := [(4, .cv (.val (.int .i64 (0 : Int)))), (5, .cv (.val (.int .i64 r.2)))]) hwf) ⟨rfl, on_nil hwf⟩))
  · refine w_skip ?_
    refine w_n ?_
    refine w_seq ?_
    refine A_ops ?_
    refine A_upto 2 ?_
    obtain ⟨r1, eF3, hr⟩ := hr.bind
    refine A_call (out := ?o_eF3) (hp := ?p_eF3) ?c_eF3 ?d_eF3 ?_
    case c_eF3 => exact dawg_walk_runs g word eF3
    case d_eF3 => rfl
    refine A_ops_end ?_
    refine w_n ?_
    refine w_seq ?_
    obtain ⟨v, vF11, hr⟩ := hr.bind
    refine w_joinR (sj := ⟨[(1, .cv (.val (.str (bs word)))), (2, .cv (.val (.ptr (some (h.n + 0, 0))))), (6, .cv (.val (.sl (List.map eI r.1)))), (8, .cv (.val (.sl (List.map eI r1.1)))), (41, .cv (.val (.bool v)))], h.on [some (.cells [.val (.sl (List.map eB g.Final)), .val (.sl (List.map (eL eEdge) g.Edges))])]⟩) (w_drawn [0, 1, 2, 3, 4, 5, 6, 7, 8, 9, 10, 11, 12, 13] (by rfl) ?_) ?_
    · have hr := Holds.intro (D := fun z => z = v) vF11 rfl
      refine p_run (l := [0, 1, 2]) (pend' := [2, 1, 0]) (by simp (disch := (apply Apart.mk; decide)) only [go_sem, Nat.reduceAdd, Nat.reduceLT, Nat.reduceMul, Nat.reduceLeDiff, Int.reduceToNat, Int.reduceLT, Int.reduceLE]; rfl) rfl ?_
      rcases hr.ite with ⟨cF4, hr⟩ | ⟨cF4, hr⟩
      · refine p_run (l := [3, 4, 5, 6, 7, 8, 9, 10, 11, 12, 13]) (pend' := [13, 12, 11, 10, 9, 8, 7, 6, 5, 4, 3, 2, 1, 0]) (by simp (disch := (apply Apart.mk; decide)) only [go_sem, Nat.reduceAdd, Nat.reduceLT, Nat.reduceMul, Nat.reduceLeDiff, Int.reduceToNat, Int.reduceLT, Int.reduceLE, cF4]; rfl) rfl ?_
        refine p_end (by simp (disch := (apply Apart.mk; decide)) only [go_sem, Nat.reduceAdd, Nat.reduceLT, Nat.reduceMul, Nat.reduceLeDiff, Int.reduceToNat, Int.reduceLT, Int.reduceLE, cF4]) ?_
        obtain rfl : _ = v := hr
        exact w_k (A_cut hwf)
      · obtain ⟨n, nF5, eF6, gF7, hr⟩ := hr.idx
        obtain ⟨b, nF8, eF9, gF10, hr⟩ := hr.idx
        refine p_run (l := [3, 4, 5, 6, 7, 8, 9, 10, 11, 12, 13]) (pend' := [13, 12, 11, 10, 9, 8, 7, 6, 5, 4, 3, 2, 1, 0]) (by simp (disch := (apply Apart.mk; decide)) only [go_sem, Nat.reduceAdd, Nat.reduceLT, Nat.reduceMul, Nat.reduceLeDiff, Int.reduceToNat, Int.reduceLT, Int.reduceLE, cF4, nF5, eF6, gF7, nF8, eF9, gF10]; rfl) rfl ?_
        refine p_end (by simp (disch := (apply Apart.mk; decide)) only [go_sem, Nat.reduceAdd, Nat.reduceLT, Nat.reduceMul, Nat.reduceLeDiff, Int.reduceToNat, Int.reduceLT, Int.reduceLE, cF4, nF5, eF6, gF7, nF8, eF9, gF10]) ?_
        obtain rfl : _ = v := hr
        exact w_k (A_cut hwf)
    refine A_condH hr (fun cF12 hr => ?_) (fun cF12 hr => ?_)
    · refine w_seq ?_
      refine A_region ?_
      refine w_n ?_
      refine w_ret ?_
      obtain rfl := hD _ hr
      exact (w_tr (A_endR (A_cut (os' := []) (sl := [(4, .cv (.val (.int .i64 (0 : Int)))), (5, .cv (.val (.int .i64 (4 : Int))))]) hwf) ⟨rfl, on_nil hwf⟩))
    · refine w_skip ?_
      refine w_n ?_
      refine w_seq ?_
      refine A_region ?_
      refine w_n ?_
      refine w_seq ?_
      refine w_seq ?_
      refine A_region ?_
      refine w_n ?_
      refine w_K (D := D) (fun xX : Int => ⟨[(10, .cv (.val (.int .i64 xX)))], h.on []⟩) (fun xX : Int => dawg_Number.k1 xX) (fun xX s' hr ht => ?_) ?_
      · obtain ⟨n1, rfl⟩ : ∃ z, z = xX := ⟨xX, rfl⟩
        dsimp only [dawg_Number.k1] at hr ht
        refine (w_nT ht ?_)
        refine w_seq ?_
        refine A_region ?_
        refine w_n ?_
        refine w_ret ?_
        obtain rfl := hD _ hr
        exact (A_endR (A_cut (os' := []) (sl := [(4, .cv (.val (.int .i64 (mn n1 (1099511627776 : Int))))), (5, .cv (.val (.int .i64 (0 : Int))))]) hwf) ⟨rfl, on_nil hwf⟩)
      · refine w_block ?_
        refine w_Loop (fun xX : (Int × Int) => ⟨[(1, .cv (.val (.str (bs word)))), (2, .cv (.val (.ptr (some (h.n + 0, 0))))), (6, .cv (.val (.sl (List.map eI r.1)))), (8, .cv (.val (.sl (List.map eI r1.1)))), (10, .cv (.val (.int .i64 xX.1))), (43, .cv (.val (.int .i64 (word.length : Int)))), (44, .cv (.val (.int .i64 xX.2)))], h.on [some (.cells [.val (.sl (List.map eB g.Final)), .val (.sl (List.map (eL eEdge) g.Edges))])]⟩) hr (A_cut hwf) (fun W1 xX hr => ?_)
        obtain ⟨n2, v1⟩ := xX
        dsimp only [dawg_Number.b1] at hr
        refine w_seq ?_
        refine A_region ?_
        refine w_n ?_
        refine w_seq ?_
        refine A_condH hr (fun cF13 hr => ?_) (fun cF13 hr => ?_)
        · refine w_skip ?_
          refine w_n ?_
          refine w_seq ?_
          refine w_K (D := (Aft W1 D)) (fun xX : Int => ⟨[(1, .cv (.val (.str (bs word)))), (2, .cv (.val (.ptr (some (h.n + 0, 0))))), (6, .cv (.val (.sl (List.map eI r.1)))), (8, .cv (.val (.sl (List.map eI r1.1)))), (10, .cv (.val (.int .i64 xX))), (43, .cv (.val (.int .i64 (word.length : Int)))), (44, .cv (.val (.int .i64 v1)))], h.on [some (.cells [.val (.sl (List.map eB g.Final)), .val (.sl (List.map (eL eEdge) g.Edges))])]⟩) (fun xX : Int => dawg_Number.k2 v1 xX) (fun xX s' hr ht => ?_) ?_
          · obtain ⟨n3, rfl⟩ : ∃ z, z = xX := ⟨xX, rfl⟩
            dsimp only [dawg_Number.k2] at hr ht
            refine (w_nT ht ?_)
            refine A_region ?_
            exact (w_k ⟨(n3, (IntKind.i64.wrap (v1 + (1 : Int)))), hr, (A_cut hwf)⟩)
          · refine w_block ?_
            refine w_seq ?_
            refine A_region ?_
            refine w_n ?_
            refine w_seq ?_
            refine w_seq ?_
            refine w_drawn [0, 1, 2, 3, 4, 5, 6, 7] (by rfl) ?_
            obtain ⟨n4, nF14, eF15, gF16, hr⟩ := hr.idx
            obtain ⟨b1, nF17, eF18, gF19, hr⟩ := hr.idx
            refine p_run (l := [0, 1, 2, 3, 4, 5, 6, 7]) (pend' := [7, 6, 5, 4, 3, 2, 1, 0]) (by simp (disch := (apply Apart.mk; decide)) only [go_sem, Nat.reduceAdd, Nat.reduceLT, Nat.reduceMul, Nat.reduceLeDiff, Int.reduceToNat, Int.reduceLT, Int.reduceLE, nF14, eF15, gF16, nF17, eF18, gF19]; rfl) rfl ?_
            refine p_end (by simp (disch := (apply Apart.mk; decide)) only [go_sem, Nat.reduceAdd, Nat.reduceLT, Nat.reduceMul, Nat.reduceLeDiff, Int.reduceToNat, Int.reduceLT, Int.reduceLE, nF14, eF15, gF16, nF17, eF18, gF19]) ?_
            refine w_n ?_
            refine w_K (D := (Aft W1 D)) (fun xX : Int => ⟨[(1, .cv (.val (.str (bs word)))), (2, .cv (.val (.ptr (some (h.n + 0, 0))))), (6, .cv (.val (.sl (List.map eI r.1)))), (8, .cv (.val (.sl (List.map eI r1.1)))), (10, .cv (.val (.int .i64 xX))), (11, .cv (.val (.int .i64 v1))), (43, .cv (.val (.int .i64 (word.length : Int)))), (44, .cv (.val (.int .i64 v1)))], h.on [some (.cells [.val (.sl (List.map eB g.Final)), .val (.sl (List.map (eL eEdge) g.Edges))])]⟩) (fun xX : Int => dawg_Number.k3 g word r v1 n4 xX) (fun xX s' hr ht => ?_) ?_
            · obtain ⟨n5, rfl⟩ : ∃ z, z = xX := ⟨xX, rfl⟩
              dsimp only [dawg_Number.k3] at hr ht
              refine (w_nT ht ?_)
              refine w_seq ?_
              refine w_drawn [0, 1, 2, 3, 4, 5, 6, 7, 8, 9] (by rfl) ?_
              obtain ⟨xs, nF20, eF21, gF22, hr⟩ := hr.idx
              refine p_run (l := [0, 1, 2, 3, 4, 5, 6, 7, 8, 9]) (pend' := [9, 8, 7, 6, 5, 4, 3, 2, 1, 0]) (by simp (disch := (apply Apart.mk; decide)) only [go_sem, Nat.reduceAdd, Nat.reduceLT, Nat.reduceMul, Nat.reduceLeDiff, Int.reduceToNat, Int.reduceLT, Int.reduceLE, nF14, eF15, gF16, nF20, eF21, gF22]; rfl) rfl ?_
              refine p_end (by simp (disch := (apply Apart.mk; decide)) only [go_sem, Nat.reduceAdd, Nat.reduceLT, Nat.reduceMul, Nat.reduceLeDiff, Int.reduceToNat, Int.reduceLT, Int.reduceLE, nF14, eF15, gF16, nF20, eF21, gF22]) ?_
              refine w_n ?_
              refine w_block ?_
              refine w_Loop (fun xX : (Int × Int) => ⟨[(1, .cv (.val (.str (bs word)))), (2, .cv (.val (.ptr (some (h.n + 0, 0))))), (6, .cv (.val (.sl (List.map eI r.1)))), (8, .cv (.val (.sl (List.map eI r1.1)))), (10, .cv (.val (.int .i64 xX.1))), (11, .cv (.val (.int .i64 v1))), (43, .cv (.val (.int .i64 (word.length : Int)))), (44, .cv (.val (.int .i64 v1))), (64, .cv (.val (.sl (List.map eEdge xs)))), (65, .cv (.val (.int .i64 (xs.length : Int)))), (66, .cv (.val (.int .i64 xX.2)))], h.on [some (.cells [.val (.sl (List.map eB g.Final)), .val (.sl (List.map (eL eEdge) g.Edges))])]⟩) hr (A_cut hwf) (fun W2 xX hr => ?_)
              obtain ⟨n6, v2⟩ := xX
              dsimp only [dawg_Number.b2] at hr
              refine w_seq ?_
              refine A_region ?_
              refine w_n ?_
              refine w_seq ?_
              refine A_condH hr (fun cF23 hr => ?_) (fun cF23 hr => ?_)
              · refine w_skip ?_
                refine w_n ?_
                refine w_seq ?_
                refine w_K (D := (Aft W2 (Aft W1 D))) (fun xX : Int => ⟨[(1, .cv (.val (.str (bs word)))), (2, .cv (.val (.ptr (some (h.n + 0, 0))))), (6, .cv (.val (.sl (List.map eI r.1)))), (8, .cv (.val (.sl (List.map eI r1.1)))), (10, .cv (.val (.int .i64 xX))), (11, .cv (.val (.int .i64 v1))), (43, .cv (.val (.int .i64 (word.length : Int)))), (44, .cv (.val (.int .i64 v1))), (64, .cv (.val (.sl (List.map eEdge xs)))), (65, .cv (.val (.int .i64 (xs.length : Int)))), (66, .cv (.val (.int .i64 v2)))], h.on [some (.cells [.val (.sl (List.map eB g.Final)), .val (.sl (List.map (eL eEdge) g.Edges))])]⟩) (fun xX : Int => dawg_Number.k4 v2 xX) (fun xX s' hr ht => ?_) ?_
                · obtain ⟨n7, rfl⟩ : ∃ z, z = xX := ⟨xX, rfl⟩
                  dsimp only [dawg_Number.k4] at hr ht
                  refine (w_nT ht ?_)
                  refine A_region ?_
                  exact (w_k ⟨(n7, (IntKind.i64.wrap (v2 + (1 : Int)))), hr, (A_cut hwf)⟩)
                · refine w_block ?_
                  refine w_seq ?_
                  obtain ⟨x, nF24, eF25, gF26, hr⟩ := hr.idx
                  refine A_region ?_
                  refine w_n ?_
                  refine w_seq ?_
                  refine w_drawn [0, 1, 2, 3, 4, 5] (by rfl) ?_
                  obtain ⟨c, nF27, eF28, gF29, hr⟩ := hr.idx
                  refine p_run (l := [0, 1, 2, 3, 4, 5]) (pend' := [5, 4, 3, 2, 1, 0]) (by simp (disch := (apply Apart.mk; decide)) only [go_sem, Nat.reduceAdd, Nat.reduceLT, Nat.reduceMul, Nat.reduceLeDiff, Int.reduceToNat, Int.reduceLT, Int.reduceLE, nF27, eF28, gF29]; rfl) rfl ?_
                  refine p_end (by simp (disch := (apply Apart.mk; decide)) only [go_sem, Nat.reduceAdd, Nat.reduceLT, Nat.reduceMul, Nat.reduceLeDiff, Int.reduceToNat, Int.reduceLT, Int.reduceLE, nF27, eF28, gF29]) ?_
                  refine w_n ?_
                  refine A_condH hr (fun cF30 hr => ?_) (fun cF30 hr => ?_)
                  · obtain ⟨n8, nF31, eF32, gF33, hr⟩ := hr.idx
                    refine A_region ?_
                    exact (w_bn (w_k ⟨(IntKind.i64.wrap (n6 + n8)), hr, (A_cut hwf)⟩))
                  · refine w_skip ?_
                    exact (w_bn (w_k ⟨n6, hr, (A_cut hwf)⟩))
              · refine w_exit ?_
                exact (w_te (w_te (w_bx (w_bn (w_k ⟨n6, (hr).map, (A_cut hwf)⟩)))))
            · refine A_condH hr (fun cF34 hr => ?_) (fun cF34 hr => ?_)
              · refine A_region ?_
                exact (w_k ⟨(IntKind.i64.wrap (n2 + (1 : Int))), hr, (A_cut hwf)⟩)
              · refine w_skip ?_
                exact (w_k ⟨n2, hr, (A_cut hwf)⟩)
        · refine w_exit ?_
          exact (w_te (w_te (w_bx (w_k ⟨n2, (hr).map, (A_cut hwf)⟩))))
end Go.Val

/- part GW32 -/
/- (*scansion/darray.Array).Number runs as it is read off. -/
namespace Go.Val
set_option linter.unusedVariables false
set_option linter.unusedSimpArgs false
set_option maxRecDepth 20000
open Go.Proofs
theorem darray_Array_Number_runs (a_ : Tdarray_Array) (word : List UInt8) (l0 : Nat) {h : Heap} (ha0 : h.at_ l0 = some (.cells [.val (.sl (List.map eB a_.graph.Final)), .val (.sl (List.map (eL eEdge) a_.graph.Edges)), .row 3 (List.map eI a_.base), .row 91 (List.map edarray_cell a_.cells), .val (.sl (List.map eI a_.count))])) {a : (Int × Bool)} (e : darray_Array_Number a_ word = some a) :
    Runs CT 32 [.cv (.val (.ptr (some (l0, 0)))), .cv (.val (.sl (List.map eU word)))] h fun o h' => o = [.cv (.val (.int .i64 a.1)), .cv (.val (.bool a.2))] ∧ h' = h := by
  refine Runs.start Try.f32 _ Try.func32 rfl (by rw [Try.ntmps32]; simp) (by rfl) (by rfl) (fun hwf hu => ?_)
  have hl0 := (hwf _ _ ha0).1
  have kl0 := locF hl0
  obtain ⟨D, hD, hr⟩ : ∃ D : (Int × Bool) → Prop, (∀ z, D z → z = a) ∧ Holds (darray_Array_Number a_ word) D := ⟨fun z => z = a, fun _ h => h, Holds.intro e rfl⟩
  dsimp only [darray_Array_Number] at hr
  change wpCode _ _ _ _ _ ⟨[(0, .cv (.val (.ptr (some (l0, 0))))), (1, .cv (.val (.sl (List.map eU word))))], h.on []⟩
  refine w_seq ?_
  refine A_region ?_
  refine w_n ?_
  refine w_seq ?_
  refine w_drawn [0, 1, 2, 3, 4, 5, 6, 7, 8, 9, 10, 11] (by rfl) ?_
  refine p_run (l := [0, 1, 2, 3, 4, 5]) (pend' := [5, 4, 3, 2, 1, 0]) (by simp (disch := (apply Apart.mk; decide)) only [go_sem, Nat.reduceAdd, Nat.reduceLT, Nat.reduceMul, Nat.reduceLeDiff, Int.reduceToNat, Int.reduceLT, Int.reduceLE, ha0, on_atB hl0, lt_add hl0, lt_at hl0]; rfl) rfl ?_
  obtain ⟨r, eF1, hr⟩ := hr.bind
  refine p_call (out := ?o_eF1) (hp := ?p_eF1) (pend' := []) rfl (by simp (disch := (apply Apart.mk; decide)) only [go_sem, Nat.reduceAdd, Nat.reduceLT, Nat.reduceMul, Nat.reduceLeDiff, Int.reduceToNat, Int.reduceLT, Int.reduceLE, ha0, on_atB hl0, lt_add hl0, lt_at hl0, Option.getD_some]) rfl (by simp (disch := (apply Apart.mk; decide)) only [go_sem, Nat.reduceAdd, Nat.reduceLT, Nat.reduceMul, Nat.reduceLeDiff, Int.reduceToNat, Int.reduceLT, Int.reduceLE, ha0, on_atB hl0, lt_add hl0, lt_at hl0, Option.getD_some]; rfl) (by simp (disch := (apply Apart.mk; decide)) only [go_sem, Nat.reduceAdd, Nat.reduceLT, Nat.reduceMul, Nat.reduceLeDiff, Int.reduceToNat, Int.reduceLT, Int.reduceLE, ha0, on_atB hl0, lt_add hl0, lt_at hl0, Option.getD_some]; rfl) (by simp (disch := (apply Apart.mk; decide)) only [go_sem, Nat.reduceAdd, Nat.reduceLT, Nat.reduceMul, Nat.reduceLeDiff, Int.reduceToNat, Int.reduceLT, Int.reduceLE, ha0, on_atB hl0, lt_add hl0, lt_at hl0, Option.getD_some]; rfl) (by rfl) ?c_eF1 ?d_eF1 ?_
  case c_eF1 => exact dawg_Number_runs a_.graph word eF1
  case d_eF1 => rfl
  refine p_run (l := [7, 8, 9]) (pend' := [9, 8, 7]) (by simp (disch := (apply Apart.mk; decide)) only [go_sem, Nat.reduceAdd, Nat.reduceLT, Nat.reduceMul, Nat.reduceLeDiff, Int.reduceToNat, Int.reduceLT, Int.reduceLE, ha0, on_atB hl0, lt_add hl0, lt_at hl0]; rfl) rfl ?_
  refine p_op (pend' := [9]) rfl (by simp (disch := (apply Apart.mk; decide)) only [go_sem, Nat.reduceAdd, Nat.reduceLT, Nat.reduceMul, Nat.reduceLeDiff, Int.reduceToNat, Int.reduceLT, Int.reduceLE, ha0, on_atB hl0, lt_add hl0, lt_at hl0]) (by simp (disch := (apply Apart.mk; decide)) only [go_sem, Nat.reduceAdd, Nat.reduceLT, Nat.reduceMul, Nat.reduceLeDiff, Int.reduceToNat, Int.reduceLT, Int.reduceLE, ha0, on_atB hl0, lt_add hl0, lt_at hl0]; rfl) (by rfl) ?_
  refine p_op (pend' := []) rfl (by simp (disch := (apply Apart.mk; decide)) only [go_sem, Nat.reduceAdd, Nat.reduceLT, Nat.reduceMul, Nat.reduceLeDiff, Int.reduceToNat, Int.reduceLT, Int.reduceLE, ha0, on_atB hl0, lt_add hl0, lt_at hl0]) (by simp (disch := (apply Apart.mk; decide)) only [go_sem, Nat.reduceAdd, Nat.reduceLT, Nat.reduceMul, Nat.reduceLeDiff, Int.reduceToNat, Int.reduceLT, Int.reduceLE, ha0, on_atB hl0, lt_add hl0, lt_at hl0]; rfl) (by rfl) ?_
  refine p_end (by simp (disch := (apply Apart.mk; decide)) only [go_sem, Nat.reduceAdd, Nat.reduceLT, Nat.reduceMul, Nat.reduceLeDiff, Int.reduceToNat, Int.reduceLT, Int.reduceLE, ha0, on_atB hl0, lt_add hl0, lt_at hl0]) ?_
  refine w_n ?_
  refine w_seq ?_
  refine A_region ?_
  refine w_n ?_
  refine w_ret ?_
  obtain rfl := hD _ hr
  exact (A_endR (A_cut (os' := []) (sl := [(4, .cv (.val (.int .i64 r.1))), (5, .cv (.val (.bool (r.2 == (0 : Int)))))]) hwf) ⟨rfl, on_nil hwf⟩)
end Go.Val

/- part GW38 -/
/- scansion/dawg.Word runs as it is read off. -/
namespace Go.Val
set_option linter.unusedVariables false
set_option linter.unusedSimpArgs false
set_option maxRecDepth 20000
open Go.Proofs
theorem dawg_Word_runs (g : TGraph) (n : Int) {h : Heap} {a : (Str × Int)} (e : dawg_Word g n = some a) :
    Runs CT 38 [.cv (.val (.agg [.sl (List.map eB g.Final), .sl (List.map (eL eEdge) g.Edges)])), .cv (.val (.int .i64 n))] h fun o h' => o = [.cv (.val (.str (bs a.1))), .cv (.val (.int .i64 a.2))] ∧ h' = h := by
  refine Runs.start Try.f38 _ Try.func38 rfl (by rw [Try.ntmps38]; simp) (by rfl) (by rfl) (fun hwf hu => ?_)
  obtain ⟨D, hD, hr⟩ : ∃ D : (Str × Int) → Prop, (∀ z, D z → z = a) ∧ Holds (dawg_Word g n) D := ⟨fun z => z = a, fun _ h => h, Holds.intro e rfl⟩
  dsimp only [dawg_Word] at hr
  change wpCode _ _ _ _ _ ⟨[(0, .cv (.val (.agg [.sl (List.map eB g.Final), .sl (List.map (eL eEdge) g.Edges)]))), (1, .cv (.val (.int .i64 n)))], h.on []⟩
  refine w_seq ?_
  refine A_region ?_
  refine w_n ?_
  refine w_seq ?_
  refine A_ops ?_
  refine A_upto 1 ?_
  obtain ⟨r, eF1, hr⟩ := hr.bind
  refine A_call (out := ?o_eF1) (hp := ?p_eF1) ?c_eF1 ?d_eF1 ?_
  case c_eF1 => exact dawg_Count_runs g eF1
  case d_eF1 => rfl
  refine A_ops_end ?_
  refine w_n ?_
  refine w_seq ?_
  refine w_seq ?_
  refine A_region ?_
  refine w_n ?_
  refine A_condH hr (fun cF2 hr => ?_) (fun cF2 hr => ?_)
  · refine w_seq ?_
    refine A_region ?_
    refine w_n ?_
    refine w_ret ?_
    obtain rfl := hD _ hr
    exact (w_tr (A_endR (A_cut (os' := []) (sl := [(4, .cv (.val (.str (bs ([] : Str))))), (5, .cv (.val (.int .i64 r.2)))]) hwf) ⟨rfl, on_nil hwf⟩))
  · refine w_skip ?_
    refine w_n ?_
    refine w_seq ?_
    refine A_region ?_
    refine w_n ?_
    refine w_seq ?_
    obtain ⟨v, vF7, hr⟩ := hr.bind
    refine w_joinR (sj := ⟨[(1, .cv (.val (.int .i64 n))), (2, .cv (.val (.ptr (some (h.n + 0, 0))))), (6, .cv (.val (.sl (List.map eI r.1)))), (8, .cv (.val (.int .i64 (IntKind.i64.wrap ((r.1.length : Int) - (1 : Int)))))), (32, .cv (.val (.bool v)))], h.on [some (.cells [.val (.sl (List.map eB g.Final)), .val (.sl (List.map (eL eEdge) g.Edges))])]⟩) (A_ops ?_) ?_
    · have hr := Holds.intro (D := fun z => z = v) vF7 rfl
      refine A_upto 3 ?_
      rcases hr.ite with ⟨cF3, hr⟩ | ⟨cF3, hr⟩
      · refine A_ops_end ?_
        obtain rfl : _ = v := hr
        exact w_k (A_cut hwf)
      · obtain ⟨n1, nF4, eF5, gF6, hr⟩ := hr.idx
        refine A_ops_end ?_
        obtain rfl : _ = v := hr
        exact w_k (A_cut hwf)
    refine A_condH hr (fun cF8 hr => ?_) (fun cF8 hr => ?_)
    · refine w_seq ?_
      refine A_region ?_
      refine w_n ?_
      refine w_ret ?_
      obtain rfl := hD _ hr
      exact (w_tr (A_endR (A_cut (os' := []) (sl := [(4, .cv (.val (.str (bs ([] : Str))))), (5, .cv (.val (.int .i64 (4 : Int))))]) hwf) ⟨rfl, on_nil hwf⟩))
    · refine w_skip ?_
      refine w_n ?_
      refine w_seq ?_
      refine A_region ?_
      refine w_n ?_
      refine w_block ?_
      refine w_Loop (fun xX : (Int × Int × List UInt8) => ⟨[(1, .cv (.val (.int .i64 xX.1))), (2, .cv (.val (.ptr (some (h.n + 0, 0))))), (6, .cv (.val (.sl (List.map eI r.1)))), (8, .cv (.val (.int .i64 xX.2.1))), (9, .cv (.row 5 (List.map eU xX.2.2)))], h.on [some (.cells [.val (.sl (List.map eB g.Final)), .val (.sl (List.map (eL eEdge) g.Edges))])]⟩) hr (A_cut hwf) (fun W1 xX hr => ?_)
      obtain ⟨n2, s, word⟩ := xX
      dsimp only [dawg_Word.b1] at hr
      refine w_K (D := (Aft W1 D)) (fun xX : (Int × Int × List UInt8) => ⟨[(1, .cv (.val (.int .i64 xX.1))), (2, .cv (.val (.ptr (some (h.n + 0, 0))))), (6, .cv (.val (.sl (List.map eI r.1)))), (8, .cv (.val (.int .i64 xX.2.1))), (9, .cv (.row 5 (List.map eU xX.2.2)))], h.on [some (.cells [.val (.sl (List.map eB g.Final)), .val (.sl (List.map (eL eEdge) g.Edges))])]⟩) (fun xX : (Int × Int × List UInt8) => dawg_Word.k1 xX.1 xX.2.1 xX.2.2) (fun xX s' hr ht => ?_) ?_
      · obtain ⟨n3, s1, word1⟩ := xX
        dsimp only [dawg_Word.k1] at hr ht
        exact (w_k ⟨(n3, s1, word1), hr, (To.trans ht (A_cut hwf))⟩)
      · refine w_block ?_
        refine w_seq ?_
        refine w_seq ?_
        obtain ⟨b, nF9, eF10, gF11, hr⟩ := hr.idx
        refine A_region ?_
        refine w_n ?_
        refine w_K (D := (Aft W1 D)) (fun xX : Int => ⟨[(1, .cv (.val (.int .i64 xX))), (2, .cv (.val (.ptr (some (h.n + 0, 0))))), (6, .cv (.val (.sl (List.map eI r.1)))), (8, .cv (.val (.int .i64 s))), (9, .cv (.row 5 (List.map eU word)))], h.on [some (.cells [.val (.sl (List.map eB g.Final)), .val (.sl (List.map (eL eEdge) g.Edges))])]⟩) (fun xX : Int => dawg_Word.k2 g r s word xX) (fun xX s' hr ht => ?_) ?_
        · obtain ⟨n4, rfl⟩ : ∃ z, z = xX := ⟨xX, rfl⟩
          dsimp only [dawg_Word.k2] at hr ht
          refine (w_nT ht ?_)
          refine w_seq ?_
          obtain ⟨xs, nF12, eF13, gF14, hr⟩ := hr.idx
          refine A_region ?_
          refine w_n ?_
          refine w_block ?_
          refine w_Loop (fun xX : (Int × Int) => ⟨[(1, .cv (.val (.int .i64 xX.1))), (2, .cv (.val (.ptr (some (h.n + 0, 0))))), (6, .cv (.val (.sl (List.map eI r.1)))), (8, .cv (.val (.int .i64 s))), (9, .cv (.row 5 (List.map eU word))), (48, .cv (.val (.sl (List.map eEdge xs)))), (49, .cv (.val (.int .i64 (xs.length : Int)))), (50, .cv (.val (.int .i64 xX.2)))], h.on [some (.cells [.val (.sl (List.map eB g.Final)), .val (.sl (List.map (eL eEdge) g.Edges))])]⟩) hr (A_cut hwf) (fun W2 xX hr => ?_)
          obtain ⟨n5, v1⟩ := xX
          dsimp only [dawg_Word.b2] at hr
          refine w_seq ?_
          refine A_region ?_
          refine w_n ?_
          refine w_seq ?_
          refine A_condH hr (fun cF15 hr => ?_) (fun cF15 hr => ?_)
          · refine w_skip ?_
            refine w_n ?_
            refine w_seq ?_
            refine w_block ?_
            refine w_seq ?_
            obtain ⟨x, nF16, eF17, gF18, hr⟩ := hr.idx
            refine A_region ?_
            refine w_n ?_
            refine w_seq ?_
            refine w_seq ?_
            obtain ⟨n6, nF19, eF20, gF21, hr⟩ := hr.idx
            refine A_region ?_
            refine w_n ?_
            refine A_condH hr (fun cF22 hr => ?_) (fun cF22 hr => ?_)
            · refine w_seq ?_
              refine w_drawn [0, 1, 2, 3, 5, 6, 4, 7, 8] (by rfl) ?_
              obtain ⟨nF23, hr⟩ := hr.room
              refine p_run (l := [0, 1, 2, 3, 5, 6]) (pend' := [6, 5, 3, 2, 1, 0]) (by simp (disch := (apply Apart.mk; decide)) only [go_sem, Nat.reduceAdd, Nat.reduceLT, Nat.reduceMul, Nat.reduceLeDiff, Int.reduceToNat, Int.reduceLT, Int.reduceLE, nF23]; rfl) rfl ?_
              refine p_op (pend' := [6, 5]) rfl (by simp (disch := (apply Apart.mk; decide)) only [go_sem, Nat.reduceAdd, Nat.reduceLT, Nat.reduceMul, Nat.reduceLeDiff, Int.reduceToNat, Int.reduceLT, Int.reduceLE, nF23]) (by simp (disch := (apply Apart.mk; decide)) only [go_sem, Nat.reduceAdd, Nat.reduceLT, Nat.reduceMul, Nat.reduceLeDiff, Int.reduceToNat, Int.reduceLT, Int.reduceLE, nF23]; rfl) (by rfl) ?_
              refine p_op (pend' := [6, 5]) rfl (by simp (disch := (apply Apart.mk; decide)) only [go_sem, Nat.reduceAdd, Nat.reduceLT, Nat.reduceMul, Nat.reduceLeDiff, Int.reduceToNat, Int.reduceLT, Int.reduceLE, nF23]) (by simp (disch := (apply Apart.mk; decide)) only [go_sem, Nat.reduceAdd, Nat.reduceLT, Nat.reduceMul, Nat.reduceLeDiff, Int.reduceToNat, Int.reduceLT, Int.reduceLE, nF23]; rfl) (by rfl) ?_
              refine p_op (pend' := []) rfl (by simp (disch := (apply Apart.mk; decide)) only [go_sem, Nat.reduceAdd, Nat.reduceLT, Nat.reduceMul, Nat.reduceLeDiff, Int.reduceToNat, Int.reduceLT, Int.reduceLE, nF23]) (by simp (disch := (apply Apart.mk; decide)) only [go_sem, Nat.reduceAdd, Nat.reduceLT, Nat.reduceMul, Nat.reduceLeDiff, Int.reduceToNat, Int.reduceLT, Int.reduceLE, nF23]; rfl) (by rfl) ?_
              refine p_end (by simp (disch := (apply Apart.mk; decide)) only [go_sem, Nat.reduceAdd, Nat.reduceLT, Nat.reduceMul, Nat.reduceLeDiff, Int.reduceToNat, Int.reduceLT, Int.reduceLE, nF23]) ?_
              refine w_n ?_
              refine w_exit ?_
              exact (w_te (w_bo (w_te (w_te (w_bx (w_bn (w_k ⟨(n5, x.To, (word ++ ([x.Label]))), (hr).map, (A_cut hwf)⟩))))) rfl))
            · refine w_skip ?_
              refine w_n ?_
              refine A_region ?_
              refine (w_bn (w_n ?_))
              refine A_region ?_
              exact (w_k ⟨((IntKind.i64.wrap (n5 - n6)), (IntKind.i64.wrap (v1 + (1 : Int)))), hr, (A_cut hwf)⟩)
          · refine w_exit ?_
            exact (w_te (w_te (w_bx (w_bn (w_k ⟨(n5, s, word), (hr).map, (A_cut hwf)⟩)))))
        · refine A_condH hr (fun cF24 hr => ?_) (fun cF24 hr => ?_)
          · refine w_seq ?_
            refine w_seq ?_
            refine A_region ?_
            refine w_n ?_
            refine A_condH hr (fun cF25 hr => ?_) (fun cF25 hr => ?_)
            · refine w_seq ?_
              refine A_region ?_
              refine w_n ?_
              refine w_ret ?_
              obtain rfl := hD _ hr
              exact (w_tr (w_tr (w_tr (w_br (w_tr (w_tr (w_br (A_endR (A_cut (os' := []) (sl := [(4, .cv (.val (.str (bs word)))), (5, .cv (.val (.int .i64 (0 : Int))))]) hwf) ⟨rfl, on_nil hwf⟩))))))))
            · refine w_skip ?_
              refine w_n ?_
              refine A_region ?_
              exact (w_k ⟨(IntKind.i64.wrap (n2 - (1 : Int))), hr, (A_cut hwf)⟩)
          · refine w_skip ?_
            exact (w_k ⟨n2, hr, (A_cut hwf)⟩)
end Go.Val

/- part GW62 -/
/- (*scansion/darray.Array).Word runs as it is read off. -/
namespace Go.Val
set_option linter.unusedVariables false
set_option linter.unusedSimpArgs false
set_option maxRecDepth 20000
open Go.Proofs
theorem darray_Array_Word_runs (a_ : Tdarray_Array) (n : Int) (l0 : Nat) {h : Heap} (ha0 : h.at_ l0 = some (.cells [.val (.sl (List.map eB a_.graph.Final)), .val (.sl (List.map (eL eEdge) a_.graph.Edges)), .row 3 (List.map eI a_.base), .row 91 (List.map edarray_cell a_.cells), .val (.sl (List.map eI a_.count))])) {a : (Str × Bool)} (e : darray_Array_Word a_ n = some a) :
    Runs CT 62 [.cv (.val (.ptr (some (l0, 0)))), .cv (.val (.int .i64 n))] h fun o h' => o = [.cv (.val (.str (bs a.1))), .cv (.val (.bool a.2))] ∧ h' = h := by
  refine Runs.start Try.f62 _ Try.func62 rfl (by rw [Try.ntmps62]; simp) (by rfl) (by rfl) (fun hwf hu => ?_)
  have hl0 := (hwf _ _ ha0).1
  have kl0 := locF hl0
  obtain ⟨D, hD, hr⟩ : ∃ D : (Str × Bool) → Prop, (∀ z, D z → z = a) ∧ Holds (darray_Array_Word a_ n) D := ⟨fun z => z = a, fun _ h => h, Holds.intro e rfl⟩
  dsimp only [darray_Array_Word] at hr
  change wpCode _ _ _ _ _ ⟨[(0, .cv (.val (.ptr (some (l0, 0))))), (1, .cv (.val (.int .i64 n)))], h.on []⟩
  refine w_seq ?_
  refine A_region ?_
  refine w_n ?_
  refine w_seq ?_
  refine A_ops ?_
  refine A_upto 5 ?_
  obtain ⟨r, eF1, hr⟩ := hr.bind
  refine A_call (out := ?o_eF1) (hp := ?p_eF1) ?c_eF1 ?d_eF1 ?_
  case c_eF1 => exact dawg_Word_runs a_.graph n eF1
  case d_eF1 => rfl
  refine A_ops_end ?_
  refine w_n ?_
  refine w_seq ?_
  refine A_region ?_
  refine w_n ?_
  refine w_ret ?_
  obtain rfl := hD _ hr
  exact (A_endR (A_cut (os' := []) (sl := [(4, .cv (.val (.str (bs r.1)))), (5, .cv (.val (.bool (r.2 == (0 : Int)))))]) hwf) ⟨rfl, on_nil hwf⟩)
end Go.Val

/- part GW54 -/
/- (*scansion/darray.Array).has runs as it is read off. -/
namespace Go.Val
set_option linter.unusedVariables false
set_option linter.unusedSimpArgs false
set_option maxRecDepth 20000
open Go.Proofs
theorem darray_Array_has_runs (a_ : Tdarray_Array) (s : Int) (l0 : Nat) {h : Heap} (ha0 : h.at_ l0 = some (.cells [.val (.sl (List.map eB a_.graph.Final)), .val (.sl (List.map (eL eEdge) a_.graph.Edges)), .row 3 (List.map eI a_.base), .row 91 (List.map edarray_cell a_.cells), .val (.sl (List.map eI a_.count))])) {a : Bool} (e : darray_Array_has a_ s = some a) :
    Runs CT 54 [.cv (.val (.ptr (some (l0, 0)))), .cv (.val (.int .i64 s))] h fun o h' => o = [.cv (.val (.bool a))] ∧ h' = h := by
  refine Runs.start Try.f54 _ Try.func54 rfl (by rw [Try.ntmps54]; simp) (by rfl) (by rfl) (fun hwf hu => ?_)
  have hl0 := (hwf _ _ ha0).1
  have kl0 := locF hl0
  obtain ⟨D, hD, hr⟩ : ∃ D : Bool → Prop, (∀ z, D z → z = a) ∧ Holds (darray_Array_has a_ s) D := ⟨fun z => z = a, fun _ h => h, Holds.intro e rfl⟩
  dsimp only [darray_Array_has] at hr
  change wpCode _ _ _ _ _ ⟨[(0, .cv (.val (.ptr (some (l0, 0))))), (1, .cv (.val (.int .i64 s)))], h.on []⟩
  refine w_seq ?_
  refine A_region ?_
  refine w_n ?_
  refine w_joinR (sj := ⟨[(4, .cv (.val (.bool ((decide (s ≥ (0 : Int))) && (decide (s < (a_.base.length : Int)))))))], h.on []⟩) (A_ops ?_) ?_
  · refine A_upto 3 ?_
    rcases Bool.eq_false_or_eq_true (decide (s ≥ (0 : Int))) with cF1 | cF1
    · refine A_ops_end ?_
      exact w_k (A_cut hwf)
    · refine A_ops_end ?_
      exact w_k (A_cut hwf)
  refine w_ret ?_
  obtain rfl := hD _ hr
  exact (A_endR (A_cut (os' := []) (sl := [(4, .cv (.val (.bool ((decide (s ≥ (0 : Int))) && (decide (s < (a_.base.length : Int)))))))]) hwf) ⟨rfl, on_nil hwf⟩)
end Go.Val

/- part GW24 -/
/- (*scansion/darray.Array).Step runs as it is read off. -/
namespace Go.Val
set_option linter.unusedVariables false
set_option linter.unusedSimpArgs false
set_option maxRecDepth 20000
open Go.Proofs
theorem darray_Array_Step_runs (a_ : Tdarray_Array) (s : Int) (b : UInt8) (l0 : Nat) {h : Heap} (ha0 : h.at_ l0 = some (.cells [.val (.sl (List.map eB a_.graph.Final)), .val (.sl (List.map (eL eEdge) a_.graph.Edges)), .row 3 (List.map eI a_.base), .row 91 (List.map edarray_cell a_.cells), .val (.sl (List.map eI a_.count))])) {a : (Int × Bool)} (e : darray_Array_Step a_ s b = some a) :
    Runs CT 24 [.cv (.val (.ptr (some (l0, 0)))), .cv (.val (.int .i64 s)), .cv (.val (.int .u8 (b.toNat : Int)))] h fun o h' => o = [.cv (.val (.int .i64 a.1)), .cv (.val (.bool a.2))] ∧ h' = h := by
  refine Runs.start Try.f24 _ Try.func24 rfl (by rw [Try.ntmps24]; simp) (by rfl) (by rfl) (fun hwf hu => ?_)
  have hl0 := (hwf _ _ ha0).1
  have kl0 := locF hl0
  obtain ⟨D, hD, hr⟩ : ∃ D : (Int × Bool) → Prop, (∀ z, D z → z = a) ∧ Holds (darray_Array_Step a_ s b) D := ⟨fun z => z = a, fun _ h => h, Holds.intro e rfl⟩
  dsimp only [darray_Array_Step] at hr
  change wpCode _ _ _ _ _ ⟨[(0, .cv (.val (.ptr (some (l0, 0))))), (1, .cv (.val (.int .i64 s))), (2, .cv (.val (.int .u8 (b.toNat : Int))))], h.on []⟩
  refine w_seq ?_
  refine A_region ?_
  refine w_n ?_
  refine w_seq ?_
  refine w_seq ?_
  refine A_ops ?_
  refine A_upto 2 ?_
  obtain ⟨r, eF1, hr⟩ := hr.bind
  refine A_call (out := ?o_eF1) (hp := ?p_eF1) ?c_eF1 ?d_eF1 ?_
  case c_eF1 => (refine darray_Array_has_runs a_ s (l0) ?_ eF1; (simp (disch := (apply Apart.mk; decide)) only [go_sem, Nat.reduceAdd, Nat.reduceLT, Nat.reduceMul, Nat.reduceLeDiff, Int.reduceToNat, Int.reduceLT, Int.reduceLE, ha0, on_atB hl0, lt_add hl0, lt_at hl0]))
  case d_eF1 => rfl
  refine A_ops_end ?_
  refine w_n ?_
  refine A_condH hr (fun cF2 hr => ?_) (fun cF2 hr => ?_)
  · refine w_seq ?_
    refine A_region ?_
    refine w_n ?_
    refine w_ret ?_
    obtain rfl := hD _ hr
    exact (w_tr (A_endR (A_cut (os' := []) (sl := [(6, .cv (.val (.int .i64 (0 : Int)))), (7, .cv (.val (.bool false)))]) hwf) ⟨rfl, on_nil hwf⟩))
  · refine w_skip ?_
    refine w_n ?_
    refine w_seq ?_
    obtain ⟨n, nF3, eF4, gF5, hr⟩ := hr.idx
    refine A_region ?_
    refine w_n ?_
    refine w_seq ?_
    obtain ⟨v, vF10, hr⟩ := hr.bind
    refine w_joinR (sj := ⟨[(0, .cv (.val (.ptr (some (l0, 0))))), (8, .cv (.val (.int .i64 (IntKind.i64.wrap (n + (IntKind.i64.wrap (b.toNat : Int))))))), (42, .cv (.val (.bool v)))], h.on []⟩) (A_ops ?_) ?_
    · have hr := Holds.intro (D := fun z => z = v) vF10 rfl
      refine A_upto 8 ?_
      rcases hr.ite with ⟨cF6, hr⟩ | ⟨cF6, hr⟩
      · refine A_ops_end ?_
        obtain rfl : _ = v := hr
        exact w_k (A_cut hwf)
      · obtain ⟨x, nF7, eF8, gF9, hr⟩ := hr.idx
        refine A_ops_end ?_
        obtain rfl : _ = v := hr
        exact w_k (A_cut hwf)
    refine A_condH hr (fun cF11 hr => ?_) (fun cF11 hr => ?_)
    · refine w_seq ?_
      refine A_region ?_
      refine w_n ?_
      refine w_ret ?_
      obtain rfl := hD _ hr
      exact (w_tr (A_endR (A_cut (os' := []) (sl := [(6, .cv (.val (.int .i64 (0 : Int)))), (7, .cv (.val (.bool false)))]) hwf) ⟨rfl, on_nil hwf⟩))
    · refine w_skip ?_
      refine w_n ?_
      refine w_seq ?_
      obtain ⟨x1, nF12, eF13, gF14, hr⟩ := hr.idx
      refine A_region ?_
      refine w_n ?_
      refine w_ret ?_
      obtain rfl := hD _ hr
      exact (A_endR (A_cut (os' := []) (sl := [(6, .cv (.val (.int .i64 x1.to))), (7, .cv (.val (.bool true)))]) hwf) ⟨rfl, on_nil hwf⟩)
end Go.Val

/- part GW28 -/
/- (*scansion/darray.Array).Start runs as it is read off. -/
namespace Go.Val
set_option linter.unusedVariables false
set_option linter.unusedSimpArgs false
set_option maxRecDepth 20000
open Go.Proofs
theorem darray_Array_Start_runs (a_ : Tdarray_Array) (l0 : Nat) {h : Heap} (ha0 : h.at_ l0 = some (.cells [.val (.sl (List.map eB a_.graph.Final)), .val (.sl (List.map (eL eEdge) a_.graph.Edges)), .row 3 (List.map eI a_.base), .row 91 (List.map edarray_cell a_.cells), .val (.sl (List.map eI a_.count))])) {a : Int} (e : darray_Array_Start a_ = some a) :
    Runs CT 28 [.cv (.val (.ptr (some (l0, 0))))] h fun o h' => o = [.cv (.val (.int .i64 a))] ∧ h' = h := by
  refine Runs.start Try.f28 _ Try.func28 rfl (by rw [Try.ntmps28]; simp) (by rfl) (by rfl) (fun hwf hu => ?_)
  have hl0 := (hwf _ _ ha0).1
  have kl0 := locF hl0
  obtain ⟨D, hD, hr⟩ : ∃ D : Int → Prop, (∀ z, D z → z = a) ∧ Holds (darray_Array_Start a_) D := ⟨fun z => z = a, fun _ h => h, Holds.intro e rfl⟩
  dsimp only [darray_Array_Start] at hr
  change wpCode _ _ _ _ _ ⟨[(0, .cv (.val (.ptr (some (l0, 0)))))], h.on []⟩
  refine w_seq ?_
  refine A_region ?_
  refine w_n ?_
  refine w_seq ?_
  refine A_region ?_
  refine w_n ?_
  refine w_ret ?_
  obtain rfl := hD _ hr
  exact (A_endR (A_cut (os' := []) (sl := [(2, .cv (.val (.int .i64 (IntKind.i64.wrap ((a_.base.length : Int) - (1 : Int))))))]) hwf) ⟨rfl, on_nil hwf⟩)
end Go.Val

/- part GW29 -/
/- (*scansion/darray.Array).Final runs as it is read off. -/
namespace Go.Val
set_option linter.unusedVariables false
set_option linter.unusedSimpArgs false
set_option maxRecDepth 20000
open Go.Proofs
theorem darray_Array_Final_runs (a_ : Tdarray_Array) (s : Int) (l0 : Nat) {h : Heap} (ha0 : h.at_ l0 = some (.cells [.val (.sl (List.map eB a_.graph.Final)), .val (.sl (List.map (eL eEdge) a_.graph.Edges)), .row 3 (List.map eI a_.base), .row 91 (List.map edarray_cell a_.cells), .val (.sl (List.map eI a_.count))])) {a : Bool} (e : darray_Array_Final a_ s = some a) :
    Runs CT 29 [.cv (.val (.ptr (some (l0, 0)))), .cv (.val (.int .i64 s))] h fun o h' => o = [.cv (.val (.bool a))] ∧ h' = h := by
  refine Runs.start Try.f29 _ Try.func29 rfl (by rw [Try.ntmps29]; simp) (by rfl) (by rfl) (fun hwf hu => ?_)
  have hl0 := (hwf _ _ ha0).1
  have kl0 := locF hl0
  obtain ⟨D, hD, hr⟩ : ∃ D : Bool → Prop, (∀ z, D z → z = a) ∧ Holds (darray_Array_Final a_ s) D := ⟨fun z => z = a, fun _ h => h, Holds.intro e rfl⟩
  dsimp only [darray_Array_Final] at hr
  change wpCode _ _ _ _ _ ⟨[(0, .cv (.val (.ptr (some (l0, 0))))), (1, .cv (.val (.int .i64 s)))], h.on []⟩
  refine w_seq ?_
  refine A_region ?_
  refine w_n ?_
  obtain ⟨v, vF6, hr⟩ := hr.bind
  refine w_joinR (sj := ⟨[(4, .cv (.val (.bool v)))], h.on []⟩) (A_ops ?_) ?_
  · have hr := Holds.intro (D := fun z => z = v) vF6 rfl
    refine A_upto 2 ?_
    obtain ⟨r, eF1, hr⟩ := hr.bind
    refine A_call (out := ?o_eF1) (hp := ?p_eF1) ?c_eF1 ?d_eF1 ?_
    case c_eF1 => (refine darray_Array_has_runs a_ s (l0) ?_ eF1; (simp (disch := (apply Apart.mk; decide)) only [go_sem, Nat.reduceAdd, Nat.reduceLT, Nat.reduceMul, Nat.reduceLeDiff, Int.reduceToNat, Int.reduceLT, Int.reduceLE, ha0, on_atB hl0, lt_add hl0, lt_at hl0]))
    case d_eF1 => rfl
    refine A_upto 1 ?_
    rcases hr.ite with ⟨cF2, hr⟩ | ⟨cF2, hr⟩
    · obtain ⟨b, nF3, eF4, gF5, hr⟩ := hr.idx
      refine A_ops_end ?_
      obtain rfl : _ = v := hr
      exact w_k (A_cut hwf)
    · refine A_ops_end ?_
      obtain rfl : _ = v := hr
      exact w_k (A_cut hwf)
  refine w_ret ?_
  obtain rfl := hD _ hr
  exact (A_endR (A_cut (os' := []) (sl := [(4, .cv (.val (.bool v)))]) hwf) ⟨rfl, on_nil hwf⟩)
end Go.Val

/- part GW46 -/
/- (*scansion/darray.Array).Prefixes runs as it is read off. -/
namespace Go.Val
set_option linter.unusedVariables false
set_option linter.unusedSimpArgs false
set_option maxRecDepth 20000
open Go.Proofs
theorem darray_Array_Prefixes_runs (a_ : Tdarray_Array) (b : List UInt8) (l0 : Nat) {h : Heap} (ha0 : h.at_ l0 = some (.cells [.val (.sl (List.map eB a_.graph.Final)), .val (.sl (List.map (eL eEdge) a_.graph.Edges)), .row 3 (List.map eI a_.base), .row 91 (List.map edarray_cell a_.cells), .val (.sl (List.map eI a_.count))])) {a : List Int} (e : darray_Array_Prefixes a_ b = some a) :
    Runs CT 46 [.cv (.val (.ptr (some (l0, 0)))), .cv (.val (.sl (List.map eU b)))] h fun o h' => o = [.cv (.val (.sl (List.map eI a)))] ∧ h' = h := by
  refine Runs.start Try.f46 _ Try.func46 rfl (by rw [Try.ntmps46]; simp) (by rfl) (by rfl) (fun hwf hu => ?_)
  have hl0 := (hwf _ _ ha0).1
  have kl0 := locF hl0
  obtain ⟨D, hD, hr⟩ : ∃ D : List Int → Prop, (∀ z, D z → z = a) ∧ Holds (darray_Array_Prefixes a_ b) D := ⟨fun z => z = a, fun _ h => h, Holds.intro e rfl⟩
  dsimp only [darray_Array_Prefixes] at hr
  change wpCode _ _ _ _ _ ⟨[(0, .cv (.val (.ptr (some (l0, 0))))), (1, .cv (.val (.sl (List.map eU b))))], h.on []⟩
  refine w_seq ?_
  refine A_region ?_
  refine w_n ?_
  refine w_seq ?_
  refine A_region ?_
  refine w_n ?_
  refine w_seq ?_
  refine A_ops ?_
  refine A_upto 1 ?_
  obtain ⟨r, eF1, hr⟩ := hr.bind
  refine A_call (out := ?o_eF1) (hp := ?p_eF1) ?c_eF1 ?d_eF1 ?_
  case c_eF1 => (refine darray_Array_Start_runs a_ (l0) ?_ eF1; (simp (disch := (apply Apart.mk; decide)) only [go_sem, Nat.reduceAdd, Nat.reduceLT, Nat.reduceMul, Nat.reduceLeDiff, Int.reduceToNat, Int.reduceLT, Int.reduceLE, ha0, on_atB hl0, lt_add hl0, lt_at hl0]))
  case d_eF1 => rfl
  refine A_ops_end ?_
  refine w_n ?_
  refine w_seq ?_
  refine w_seq ?_
  refine A_region ?_
  refine w_n ?_
  refine w_K (D := D) (fun xX : List Int => ⟨[(5, .cv (.row 3 (List.map eI xX)))], h.on []⟩) (fun xX : List Int => darray_Array_Prefixes.k1 xX) (fun xX s' hr ht => ?_) ?_
  · obtain ⟨out, rfl⟩ : ∃ z, z = xX := ⟨xX, rfl⟩
    dsimp only [darray_Array_Prefixes.k1] at hr ht
    refine (w_nT ht ?_)
    refine w_seq ?_
    refine A_region ?_
    refine w_n ?_
    refine w_ret ?_
    obtain rfl := hD _ hr
    exact (A_endR (.fix _ _ (.slot 4) 3 _ (by simp (disch := (apply Apart.mk; decide)) only [go_sem, Nat.reduceAdd, Nat.reduceLT, Nat.reduceMul, Nat.reduceLeDiff, Int.reduceToNat, Int.reduceLT, Int.reduceLE, ha0, on_atB hl0, lt_add hl0, lt_at hl0]; rfl) (A_cut (os' := []) (sl := [(4, .cv (.val (.sl (List.map eI out))))]) hwf)) ⟨rfl, on_nil hwf⟩)
  · refine w_block ?_
    refine w_Loop (fun xX : (List Int × Int × Bool × Int) => ⟨[(0, .cv (.val (.ptr (some (l0, 0))))), (1, .cv (.val (.sl (List.map eU b)))), (5, .cv (.row 3 (List.map eI xX.1))), (6, .cv (.val (.int .i64 xX.2.1))), (7, .cv (.val (.bool xX.2.2.1))), (8, .cv (.val (.int .i64 xX.2.2.2)))], h.on []⟩) hr (A_cut hwf) (fun W1 xX hr => ?_)
    obtain ⟨out1, s, is, n⟩ := xX
    dsimp only [darray_Array_Prefixes.b1] at hr
    refine w_seq ?_
    refine w_seq ?_
    refine A_region ?_
    refine w_n ?_
    refine A_condH hr (fun cF2 hr => ?_) (fun cF2 hr => ?_)
    · refine w_skip ?_
      refine w_n ?_
      refine w_seq ?_
      refine w_block ?_
      refine w_seq ?_
      refine w_seq ?_
      refine A_ops ?_
      refine A_upto 2 ?_
      obtain ⟨r1, eF3, hr⟩ := hr.bind
      refine A_call (out := ?o_eF3) (hp := ?p_eF3) ?c_eF3 ?d_eF3 ?_
      case c_eF3 => (refine darray_Array_Final_runs a_ s (l0) ?_ eF3; (simp (disch := (apply Apart.mk; decide)) only [go_sem, Nat.reduceAdd, Nat.reduceLT, Nat.reduceMul, Nat.reduceLeDiff, Int.reduceToNat, Int.reduceLT, Int.reduceLE, ha0, on_atB hl0, lt_add hl0, lt_at hl0]))
      case d_eF3 => rfl
      refine w_ops_nil ?_
      refine w_n ?_
      refine w_K (D := (Aft W1 D)) (fun xX : List Int => ⟨[(0, .cv (.val (.ptr (some (l0, 0))))), (1, .cv (.val (.sl (List.map eU b)))), (5, .cv (.row 3 (List.map eI xX))), (6, .cv (.val (.int .i64 s))), (8, .cv (.val (.int .i64 n)))], h.on []⟩) (fun xX : List Int => darray_Array_Prefixes.k2 a_ b s n xX) (fun xX s' hr ht => ?_) ?_
      · obtain ⟨out2, rfl⟩ : ∃ z, z = xX := ⟨xX, rfl⟩
        dsimp only [darray_Array_Prefixes.k2] at hr ht
        refine (w_nT ht ?_)
        refine w_seq ?_
        refine w_seq ?_
        refine A_region ?_
        refine w_n ?_
        refine A_condH hr (fun cF4 hr => ?_) (fun cF4 hr => ?_)
        · refine w_exit ?_
          exact (w_te (w_bo (w_te (w_te (w_bx (w_k ⟨out2, (hr).map, (A_cut hwf)⟩)))) rfl))
        · refine w_skip ?_
          refine w_n ?_
          refine A_ops ?_
          obtain ⟨n1, nF5, eF6, gF7, hr⟩ := hr.idx
          refine A_upto 6 ?_
          obtain ⟨r2, eF8, hr⟩ := hr.bind
          refine A_call (out := ?o_eF8) (hp := ?p_eF8) ?c_eF8 ?d_eF8 ?_
          case c_eF8 => (refine darray_Array_Step_runs a_ s n1 (l0) ?_ eF8; (simp (disch := (apply Apart.mk; decide)) only [go_sem, Nat.reduceAdd, Nat.reduceLT, Nat.reduceMul, Nat.reduceLeDiff, Int.reduceToNat, Int.reduceLT, Int.reduceLE, ha0, on_atB hl0, lt_add hl0, lt_at hl0]))
          case d_eF8 => rfl
          refine A_ops_end ?_
          refine (w_bn (w_n ?_))
          refine A_region ?_
          exact (w_k ⟨(out2, r2.1, r2.2, (IntKind.i64.wrap (n + (1 : Int)))), hr, (A_cut hwf)⟩)
      · refine A_condH hr (fun cF9 hr => ?_) (fun cF9 hr => ?_)
        · obtain ⟨nF10, hr⟩ := hr.room
          refine A_region ?_
          exact (w_k ⟨(out1 ++ ([n])), hr, (A_cut hwf)⟩)
        · refine w_skip ?_
          exact (w_k ⟨out1, hr, (A_cut hwf)⟩)
    · refine w_exit ?_
      exact (w_te (w_te (w_bx (w_k ⟨out1, (hr).map, (A_cut hwf)⟩))))
end Go.Val

/- part GW35 -/
/- scansion/scansionref17.Right runs as it is read off. -/
namespace Go.Val
set_option linter.unusedVariables false
set_option linter.unusedSimpArgs false
set_option maxRecDepth 20000
open Go.Proofs
theorem scansionref17_Right_runs (g : TGraph) {h : Heap} {a : Bool} (e : scansionref17_Right g = some a) :
    Runs CT 35 [.cv (.val (.agg [.sl (List.map eB g.Final), .sl (List.map (eL eEdge) g.Edges)]))] h fun o h' => o = [.cv (.val (.bool a))] ∧ h' = h := by
  refine Runs.start Try.f35 _ Try.func35 rfl (by rw [Try.ntmps35]; simp) (by rfl) (by rfl) (fun hwf hu => ?_)
  obtain ⟨D, hD, hr⟩ : ∃ D : Bool → Prop, (∀ z, D z → z = a) ∧ Holds (scansionref17_Right g) D := ⟨fun z => z = a, fun _ h => h, Holds.intro e rfl⟩
  dsimp only [scansionref17_Right] at hr
  change wpCode _ _ _ _ _ ⟨[(0, .cv (.val (.agg [.sl (List.map eB g.Final), .sl (List.map (eL eEdge) g.Edges)])))], h.on []⟩
  refine w_seq ?_
  refine A_region ?_
  refine w_n ?_
  refine w_seq ?_
  refine A_region ?_
  refine w_n ?_
  refine w_seq ?_
  refine w_joinR (sj := ⟨[(1, .cv (.val (.ptr (some (h.n + 0, 0))))), (3, .cv (.val (.int .i64 (g.Final.length : Int)))), (22, .cv (.val (.bool ((decide ((g.Final.length : Int) < (1 : Int))) || ((decide ((g.Final.length : Int) > (65536 : Int))) || ((g.Edges.length : Int) != (g.Final.length : Int)))))))], h.on [some (.cells [.val (.sl (List.map eB g.Final)), .val (.sl (List.map (eL eEdge) g.Edges))])]⟩) (A_ops ?_) ?_
  · refine A_upto 3 ?_
    rcases Bool.eq_false_or_eq_true (decide ((g.Final.length : Int) < (1 : Int))) with cF1 | cF1
    · refine A_ops_end ?_
      exact w_k (A_cut hwf)
    · refine A_upto 4 ?_
      rcases Bool.eq_false_or_eq_true (decide ((g.Final.length : Int) > (65536 : Int))) with cF2 | cF2
      · refine A_ops_end ?_
        exact w_k (A_cut hwf)
      · refine A_ops_end ?_
        exact w_k (A_cut hwf)
  refine A_condH hr (fun cF3 hr => ?_) (fun cF3 hr => ?_)
  · refine w_seq ?_
    refine A_region ?_
    refine w_n ?_
    refine w_ret ?_
    obtain rfl := hD _ hr
    exact (w_tr (A_endR (A_cut (os' := []) (sl := [(2, .cv (.val (.bool false)))]) hwf) ⟨rfl, on_nil hwf⟩))
  · refine w_skip ?_
    refine w_n ?_
    refine w_seq ?_
    refine w_seq ?_
    refine A_region ?_
    refine w_n ?_
    refine w_K (D := D) (fun xX : Unit => ⟨[], h.on []⟩) (fun xX : Unit => scansionref17_Right.k1) (fun xX s' hr ht => ?_) ?_
    · dsimp only [scansionref17_Right.k1] at hr ht
      refine (w_nT ht ?_)
      refine w_seq ?_
      refine A_region ?_
      refine w_n ?_
      refine w_ret ?_
      obtain rfl := hD _ hr
      exact (A_endR (A_cut (os' := []) (sl := [(2, .cv (.val (.bool true)))]) hwf) ⟨rfl, on_nil hwf⟩)
    · refine w_block ?_
      refine w_Loop (fun xX : Int => ⟨[(1, .cv (.val (.ptr (some (h.n + 0, 0))))), (3, .cv (.val (.int .i64 (g.Final.length : Int)))), (4, .cv (.val (.int .i64 xX)))], h.on [some (.cells [.val (.sl (List.map eB g.Final)), .val (.sl (List.map (eL eEdge) g.Edges))])]⟩) hr (A_cut hwf) (fun W1 xX hr => ?_)
      obtain ⟨s, rfl⟩ : ∃ z, z = xX := ⟨xX, rfl⟩
      dsimp only [scansionref17_Right.b1] at hr
      refine w_seq ?_
      refine w_seq ?_
      refine A_region ?_
      refine w_n ?_
      refine A_condH hr (fun cF4 hr => ?_) (fun cF4 hr => ?_)
      · refine w_skip ?_
        refine w_n ?_
        refine w_seq ?_
        refine w_K (D := (Aft W1 D)) (fun xX : Unit => ⟨[(1, .cv (.val (.ptr (some (h.n + 0, 0))))), (3, .cv (.val (.int .i64 (g.Final.length : Int)))), (4, .cv (.val (.int .i64 s)))], h.on [some (.cells [.val (.sl (List.map eB g.Final)), .val (.sl (List.map (eL eEdge) g.Edges))])]⟩) (fun xX : Unit => scansionref17_Right.k2 s) (fun xX s' hr ht => ?_) ?_
        · dsimp only [scansionref17_Right.k2] at hr ht
          refine (w_nT ht ?_)
          refine A_region ?_
          exact (w_k ⟨(IntKind.i64.wrap (s + (1 : Int))), hr, (A_cut hwf)⟩)
        · refine w_block ?_
          refine w_seq ?_
          refine A_region ?_
          refine w_n ?_
          refine w_block ?_
          refine w_Loop (fun xX : Int => ⟨[(1, .cv (.val (.ptr (some (h.n + 0, 0))))), (3, .cv (.val (.int .i64 (g.Final.length : Int)))), (4, .cv (.val (.int .i64 s))), (5, .cv (.val (.int .i64 xX)))], h.on [some (.cells [.val (.sl (List.map eB g.Final)), .val (.sl (List.map (eL eEdge) g.Edges))])]⟩) hr (A_cut hwf) (fun W2 xX hr => ?_)
          obtain ⟨k, rfl⟩ : ∃ z, z = xX := ⟨xX, rfl⟩
          dsimp only [scansionref17_Right.b2] at hr
          refine w_seq ?_
          refine w_seq ?_
          obtain ⟨xs, nF5, eF6, gF7, hr⟩ := hr.idx
          refine A_region ?_
          refine w_n ?_
          refine A_condH hr (fun cF8 hr => ?_) (fun cF8 hr => ?_)
          · refine w_skip ?_
            refine w_n ?_
            refine w_seq ?_
            refine w_block ?_
            refine w_seq ?_
            obtain ⟨x, nF9, eF10, gF11, hr⟩ := hr.idx
            refine A_region ?_
            refine w_n ?_
            obtain ⟨v1, vF18, hr⟩ := hr.bind
            refine w_joinR (sj := ⟨[(1, .cv (.val (.ptr (some (h.n + 0, 0))))), (3, .cv (.val (.int .i64 (g.Final.length : Int)))), (4, .cv (.val (.int .i64 s))), (5, .cv (.val (.int .i64 k))), (73, .cv (.val (.bool v1)))], h.on [some (.cells [.val (.sl (List.map eB g.Final)), .val (.sl (List.map (eL eEdge) g.Edges))])]⟩) (w_drawn [0, 1, 2, 3, 4, 5, 6, 7, 8, 9, 10, 11, 12, 13, 14, 15, 16, 17, 18, 19, 20, 21, 22, 23, 24, 25, 26, 27] (by rfl) ?_) ?_
            · have hr := Holds.intro (D := fun z => z = v1) vF18 rfl
              refine p_run (l := [0, 1, 2, 3]) (pend' := [3, 2, 1, 0]) (by simp (disch := (apply Apart.mk; decide)) only [go_sem, Nat.reduceAdd, Nat.reduceLT, Nat.reduceMul, Nat.reduceLeDiff, Int.reduceToNat, Int.reduceLT, Int.reduceLE]; rfl) rfl ?_
              rcases hr.ite with ⟨cF12, hr⟩ | ⟨cF12, hr⟩
              · refine p_run (l := [4, 5, 6, 7, 8, 9, 10, 11, 12, 13, 14, 15, 16, 17, 18, 19, 20, 21, 22, 23, 24, 25, 26, 27]) (pend' := [27, 26, 25, 24, 23, 22, 21, 20, 19, 18, 17, 16, 15, 14, 13, 12, 11, 10, 9, 8, 7, 6, 5, 4, 3, 2, 1, 0]) (by simp (disch := (apply Apart.mk; decide)) only [go_sem, Nat.reduceAdd, Nat.reduceLT, Nat.reduceMul, Nat.reduceLeDiff, Int.reduceToNat, Int.reduceLT, Int.reduceLE, cF12]; rfl) rfl ?_
                refine p_end (by simp (disch := (apply Apart.mk; decide)) only [go_sem, Nat.reduceAdd, Nat.reduceLT, Nat.reduceMul, Nat.reduceLeDiff, Int.reduceToNat, Int.reduceLT, Int.reduceLE, cF12]) ?_
                obtain rfl : _ = v1 := hr
                exact w_k (A_cut hwf)
              · refine p_run (l := [4, 5, 6, 7, 8, 9]) (pend' := [9, 8, 7, 6, 5, 4, 3, 2, 1, 0]) (by simp (disch := (apply Apart.mk; decide)) only [go_sem, Nat.reduceAdd, Nat.reduceLT, Nat.reduceMul, Nat.reduceLeDiff, Int.reduceToNat, Int.reduceLT, Int.reduceLE, cF12]; rfl) rfl ?_
                rcases hr.ite with ⟨cF13, hr⟩ | ⟨cF13, hr⟩
                · refine p_run (l := [10, 11, 12, 13, 14, 15, 16, 17, 18, 19, 20, 21, 22, 23, 24, 25, 26, 27]) (pend' := [27, 26, 25, 24, 23, 22, 21, 20, 19, 18, 17, 16, 15, 14, 13, 12, 11, 10, 9, 8, 7, 6, 5, 4, 3, 2, 1, 0]) (by simp (disch := (apply Apart.mk; decide)) only [go_sem, Nat.reduceAdd, Nat.reduceLT, Nat.reduceMul, Nat.reduceLeDiff, Int.reduceToNat, Int.reduceLT, Int.reduceLE, cF12, cF13]; rfl) rfl ?_
                  refine p_end (by simp (disch := (apply Apart.mk; decide)) only [go_sem, Nat.reduceAdd, Nat.reduceLT, Nat.reduceMul, Nat.reduceLeDiff, Int.reduceToNat, Int.reduceLT, Int.reduceLE, cF12, cF13]) ?_
                  obtain rfl : _ = v1 := hr
                  exact w_k (A_cut hwf)
                · refine p_run (l := [10, 11, 12]) (pend' := [12, 11, 10, 9, 8, 7, 6, 5, 4, 3, 2, 1, 0]) (by simp (disch := (apply Apart.mk; decide)) only [go_sem, Nat.reduceAdd, Nat.reduceLT, Nat.reduceMul, Nat.reduceLeDiff, Int.reduceToNat, Int.reduceLT, Int.reduceLE, cF12, cF13]; rfl) rfl ?_
                  rcases hr.ite with ⟨cF14, hr⟩ | ⟨cF14, hr⟩
                  · obtain ⟨x1, nF15, eF16, gF17, hr⟩ := hr.idx
                    refine p_run (l := [13, 14, 15, 16, 17, 18, 19, 20, 21, 22, 23, 24, 25, 26, 27]) (pend' := [27, 26, 25, 24, 23, 22, 21, 20, 19, 18, 17, 16, 15, 14, 13, 12, 11, 10, 9, 8, 7, 6, 5, 4, 3, 2, 1, 0]) (by simp (disch := (apply Apart.mk; decide)) only [go_sem, Nat.reduceAdd, Nat.reduceLT, Nat.reduceMul, Nat.reduceLeDiff, Int.reduceToNat, Int.reduceLT, Int.reduceLE, cF12, cF13, cF14, nF5, eF6, gF7, nF15, eF16, gF17]; rfl) rfl ?_
                    refine p_end (by simp (disch := (apply Apart.mk; decide)) only [go_sem, Nat.reduceAdd, Nat.reduceLT, Nat.reduceMul, Nat.reduceLeDiff, Int.reduceToNat, Int.reduceLT, Int.reduceLE, cF12, cF13, cF14, nF5, eF6, gF7, nF15, eF16, gF17]) ?_
                    obtain rfl : _ = v1 := hr
                    exact w_k (A_cut hwf)
                  · refine p_run (l := [13, 14, 15, 16, 17, 18, 19, 20, 21, 22, 23, 24, 25, 26, 27]) (pend' := [27, 26, 25, 24, 23, 22, 21, 20, 19, 18, 17, 16, 15, 14, 13, 12, 11, 10, 9, 8, 7, 6, 5, 4, 3, 2, 1, 0]) (by simp (disch := (apply Apart.mk; decide)) only [go_sem, Nat.reduceAdd, Nat.reduceLT, Nat.reduceMul, Nat.reduceLeDiff, Int.reduceToNat, Int.reduceLT, Int.reduceLE, cF12, cF13, cF14]; rfl) rfl ?_
                    refine p_end (by simp (disch := (apply Apart.mk; decide)) only [go_sem, Nat.reduceAdd, Nat.reduceLT, Nat.reduceMul, Nat.reduceLeDiff, Int.reduceToNat, Int.reduceLT, Int.reduceLE, cF12, cF13, cF14]) ?_
                    obtain rfl : _ = v1 := hr
                    exact w_k (A_cut hwf)
            refine A_condH hr (fun cF19 hr => ?_) (fun cF19 hr => ?_)
            · refine w_seq ?_
              refine A_region ?_
              refine w_n ?_
              refine w_ret ?_
              obtain rfl := hD _ hr
              exact (w_br (w_tr (w_tr (w_br (w_br (w_tr (w_tr (w_tr (w_br (w_tr (w_tr (A_endR (A_cut (os' := []) (sl := [(2, .cv (.val (.bool false)))]) hwf) ⟨rfl, on_nil hwf⟩))))))))))))
            · refine w_skip ?_
              refine (w_bn (w_n ?_))
              refine A_region ?_
              exact (w_k ⟨(IntKind.i64.wrap (k + (1 : Int))), hr, (A_cut hwf)⟩)
          · refine w_exit ?_
            exact (w_te (w_te (w_bx (w_bn (w_k ⟨(), (hr).map, (A_cut hwf)⟩)))))
      · refine w_exit ?_
        exact (w_te (w_te (w_bx (w_k ⟨(), (hr).map, (A_cut hwf)⟩))))
end Go.Val

/- part GW33 -/
/- scansion/scansionref17.Count runs as it is read off. -/
namespace Go.Val
set_option linter.unusedVariables false
set_option linter.unusedSimpArgs false
set_option maxRecDepth 20000
open Go.Proofs
theorem scansionref17_Count_runs (g : TGraph) {h : Heap} {a : (List Int × Int)} (e : scansionref17_Count g = some a) :
    Runs CT 33 [.cv (.val (.agg [.sl (List.map eB g.Final), .sl (List.map (eL eEdge) g.Edges)]))] h fun o h' => o = [.cv (.val (.sl (List.map eI a.1))), .cv (.val (.int .i64 a.2))] ∧ h' = h := by
  refine Runs.start Try.f33 _ Try.func33 rfl (by rw [Try.ntmps33]; simp) (by rfl) (by rfl) (fun hwf hu => ?_)
  obtain ⟨D, hD, hr⟩ : ∃ D : (List Int × Int) → Prop, (∀ z, D z → z = a) ∧ Holds (scansionref17_Count g) D := ⟨fun z => z = a, fun _ h => h, Holds.intro e rfl⟩
  dsimp only [scansionref17_Count] at hr
  change wpCode _ _ _ _ _ ⟨[(0, .cv (.val (.agg [.sl (List.map eB g.Final), .sl (List.map (eL eEdge) g.Edges)])))], h.on []⟩
  refine w_seq ?_
  refine A_region ?_
  refine w_n ?_
  refine w_seq ?_
  refine A_ops ?_
  refine A_upto 1 ?_
  obtain ⟨r, eF1, hr⟩ := hr.bind
  refine A_call (out := ?o_eF1) (hp := ?p_eF1) ?c_eF1 ?d_eF1 ?_
  case c_eF1 => exact scansionref17_Right_runs g eF1
  case d_eF1 => rfl
  refine A_ops_end ?_
  refine w_n ?_
  refine w_seq ?_
  refine w_seq ?_
  refine A_region ?_
  refine w_n ?_
  refine A_condH hr (fun cF2 hr => ?_) (fun cF2 hr => ?_)
  · refine w_seq ?_
    refine A_region ?_
    refine w_n ?_
    refine w_ret ?_
    obtain rfl := hD _ hr
    exact (w_tr (A_endR (A_cut (os' := []) (sl := [(2, .cv (.val (.sl (List.map eI ([] : List Int))))), (3, .cv (.val (.int .i64 (1 : Int))))]) hwf) ⟨rfl, on_nil hwf⟩))
  · refine w_skip ?_
    refine w_n ?_
    refine w_seq ?_
    refine A_region ?_
    refine w_n ?_
    refine w_seq ?_
    refine w_seq ?_
    refine A_region ?_
    refine w_n ?_
    refine w_K (D := D) (fun xX : List Int => ⟨[(5, .cv (.row 3 (List.map eI xX)))], h.on []⟩) (fun xX : List Int => scansionref17_Count.k1 xX) (fun xX s' hr ht => ?_) ?_
    · obtain ⟨out, rfl⟩ : ∃ z, z = xX := ⟨xX, rfl⟩
      dsimp only [scansionref17_Count.k1] at hr ht
      refine (w_nT ht ?_)
      refine w_seq ?_
      refine A_region ?_
      refine w_n ?_
      refine w_ret ?_
      obtain rfl := hD _ hr
      exact (A_endR (.fix _ _ (.slot 2) 3 _ (by simp (disch := (apply Apart.mk; decide)) only [go_sem, Nat.reduceAdd, Nat.reduceLT, Nat.reduceMul, Nat.reduceLeDiff, Int.reduceToNat, Int.reduceLT, Int.reduceLE, cF2]; rfl) (A_cut (os' := []) (sl := [(2, .cv (.val (.sl (List.map eI out)))), (3, .cv (.val (.int .i64 (0 : Int))))]) hwf)) ⟨rfl, on_nil hwf⟩)
    · refine w_block ?_
      refine w_Loop (fun xX : (List Int × Int) => ⟨[(1, .cv (.val (.ptr (some (h.n + 0, 0))))), (5, .cv (.row 3 (List.map eI xX.1))), (6, .cv (.val (.int .i64 xX.2)))], h.on [some (.cells [.val (.sl (List.map eB g.Final)), .val (.sl (List.map (eL eEdge) g.Edges))])]⟩) hr (A_cut hwf) (fun W1 xX hr => ?_)
      obtain ⟨out1, s⟩ := xX
      dsimp only [scansionref17_Count.b1] at hr
      refine w_seq ?_
      refine w_seq ?_
      refine A_region ?_
      refine w_n ?_
      refine A_condH hr (fun cF3 hr => ?_) (fun cF3 hr => ?_)
      · refine w_skip ?_
        refine w_n ?_
        refine w_seq ?_
        refine w_K (D := (Aft W1 D)) (fun xX : List Int => ⟨[(1, .cv (.val (.ptr (some (h.n + 0, 0))))), (5, .cv (.row 3 (List.map eI xX))), (6, .cv (.val (.int .i64 s)))], h.on [some (.cells [.val (.sl (List.map eB g.Final)), .val (.sl (List.map (eL eEdge) g.Edges))])]⟩) (fun xX : List Int => scansionref17_Count.k2 s xX) (fun xX s' hr ht => ?_) ?_
        · obtain ⟨out2, rfl⟩ : ∃ z, z = xX := ⟨xX, rfl⟩
          dsimp only [scansionref17_Count.k2] at hr ht
          refine (w_nT ht ?_)
          refine A_region ?_
          exact (w_k ⟨(out2, (IntKind.i64.wrap (s + (1 : Int)))), hr, (A_cut hwf)⟩)
        · refine w_block ?_
          refine w_seq ?_
          refine A_region ?_
          refine w_n ?_
          refine w_seq ?_
          refine w_seq ?_
          obtain ⟨b, nF4, eF5, gF6, hr⟩ := hr.idx
          refine A_region ?_
          refine w_n ?_
          refine w_K (D := (Aft W1 D)) (fun xX : Int => ⟨[(1, .cv (.val (.ptr (some (h.n + 0, 0))))), (5, .cv (.row 3 (List.map eI out1))), (6, .cv (.val (.int .i64 s))), (7, .cv (.val (.int .i64 xX)))], h.on [some (.cells [.val (.sl (List.map eB g.Final)), .val (.sl (List.map (eL eEdge) g.Edges))])]⟩) (fun xX : Int => scansionref17_Count.k3 g out1 s xX) (fun xX s' hr ht => ?_) ?_
          · obtain ⟨n, rfl⟩ : ∃ z, z = xX := ⟨xX, rfl⟩
            dsimp only [scansionref17_Count.k3] at hr ht
            refine (w_nT ht ?_)
            refine w_seq ?_
            refine w_seq ?_
            refine A_region ?_
            refine w_n ?_
            refine w_K (D := (Aft W1 D)) (fun xX : Int => ⟨[(1, .cv (.val (.ptr (some (h.n + 0, 0))))), (5, .cv (.row 3 (List.map eI out1))), (6, .cv (.val (.int .i64 s))), (7, .cv (.val (.int .i64 xX)))], h.on [some (.cells [.val (.sl (List.map eB g.Final)), .val (.sl (List.map (eL eEdge) g.Edges))])]⟩) (fun xX : Int => scansionref17_Count.k4 out1 s xX) (fun xX s' hr ht => ?_) ?_
            · obtain ⟨n1, rfl⟩ : ∃ z, z = xX := ⟨xX, rfl⟩
              dsimp only [scansionref17_Count.k4] at hr ht
              refine (w_nT ht ?_)
              obtain ⟨nF7, hr⟩ := hr.room
              refine A_region ?_
              exact (w_bn (w_k ⟨(out1 ++ ([n1])), hr, (A_cut hwf)⟩))
            · refine w_block ?_
              refine w_Loop (fun xX : (Int × Int) => ⟨[(1, .cv (.val (.ptr (some (h.n + 0, 0))))), (5, .cv (.row 3 (List.map eI out1))), (6, .cv (.val (.int .i64 s))), (7, .cv (.val (.int .i64 xX.1))), (8, .cv (.val (.int .i64 xX.2)))], h.on [some (.cells [.val (.sl (List.map eB g.Final)), .val (.sl (List.map (eL eEdge) g.Edges))])]⟩) hr (A_cut hwf) (fun W2 xX hr => ?_)
              obtain ⟨n2, k⟩ := xX
              dsimp only [scansionref17_Count.b2] at hr
              refine w_seq ?_
              refine w_seq ?_
              obtain ⟨xs, nF8, eF9, gF10, hr⟩ := hr.idx
              refine A_region ?_
              refine w_n ?_
              refine A_condH hr (fun cF11 hr => ?_) (fun cF11 hr => ?_)
              · refine w_skip ?_
                refine w_n ?_
                refine w_seq ?_
                refine w_block ?_
                obtain ⟨x, nF12, eF13, gF14, hr⟩ := hr.idx
                obtain ⟨n3, nF15, eF16, gF17, hr⟩ := hr.idx
                refine A_region ?_
                refine (w_bn (w_n ?_))
                refine A_region ?_
                exact (w_k ⟨((mn (IntKind.i64.wrap (n2 + n3)) (1099511627776 : Int)), (IntKind.i64.wrap (k + (1 : Int)))), hr, (A_cut hwf)⟩)
              · refine w_exit ?_
                exact (w_te (w_te (w_bx (w_k ⟨n2, (hr).map, (A_cut hwf)⟩))))
          · refine A_condH hr (fun cF18 hr => ?_) (fun cF18 hr => ?_)
            · refine A_region ?_
              exact (w_k ⟨(1 : Int), hr, (A_cut hwf)⟩)
            · refine w_skip ?_
              exact (w_k ⟨(0 : Int), hr, (A_cut hwf)⟩)
      · refine w_exit ?_
        exact (w_te (w_te (w_bx (w_k ⟨out1, (hr).map, (A_cut hwf)⟩))))
end Go.Val

/- part GW59 -/
/- (*scansion/scansionref18.Array).Words runs as it is read off. -/
namespace Go.Val
set_option linter.unusedVariables false
set_option linter.unusedSimpArgs false
set_option maxRecDepth 20000
open Go.Proofs
theorem scansionref18_Array_Words_runs (a_ : Tscansionref18_Array) (l0 : Nat) {h : Heap} (ha0 : h.at_ l0 = some (.cells [.val (.sl (List.map eB a_.G.Final)), .val (.sl (List.map (eL eEdge) a_.G.Edges)), .val (.int .i64 a_.Cells)])) {a : Int} (e : scansionref18_Array_Words a_ = some a) :
    Runs CT 59 [.cv (.val (.ptr (some (l0, 0))))] h fun o h' => o = [.cv (.val (.int .i64 a))] ∧ h' = h := by
  refine Runs.start Try.f59 _ Try.func59 rfl (by rw [Try.ntmps59]; simp) (by rfl) (by rfl) (fun hwf hu => ?_)
  have hl0 := (hwf _ _ ha0).1
  have kl0 := locF hl0
  obtain ⟨D, hD, hr⟩ : ∃ D : Int → Prop, (∀ z, D z → z = a) ∧ Holds (scansionref18_Array_Words a_) D := ⟨fun z => z = a, fun _ h => h, Holds.intro e rfl⟩
  dsimp only [scansionref18_Array_Words] at hr
  change wpCode _ _ _ _ _ ⟨[(0, .cv (.val (.ptr (some (l0, 0)))))], h.on []⟩
  refine w_seq ?_
  refine A_region ?_
  refine w_n ?_
  refine w_seq ?_
  refine A_ops ?_
  refine A_upto 4 ?_
  obtain ⟨r, eF1, hr⟩ := hr.bind
  refine A_call (out := ?o_eF1) (hp := ?p_eF1) ?c_eF1 ?d_eF1 ?_
  case c_eF1 => exact scansionref17_Count_runs a_.G eF1
  case d_eF1 => rfl
  refine A_ops_end ?_
  refine w_n ?_
  refine w_seq ?_
  obtain ⟨n, nF2, eF3, gF4, hr⟩ := hr.idx
  refine A_region ?_
  refine w_n ?_
  refine w_ret ?_
  obtain rfl := hD _ hr
  exact (A_endR (A_cut (os' := []) (sl := [(2, .cv (.val (.int .i64 n)))]) hwf) ⟨rfl, on_nil hwf⟩)
end Go.Val

/- part GW55 -/
/- scansion/scansionref17.to runs as it is read off. -/
namespace Go.Val
set_option linter.unusedVariables false
set_option linter.unusedSimpArgs false
set_option maxRecDepth 20000
open Go.Proofs
theorem scansionref17_to_runs (g : TGraph) (s : Int) (b : UInt8) {h : Heap} {a : Int} (e : scansionref17_to g s b = some a) :
    Runs CT 55 [.cv (.val (.agg [.sl (List.map eB g.Final), .sl (List.map (eL eEdge) g.Edges)])), .cv (.val (.int .i64 s)), .cv (.val (.int .u8 (b.toNat : Int)))] h fun o h' => o = [.cv (.val (.int .i64 a))] ∧ h' = h := by
  refine Runs.start Try.f55 _ Try.func55 rfl (by rw [Try.ntmps55]; simp) (by rfl) (by rfl) (fun hwf hu => ?_)
  obtain ⟨D, hD, hr⟩ : ∃ D : Int → Prop, (∀ z, D z → z = a) ∧ Holds (scansionref17_to g s b) D := ⟨fun z => z = a, fun _ h => h, Holds.intro e rfl⟩
  dsimp only [scansionref17_to] at hr
  change wpCode _ _ _ _ _ ⟨[(0, .cv (.val (.agg [.sl (List.map eB g.Final), .sl (List.map (eL eEdge) g.Edges)]))), (1, .cv (.val (.int .i64 s))), (2, .cv (.val (.int .u8 (b.toNat : Int))))], h.on []⟩
  refine w_seq ?_
  refine A_region ?_
  refine w_n ?_
  refine w_seq ?_
  refine w_seq ?_
  refine A_region ?_
  refine w_n ?_
  refine w_K (D := D) (fun xX : Unit => ⟨[], h.on []⟩) (fun xX : Unit => scansionref17_to.k1) (fun xX s' hr ht => ?_) ?_
  · dsimp only [scansionref17_to.k1] at hr ht
    refine (w_nT ht ?_)
    refine w_seq ?_
    refine A_region ?_
    refine w_n ?_
    refine w_ret ?_
    obtain rfl := hD _ hr
    exact (A_endR (A_cut (os' := []) (sl := [(6, .cv (.val (.int .i64 (-1 : Int))))]) hwf) ⟨rfl, on_nil hwf⟩)
  · refine w_block ?_
    refine w_Loop (fun xX : Int => ⟨[(1, .cv (.val (.int .i64 s))), (2, .cv (.val (.int .u8 (b.toNat : Int)))), (3, .cv (.val (.ptr (some (h.n + 0, 0))))), (7, .cv (.val (.int .i64 xX)))], h.on [some (.cells [.val (.sl (List.map eB g.Final)), .val (.sl (List.map (eL eEdge) g.Edges))])]⟩) hr (A_cut hwf) (fun W1 xX hr => ?_)
    obtain ⟨k, rfl⟩ : ∃ z, z = xX := ⟨xX, rfl⟩
    dsimp only [scansionref17_to.b1] at hr
    refine w_seq ?_
    refine w_seq ?_
    obtain ⟨xs, nF1, eF2, gF3, hr⟩ := hr.idx
    refine A_region ?_
    refine w_n ?_
    refine A_condH hr (fun cF4 hr => ?_) (fun cF4 hr => ?_)
    · refine w_skip ?_
      refine w_n ?_
      refine w_seq ?_
      refine w_block ?_
      refine w_seq ?_
      obtain ⟨x, nF5, eF6, gF7, hr⟩ := hr.idx
      refine A_region ?_
      refine w_n ?_
      refine A_condH hr (fun cF8 hr => ?_) (fun cF8 hr => ?_)
      · refine w_seq ?_
        refine A_region ?_
        refine w_n ?_
        refine w_ret ?_
        obtain rfl := hD _ hr
        exact (w_br (w_tr (w_tr (w_br (w_tr (w_tr (A_endR (A_cut (os' := []) (sl := [(6, .cv (.val (.int .i64 x.To)))]) hwf) ⟨rfl, on_nil hwf⟩)))))))
      · refine w_skip ?_
        refine (w_bn (w_n ?_))
        refine A_region ?_
        exact (w_k ⟨(IntKind.i64.wrap (k + (1 : Int))), hr, (A_cut hwf)⟩)
    · refine w_exit ?_
      exact (w_te (w_te (w_bx (w_k ⟨(), (hr).map, (A_cut hwf)⟩))))
end Go.Val

/- part GW30 -/
/- scansion/scansionref17.Has runs as it is read off. -/
namespace Go.Val
set_option linter.unusedVariables false
set_option linter.unusedSimpArgs false
set_option maxRecDepth 20000
open Go.Proofs
theorem scansionref17_Has_runs (g : TGraph) (word : Str) {h : Heap} {a : Bool} (e : scansionref17_Has g word = some a) :
    Runs CT 30 [.cv (.val (.agg [.sl (List.map eB g.Final), .sl (List.map (eL eEdge) g.Edges)])), .cv (.val (.str (bs word)))] h fun o h' => o = [.cv (.val (.bool a))] ∧ h' = h := by
  refine Runs.start Try.f30 _ Try.func30 rfl (by rw [Try.ntmps30]; simp) (by rfl) (by rfl) (fun hwf hu => ?_)
  obtain ⟨D, hD, hr⟩ : ∃ D : Bool → Prop, (∀ z, D z → z = a) ∧ Holds (scansionref17_Has g word) D := ⟨fun z => z = a, fun _ h => h, Holds.intro e rfl⟩
  dsimp only [scansionref17_Has] at hr
  change wpCode _ _ _ _ _ ⟨[(0, .cv (.val (.agg [.sl (List.map eB g.Final), .sl (List.map (eL eEdge) g.Edges)]))), (1, .cv (.val (.str (bs word))))], h.on []⟩
  refine w_seq ?_
  refine A_region ?_
  refine w_n ?_
  refine w_seq ?_
  refine A_ops ?_
  refine A_upto 1 ?_
  obtain ⟨r, eF1, hr⟩ := hr.bind
  refine A_call (out := ?o_eF1) (hp := ?p_eF1) ?c_eF1 ?d_eF1 ?_
  case c_eF1 => exact scansionref17_Right_runs g eF1
  case d_eF1 => rfl
  refine A_ops_end ?_
  refine w_n ?_
  refine w_seq ?_
  refine w_seq ?_
  refine A_region ?_
  refine w_n ?_
  refine A_condH hr (fun cF2 hr => ?_) (fun cF2 hr => ?_)
  · refine w_seq ?_
    refine A_region ?_
    refine w_n ?_
    refine w_ret ?_
    obtain rfl := hD _ hr
    exact (w_tr (A_endR (A_cut (os' := []) (sl := [(4, .cv (.val (.bool false)))]) hwf) ⟨rfl, on_nil hwf⟩))
  · refine w_skip ?_
    refine w_n ?_
    refine w_seq ?_
    refine A_region ?_
    refine w_n ?_
    refine w_seq ?_
    refine w_seq ?_
    refine A_region ?_
    refine w_n ?_
    refine w_K (D := D) (fun xX : Int => ⟨[(2, .cv (.val (.ptr (some (h.n + 0, 0))))), (6, .cv (.val (.int .i64 xX)))], h.on [some (.cells [.val (.sl (List.map eB g.Final)), .val (.sl (List.map (eL eEdge) g.Edges))])]⟩) (fun xX : Int => scansionref17_Has.k1 g xX) (fun xX s' hr ht => ?_) ?_
    · obtain ⟨s, rfl⟩ : ∃ z, z = xX := ⟨xX, rfl⟩
      dsimp only [scansionref17_Has.k1] at hr ht
      refine (w_nT ht ?_)
      refine w_seq ?_
      obtain ⟨b, nF3, eF4, gF5, hr⟩ := hr.idx
      refine A_region ?_
      refine w_n ?_
      refine w_ret ?_
      obtain rfl := hD _ hr
      exact (A_endR (A_cut (os' := []) (sl := [(4, .cv (.val (.bool b)))]) hwf) ⟨rfl, on_nil hwf⟩)
    · refine w_block ?_
      refine w_Loop (fun xX : (Int × Int) => ⟨[(1, .cv (.val (.str (bs word)))), (2, .cv (.val (.ptr (some (h.n + 0, 0))))), (6, .cv (.val (.int .i64 xX.1))), (7, .cv (.val (.int .i64 xX.2)))], h.on [some (.cells [.val (.sl (List.map eB g.Final)), .val (.sl (List.map (eL eEdge) g.Edges))])]⟩) hr (A_cut hwf) (fun W1 xX hr => ?_)
      obtain ⟨s1, i⟩ := xX
      dsimp only [scansionref17_Has.b1] at hr
      refine w_seq ?_
      refine w_seq ?_
      refine A_region ?_
      refine w_n ?_
      refine A_condH hr (fun cF6 hr => ?_) (fun cF6 hr => ?_)
      · refine w_skip ?_
        refine w_n ?_
        refine w_seq ?_
        refine w_block ?_
        refine w_seq ?_
        refine w_drawn [0, 1, 2, 3, 4, 5, 6] (by rfl) ?_
        obtain ⟨c, nF7, eF8, gF9, hr⟩ := hr.idx
        refine p_run (l := [0, 1, 2, 3, 4]) (pend' := [4, 3, 2, 1, 0]) (by simp (disch := (apply Apart.mk; decide)) only [go_sem, Nat.reduceAdd, Nat.reduceLT, Nat.reduceMul, Nat.reduceLeDiff, Int.reduceToNat, Int.reduceLT, Int.reduceLE, nF7, eF8, gF9]; rfl) rfl ?_
        obtain ⟨r1, eF10, hr⟩ := hr.bind
        refine p_call (out := ?o_eF10) (hp := ?p_eF10) (pend' := []) rfl (by simp (disch := (apply Apart.mk; decide)) only [go_sem, Nat.reduceAdd, Nat.reduceLT, Nat.reduceMul, Nat.reduceLeDiff, Int.reduceToNat, Int.reduceLT, Int.reduceLE, Option.getD_some, nF7, eF8, gF9]) rfl (by simp (disch := (apply Apart.mk; decide)) only [go_sem, Nat.reduceAdd, Nat.reduceLT, Nat.reduceMul, Nat.reduceLeDiff, Int.reduceToNat, Int.reduceLT, Int.reduceLE, Option.getD_some, nF7, eF8, gF9]; rfl) (by simp (disch := (apply Apart.mk; decide)) only [go_sem, Nat.reduceAdd, Nat.reduceLT, Nat.reduceMul, Nat.reduceLeDiff, Int.reduceToNat, Int.reduceLT, Int.reduceLE, Option.getD_some, nF7, eF8, gF9]; rfl) (by simp (disch := (apply Apart.mk; decide)) only [go_sem, Nat.reduceAdd, Nat.reduceLT, Nat.reduceMul, Nat.reduceLeDiff, Int.reduceToNat, Int.reduceLT, Int.reduceLE, Option.getD_some, nF7, eF8, gF9]; rfl) (by rfl) ?c_eF10 ?d_eF10 ?_
        case c_eF10 => exact scansionref17_to_runs g s1 c eF10
        case d_eF10 => rfl
        refine p_op (pend' := []) rfl (by simp (disch := (apply Apart.mk; decide)) only [go_sem, Nat.reduceAdd, Nat.reduceLT, Nat.reduceMul, Nat.reduceLeDiff, Int.reduceToNat, Int.reduceLT, Int.reduceLE, nF7, eF8, gF9]) (by simp (disch := (apply Apart.mk; decide)) only [go_sem, Nat.reduceAdd, Nat.reduceLT, Nat.reduceMul, Nat.reduceLeDiff, Int.reduceToNat, Int.reduceLT, Int.reduceLE, nF7, eF8, gF9]; rfl) (by rfl) ?_
        refine p_end (by simp (disch := (apply Apart.mk; decide)) only [go_sem, Nat.reduceAdd, Nat.reduceLT, Nat.reduceMul, Nat.reduceLeDiff, Int.reduceToNat, Int.reduceLT, Int.reduceLE, nF7, eF8, gF9]) ?_
        refine w_n ?_
        refine w_seq ?_
        refine A_region ?_
        refine w_n ?_
        refine A_condH hr (fun cF11 hr => ?_) (fun cF11 hr => ?_)
        · refine w_seq ?_
          refine A_region ?_
          refine w_n ?_
          refine w_ret ?_
          obtain rfl := hD _ hr
          exact (w_br (w_tr (w_tr (w_br (w_tr (w_tr (A_endR (A_cut (os' := []) (sl := [(4, .cv (.val (.bool false)))]) hwf) ⟨rfl, on_nil hwf⟩)))))))
        · refine w_skip ?_
          refine (w_bn (w_n ?_))
          refine A_region ?_
          exact (w_k ⟨(r1, (IntKind.i64.wrap (i + (1 : Int)))), hr, (A_cut hwf)⟩)
      · refine w_exit ?_
        exact (w_te (w_te (w_bx (w_k ⟨s1, (hr).map, (A_cut hwf)⟩))))
end Go.Val

/- part GW58 -/
/- (*scansion/scansionref18.Array).Prefixes runs as it is read off. -/
namespace Go.Val
set_option linter.unusedVariables false
set_option linter.unusedSimpArgs false
set_option maxRecDepth 20000
open Go.Proofs
theorem scansionref18_Array_Prefixes_runs (a_ : Tscansionref18_Array) (b : List UInt8) (l0 : Nat) {h : Heap} (ha0 : h.at_ l0 = some (.cells [.val (.sl (List.map eB a_.G.Final)), .val (.sl (List.map (eL eEdge) a_.G.Edges)), .val (.int .i64 a_.Cells)])) {a : List Int} (e : scansionref18_Array_Prefixes a_ b = some a) :
    Runs CT 58 [.cv (.val (.ptr (some (l0, 0)))), .cv (.val (.sl (List.map eU b)))] h fun o h' => o = [.cv (.val (.sl (List.map eI a)))] ∧ h' = h := by
  refine Runs.start Try.f58 _ Try.func58 rfl (by rw [Try.ntmps58]; simp) (by rfl) (by rfl) (fun hwf hu => ?_)
  have hl0 := (hwf _ _ ha0).1
  have kl0 := locF hl0
  obtain ⟨D, hD, hr⟩ : ∃ D : List Int → Prop, (∀ z, D z → z = a) ∧ Holds (scansionref18_Array_Prefixes a_ b) D := ⟨fun z => z = a, fun _ h => h, Holds.intro e rfl⟩
  dsimp only [scansionref18_Array_Prefixes] at hr
  change wpCode _ _ _ _ _ ⟨[(0, .cv (.val (.ptr (some (l0, 0))))), (1, .cv (.val (.sl (List.map eU b))))], h.on []⟩
  refine w_seq ?_
  refine A_region ?_
  refine w_n ?_
  refine w_seq ?_
  refine A_region ?_
  refine w_n ?_
  refine w_seq ?_
  refine w_seq ?_
  refine A_region ?_
  refine w_n ?_
  refine w_K (D := D) (fun xX : List Int => ⟨[(5, .cv (.row 3 (List.map eI xX)))], h.on []⟩) (fun xX : List Int => scansionref18_Array_Prefixes.k1 xX) (fun xX s' hr ht => ?_) ?_
  · obtain ⟨out, rfl⟩ : ∃ z, z = xX := ⟨xX, rfl⟩
    dsimp only [scansionref18_Array_Prefixes.k1] at hr ht
    refine (w_nT ht ?_)
    refine w_seq ?_
    refine A_region ?_
    refine w_n ?_
    refine w_ret ?_
    obtain rfl := hD _ hr
    exact (A_endR (.fix _ _ (.slot 4) 3 _ (by simp (disch := (apply Apart.mk; decide)) only [go_sem, Nat.reduceAdd, Nat.reduceLT, Nat.reduceMul, Nat.reduceLeDiff, Int.reduceToNat, Int.reduceLT, Int.reduceLE, ha0, on_atB hl0, lt_add hl0, lt_at hl0]; rfl) (A_cut (os' := []) (sl := [(4, .cv (.val (.sl (List.map eI out))))]) hwf)) ⟨rfl, on_nil hwf⟩)
  · refine w_block ?_
    refine w_Loop (fun xX : (List Int × Int) => ⟨[(0, .cv (.val (.ptr (some (l0, 0))))), (1, .cv (.val (.sl (List.map eU b)))), (5, .cv (.row 3 (List.map eI xX.1))), (6, .cv (.val (.int .i64 xX.2)))], h.on []⟩) hr (A_cut hwf) (fun W1 xX hr => ?_)
    obtain ⟨out1, n⟩ := xX
    dsimp only [scansionref18_Array_Prefixes.b1] at hr
    refine w_seq ?_
    refine w_seq ?_
    refine A_region ?_
    refine w_n ?_
    refine A_condH hr (fun cF1 hr => ?_) (fun cF1 hr => ?_)
    · refine w_skip ?_
      refine w_n ?_
      refine w_seq ?_
      refine w_K (D := (Aft W1 D)) (fun xX : List Int => ⟨[(0, .cv (.val (.ptr (some (l0, 0))))), (1, .cv (.val (.sl (List.map eU b)))), (5, .cv (.row 3 (List.map eI xX))), (6, .cv (.val (.int .i64 n)))], h.on []⟩) (fun xX : List Int => scansionref18_Array_Prefixes.k2 n xX) (fun xX s' hr ht => ?_) ?_
      · obtain ⟨out2, rfl⟩ : ∃ z, z = xX := ⟨xX, rfl⟩
        dsimp only [scansionref18_Array_Prefixes.k2] at hr ht
        refine (w_nT ht ?_)
        refine A_region ?_
        exact (w_k ⟨(out2, (IntKind.i64.wrap (n + (1 : Int)))), hr, (A_cut hwf)⟩)
      · refine w_block ?_
        refine w_seq ?_
        refine w_drawn [0, 1, 2, 3, 4, 5, 6, 7, 8, 9] (by rfl) ?_
        obtain ⟨nF2, nF3, hr⟩ := hr.cutH
        refine p_run (l := [0, 1, 2, 3, 4, 5, 6, 7]) (pend' := [7, 6, 5, 4, 3, 2, 1, 0]) (by simp (disch := (apply Apart.mk; decide)) only [go_sem, Nat.reduceAdd, Nat.reduceLT, Nat.reduceMul, Nat.reduceLeDiff, Int.reduceToNat, Int.reduceLT, Int.reduceLE, ha0, on_atB hl0, lt_add hl0, lt_at hl0, nF2, nF3]; rfl) rfl ?_
        obtain ⟨r, eF4, hr⟩ := hr.bind
        refine p_call (out := ?o_eF4) (hp := ?p_eF4) (pend' := []) rfl (by simp (disch := (apply Apart.mk; decide)) only [go_sem, Nat.reduceAdd, Nat.reduceLT, Nat.reduceMul, Nat.reduceLeDiff, Int.reduceToNat, Int.reduceLT, Int.reduceLE, ha0, on_atB hl0, lt_add hl0, lt_at hl0, Option.getD_some, nF2, nF3]) rfl (by simp (disch := (apply Apart.mk; decide)) only [go_sem, Nat.reduceAdd, Nat.reduceLT, Nat.reduceMul, Nat.reduceLeDiff, Int.reduceToNat, Int.reduceLT, Int.reduceLE, ha0, on_atB hl0, lt_add hl0, lt_at hl0, Option.getD_some, nF2, nF3]; rfl) (by simp (disch := (apply Apart.mk; decide)) only [go_sem, Nat.reduceAdd, Nat.reduceLT, Nat.reduceMul, Nat.reduceLeDiff, Int.reduceToNat, Int.reduceLT, Int.reduceLE, ha0, on_atB hl0, lt_add hl0, lt_at hl0, Option.getD_some, nF2, nF3]; rfl) (by simp (disch := (apply Apart.mk; decide)) only [go_sem, Nat.reduceAdd, Nat.reduceLT, Nat.reduceMul, Nat.reduceLeDiff, Int.reduceToNat, Int.reduceLT, Int.reduceLE, ha0, on_atB hl0, lt_add hl0, lt_at hl0, Option.getD_some, nF2, nF3]; rfl) (by rfl) ?c_eF4 ?d_eF4 ?_
        case c_eF4 => exact scansionref17_Has_runs a_.G (List.take (Int.toNat n) b) eF4
        case d_eF4 => rfl
        refine p_op (pend' := []) rfl (by simp (disch := (apply Apart.mk; decide)) only [go_sem, Nat.reduceAdd, Nat.reduceLT, Nat.reduceMul, Nat.reduceLeDiff, Int.reduceToNat, Int.reduceLT, Int.reduceLE, ha0, on_atB hl0, lt_add hl0, lt_at hl0, nF2, nF3]) (by simp (disch := (apply Apart.mk; decide)) only [go_sem, Nat.reduceAdd, Nat.reduceLT, Nat.reduceMul, Nat.reduceLeDiff, Int.reduceToNat, Int.reduceLT, Int.reduceLE, ha0, on_atB hl0, lt_add hl0, lt_at hl0, nF2, nF3]; rfl) (by rfl) ?_
        refine p_end (by simp (disch := (apply Apart.mk; decide)) only [go_sem, Nat.reduceAdd, Nat.reduceLT, Nat.reduceMul, Nat.reduceLeDiff, Int.reduceToNat, Int.reduceLT, Int.reduceLE, ha0, on_atB hl0, lt_add hl0, lt_at hl0, nF2, nF3]) ?_
        refine w_n ?_
        refine w_seq ?_
        refine A_region ?_
        refine w_n ?_
        refine A_condH hr (fun cF5 hr => ?_) (fun cF5 hr => ?_)
        · obtain ⟨nF6, hr⟩ := hr.room
          refine A_region ?_
          exact (w_bn (w_k ⟨(out1 ++ ([n])), hr, (A_cut hwf)⟩))
        · refine w_skip ?_
          exact (w_bn (w_k ⟨out1, hr, (A_cut hwf)⟩))
    · refine w_exit ?_
      exact (w_te (w_te (w_bx (w_k ⟨out1, (hr).map, (A_cut hwf)⟩))))
end Go.Val

/- part GW37 -/
/- scansion/scansionref17.Number runs as it is read off. -/
namespace Go.Val
set_option linter.unusedVariables false
set_option linter.unusedSimpArgs false
set_option maxRecDepth 20000
open Go.Proofs
theorem scansionref17_Number_runs (g : TGraph) (word : Str) {h : Heap} {a : (Int × Int)} (e : scansionref17_Number g word = some a) :
    Runs CT 37 [.cv (.val (.agg [.sl (List.map eB g.Final), .sl (List.map (eL eEdge) g.Edges)])), .cv (.val (.str (bs word)))] h fun o h' => o = [.cv (.val (.int .i64 a.1)), .cv (.val (.int .i64 a.2))] ∧ h' = h := by
  refine Runs.start Try.f37 _ Try.func37 rfl (by rw [Try.ntmps37]; simp) (by rfl) (by rfl) (fun hwf hu => ?_)
  obtain ⟨D, hD, hr⟩ : ∃ D : (Int × Int) → Prop, (∀ z, D z → z = a) ∧ Holds (scansionref17_Number g word) D := ⟨fun z => z = a, fun _ h => h, Holds.intro e rfl⟩
  dsimp only [scansionref17_Number] at hr
  change wpCode _ _ _ _ _ ⟨[(0, .cv (.val (.agg [.sl (List.map eB g.Final), .sl (List.map (eL eEdge) g.Edges)]))), (1, .cv (.val (.str (bs word))))], h.on []⟩
  refine w_seq ?_
  refine A_region ?_
  refine w_n ?_
  refine w_seq ?_
  refine A_ops ?_
  refine A_upto 1 ?_
  obtain ⟨r, eF1, hr⟩ := hr.bind
  refine A_call (out := ?o_eF1) (hp := ?p_eF1) ?c_eF1 ?d_eF1 ?_
  case c_eF1 => exact scansionref17_Count_runs g eF1
  case d_eF1 => rfl
  refine A_ops_end ?_
  refine w_n ?_
  refine w_seq ?_
  refine w_seq ?_
  refine A_region ?_
  refine w_n ?_
  refine A_condH hr (fun cF2 hr => ?_) (fun cF2 hr => ?_)
  · refine w_seq ?_
    refine A_region ?_
    refine w_n ?_
    refine w_ret ?_
    obtain rfl := hD _ hr
    exact (w_tr (A_endR (A_cut (os' := []) (sl := [(4, .cv (.val (.int .i64 (0 : Int)))), (5, .cv (.val (.int .i64 r.2)))]) hwf) ⟨rfl, on_nil hwf⟩))
  · refine w_skip ?_
    refine w_n ?_
    refine w_seq ?_
    refine A_ops ?_
    refine A_upto 2 ?_
    obtain ⟨r1, eF3, hr⟩ := hr.bind
    refine A_call (out := ?o_eF3) (hp := ?p_eF3) ?c_eF3 ?d_eF3 ?_
    case c_eF3 => exact scansionref17_Has_runs g word eF3
    case d_eF3 => rfl
    refine A_ops_end ?_
    refine w_n ?_
    refine w_seq ?_
    refine w_seq ?_
    refine A_region ?_
    refine w_n ?_
    refine A_condH hr (fun cF4 hr => ?_) (fun cF4 hr => ?_)
    · refine w_seq ?_
      refine A_region ?_
      refine w_n ?_
      refine w_ret ?_
      obtain rfl := hD _ hr
      exact (w_tr (A_endR (A_cut (os' := []) (sl := [(4, .cv (.val (.int .i64 (0 : Int)))), (5, .cv (.val (.int .i64 (4 : Int))))]) hwf) ⟨rfl, on_nil hwf⟩))
    · refine w_skip ?_
      refine w_n ?_
      refine w_seq ?_
      refine A_region ?_
      refine w_n ?_
      refine w_seq ?_
      refine A_region ?_
      refine w_n ?_
      refine w_seq ?_
      refine w_seq ?_
      refine A_region ?_
      refine w_n ?_
      refine w_K (D := D) (fun xX : Int => ⟨[(9, .cv (.val (.int .i64 xX)))], h.on []⟩) (fun xX : Int => scansionref17_Number.k1 xX) (fun xX s' hr ht => ?_) ?_
      · obtain ⟨n, rfl⟩ : ∃ z, z = xX := ⟨xX, rfl⟩
        dsimp only [scansionref17_Number.k1] at hr ht
        refine (w_nT ht ?_)
        refine w_seq ?_
        refine A_region ?_
        refine w_n ?_
        refine w_ret ?_
        obtain rfl := hD _ hr
        exact (A_endR (A_cut (os' := []) (sl := [(4, .cv (.val (.int .i64 (mn n (1099511627776 : Int))))), (5, .cv (.val (.int .i64 (0 : Int))))]) hwf) ⟨rfl, on_nil hwf⟩)
      · refine w_block ?_
        refine w_Loop (fun xX : (Int × Int × Int) => ⟨[(1, .cv (.val (.str (bs word)))), (2, .cv (.val (.ptr (some (h.n + 0, 0))))), (6, .cv (.val (.sl (List.map eI r.1)))), (9, .cv (.val (.int .i64 xX.1))), (10, .cv (.val (.int .i64 xX.2.1))), (11, .cv (.val (.int .i64 xX.2.2)))], h.on [some (.cells [.val (.sl (List.map eB g.Final)), .val (.sl (List.map (eL eEdge) g.Edges))])]⟩) hr (A_cut hwf) (fun W1 xX hr => ?_)
        obtain ⟨n1, s, i⟩ := xX
        dsimp only [scansionref17_Number.b1] at hr
        refine w_seq ?_
        refine w_seq ?_
        refine A_region ?_
        refine w_n ?_
        refine A_condH hr (fun cF5 hr => ?_) (fun cF5 hr => ?_)
        · refine w_skip ?_
          refine w_n ?_
          refine w_seq ?_
          refine w_K (D := (Aft W1 D)) (fun xX : (Int × Int) => ⟨[(1, .cv (.val (.str (bs word)))), (2, .cv (.val (.ptr (some (h.n + 0, 0))))), (6, .cv (.val (.sl (List.map eI r.1)))), (9, .cv (.val (.int .i64 xX.1))), (10, .cv (.val (.int .i64 xX.2))), (11, .cv (.val (.int .i64 i)))], h.on [some (.cells [.val (.sl (List.map eB g.Final)), .val (.sl (List.map (eL eEdge) g.Edges))])]⟩) (fun xX : (Int × Int) => scansionref17_Number.k2 i xX.1 xX.2) (fun xX s' hr ht => ?_) ?_
          · obtain ⟨n2, s1⟩ := xX
            dsimp only [scansionref17_Number.k2] at hr ht
            refine (w_nT ht ?_)
            refine A_region ?_
            exact (w_k ⟨(n2, s1, (IntKind.i64.wrap (i + (1 : Int)))), hr, (A_cut hwf)⟩)
          · refine w_block ?_
            refine w_seq ?_
            refine w_seq ?_
            obtain ⟨b, nF6, eF7, gF8, hr⟩ := hr.idx
            refine A_region ?_
            refine w_n ?_
            refine w_K (D := (Aft W1 D)) (fun xX : Int => ⟨[(1, .cv (.val (.str (bs word)))), (2, .cv (.val (.ptr (some (h.n + 0, 0))))), (6, .cv (.val (.sl (List.map eI r.1)))), (9, .cv (.val (.int .i64 xX))), (10, .cv (.val (.int .i64 s))), (11, .cv (.val (.int .i64 i)))], h.on [some (.cells [.val (.sl (List.map eB g.Final)), .val (.sl (List.map (eL eEdge) g.Edges))])]⟩) (fun xX : Int => scansionref17_Number.k3 g word r s i xX) (fun xX s' hr ht => ?_) ?_
            · obtain ⟨n3, rfl⟩ : ∃ z, z = xX := ⟨xX, rfl⟩
              dsimp only [scansionref17_Number.k3] at hr ht
              refine (w_nT ht ?_)
              refine w_seq ?_
              refine w_seq ?_
              refine A_region ?_
              refine w_n ?_
              refine w_K (D := (Aft W1 D)) (fun xX : Int => ⟨[(1, .cv (.val (.str (bs word)))), (2, .cv (.val (.ptr (some (h.n + 0, 0))))), (6, .cv (.val (.sl (List.map eI r.1)))), (9, .cv (.val (.int .i64 xX))), (10, .cv (.val (.int .i64 s))), (11, .cv (.val (.int .i64 i)))], h.on [some (.cells [.val (.sl (List.map eB g.Final)), .val (.sl (List.map (eL eEdge) g.Edges))])]⟩) (fun xX : Int => scansionref17_Number.k4 g word s i xX) (fun xX s' hr ht => ?_) ?_
              · obtain ⟨n4, rfl⟩ : ∃ z, z = xX := ⟨xX, rfl⟩
                dsimp only [scansionref17_Number.k4] at hr ht
                refine (w_nT ht ?_)
                refine w_drawn [0, 1, 2, 3, 4, 5, 6] (by rfl) ?_
                obtain ⟨c, nF9, eF10, gF11, hr⟩ := hr.idx
                refine p_run (l := [0, 1, 2, 3, 4]) (pend' := [4, 3, 2, 1, 0]) (by simp (disch := (apply Apart.mk; decide)) only [go_sem, Nat.reduceAdd, Nat.reduceLT, Nat.reduceMul, Nat.reduceLeDiff, Int.reduceToNat, Int.reduceLT, Int.reduceLE, nF9, eF10, gF11]; rfl) rfl ?_
                obtain ⟨r2, eF12, hr⟩ := hr.bind
                refine p_call (out := ?o_eF12) (hp := ?p_eF12) (pend' := []) rfl (by simp (disch := (apply Apart.mk; decide)) only [go_sem, Nat.reduceAdd, Nat.reduceLT, Nat.reduceMul, Nat.reduceLeDiff, Int.reduceToNat, Int.reduceLT, Int.reduceLE, Option.getD_some, nF9, eF10, gF11]) rfl (by simp (disch := (apply Apart.mk; decide)) only [go_sem, Nat.reduceAdd, Nat.reduceLT, Nat.reduceMul, Nat.reduceLeDiff, Int.reduceToNat, Int.reduceLT, Int.reduceLE, Option.getD_some, nF9, eF10, gF11]; rfl) (by simp (disch := (apply Apart.mk; decide)) only [go_sem, Nat.reduceAdd, Nat.reduceLT, Nat.reduceMul, Nat.reduceLeDiff, Int.reduceToNat, Int.reduceLT, Int.reduceLE, Option.getD_some, nF9, eF10, gF11]; rfl) (by simp (disch := (apply Apart.mk; decide)) only [go_sem, Nat.reduceAdd, Nat.reduceLT, Nat.reduceMul, Nat.reduceLeDiff, Int.reduceToNat, Int.reduceLT, Int.reduceLE, Option.getD_some, nF9, eF10, gF11]; rfl) (by rfl) ?c_eF12 ?d_eF12 ?_
                case c_eF12 => exact scansionref17_to_runs g s c eF12
                case d_eF12 => rfl
                refine p_op (pend' := []) rfl (by simp (disch := (apply Apart.mk; decide)) only [go_sem, Nat.reduceAdd, Nat.reduceLT, Nat.reduceMul, Nat.reduceLeDiff, Int.reduceToNat, Int.reduceLT, Int.reduceLE, nF9, eF10, gF11]) (by simp (disch := (apply Apart.mk; decide)) only [go_sem, Nat.reduceAdd, Nat.reduceLT, Nat.reduceMul, Nat.reduceLeDiff, Int.reduceToNat, Int.reduceLT, Int.reduceLE, nF9, eF10, gF11]; rfl) (by rfl) ?_
                refine p_end (by simp (disch := (apply Apart.mk; decide)) only [go_sem, Nat.reduceAdd, Nat.reduceLT, Nat.reduceMul, Nat.reduceLeDiff, Int.reduceToNat, Int.reduceLT, Int.reduceLE, nF9, eF10, gF11]) ?_
                exact (w_bn (w_k ⟨(n4, r2), hr, (A_cut hwf)⟩))
              · refine w_block ?_
                refine w_Loop (fun xX : (Int × Int) => ⟨[(1, .cv (.val (.str (bs word)))), (2, .cv (.val (.ptr (some (h.n + 0, 0))))), (6, .cv (.val (.sl (List.map eI r.1)))), (9, .cv (.val (.int .i64 xX.1))), (10, .cv (.val (.int .i64 s))), (11, .cv (.val (.int .i64 i))), (12, .cv (.val (.int .i64 xX.2)))], h.on [some (.cells [.val (.sl (List.map eB g.Final)), .val (.sl (List.map (eL eEdge) g.Edges))])]⟩) hr (A_cut hwf) (fun W2 xX hr => ?_)
                obtain ⟨n5, k⟩ := xX
                dsimp only [scansionref17_Number.b2] at hr
                refine w_seq ?_
                obtain ⟨v, vF23, hr⟩ := hr.bind
                refine w_joinR (sj := ⟨[(1, .cv (.val (.str (bs word)))), (2, .cv (.val (.ptr (some (h.n + 0, 0))))), (6, .cv (.val (.sl (List.map eI r.1)))), (9, .cv (.val (.int .i64 n5))), (10, .cv (.val (.int .i64 s))), (11, .cv (.val (.int .i64 i))), (12, .cv (.val (.int .i64 k))), (65, .cv (.val (.bool v)))], h.on [some (.cells [.val (.sl (List.map eB g.Final)), .val (.sl (List.map (eL eEdge) g.Edges))])]⟩) (w_drawn [0, 1, 2, 3, 4, 5, 6, 7, 8, 9, 10, 11, 12, 13, 14, 15, 16, 17, 18, 19, 20, 21, 22] (by rfl) ?_) ?_
                · have hr := Holds.intro (D := fun z => z = v) vF23 rfl
                  obtain ⟨xs, nF13, eF14, gF15, hr⟩ := hr.idx
                  refine p_run (l := [0, 1, 2, 3, 4, 5, 6, 7, 8]) (pend' := [8, 7, 6, 5, 4, 3, 2, 1, 0]) (by simp (disch := (apply Apart.mk; decide)) only [go_sem, Nat.reduceAdd, Nat.reduceLT, Nat.reduceMul, Nat.reduceLeDiff, Int.reduceToNat, Int.reduceLT, Int.reduceLE, nF13, eF14, gF15]; rfl) rfl ?_
                  rcases hr.ite with ⟨cF16, hr⟩ | ⟨cF16, hr⟩
                  · obtain ⟨x, nF17, eF18, gF19, hr⟩ := hr.idx
                    obtain ⟨c1, nF20, eF21, gF22, hr⟩ := hr.idx
                    refine p_run (l := [9, 10, 11, 12, 13, 14, 15, 16, 17, 18, 19, 20, 21, 22]) (pend' := [22, 21, 20, 19, 18, 17, 16, 15, 14, 13, 12, 11, 10, 9, 8, 7, 6, 5, 4, 3, 2, 1, 0]) (by simp (disch := (apply Apart.mk; decide)) only [go_sem, Nat.reduceAdd, Nat.reduceLT, Nat.reduceMul, Nat.reduceLeDiff, Int.reduceToNat, Int.reduceLT, Int.reduceLE, nF13, eF14, gF15, cF16, nF17, eF18, gF19, nF20, eF21, gF22]; rfl) rfl ?_
                    refine p_end (by simp (disch := (apply Apart.mk; decide)) only [go_sem, Nat.reduceAdd, Nat.reduceLT, Nat.reduceMul, Nat.reduceLeDiff, Int.reduceToNat, Int.reduceLT, Int.reduceLE, nF13, eF14, gF15, cF16, nF13, eF14, gF15, nF17, eF18, gF19, nF20, eF21, gF22]) ?_
                    obtain rfl : _ = v := hr
                    exact w_k (A_cut hwf)
                  · refine p_run (l := [9, 10, 11, 12, 13, 14, 15, 16, 17, 18, 19, 20, 21, 22]) (pend' := [22, 21, 20, 19, 18, 17, 16, 15, 14, 13, 12, 11, 10, 9, 8, 7, 6, 5, 4, 3, 2, 1, 0]) (by simp (disch := (apply Apart.mk; decide)) only [go_sem, Nat.reduceAdd, Nat.reduceLT, Nat.reduceMul, Nat.reduceLeDiff, Int.reduceToNat, Int.reduceLT, Int.reduceLE, nF13, eF14, gF15, cF16]; rfl) rfl ?_
                    refine p_end (by simp (disch := (apply Apart.mk; decide)) only [go_sem, Nat.reduceAdd, Nat.reduceLT, Nat.reduceMul, Nat.reduceLeDiff, Int.reduceToNat, Int.reduceLT, Int.reduceLE, nF13, eF14, gF15, cF16]) ?_
                    obtain rfl : _ = v := hr
                    exact w_k (A_cut hwf)
                refine A_condH hr (fun cF24 hr => ?_) (fun cF24 hr => ?_)
                · refine w_skip ?_
                  refine w_n ?_
                  refine w_seq ?_
                  refine w_block ?_
                  obtain ⟨xs1, nF25, eF26, gF27, hr⟩ := hr.idx
                  obtain ⟨x1, nF28, eF29, gF30, hr⟩ := hr.idx
                  obtain ⟨n6, nF31, eF32, gF33, hr⟩ := hr.idx
                  refine A_region ?_
                  refine (w_bn (w_n ?_))
                  refine A_region ?_
                  exact (w_k ⟨((IntKind.i64.wrap (n5 + n6)), (IntKind.i64.wrap (k + (1 : Int)))), hr, (A_cut hwf)⟩)
                · refine w_exit ?_
                  exact (w_te (w_te (w_bx (w_k ⟨n5, (hr).map, (A_cut hwf)⟩))))
            · refine A_condH hr (fun cF34 hr => ?_) (fun cF34 hr => ?_)
              · refine A_region ?_
                exact (w_k ⟨(IntKind.i64.wrap (n1 + (1 : Int))), hr, (A_cut hwf)⟩)
              · refine w_skip ?_
                exact (w_k ⟨n1, hr, (A_cut hwf)⟩)
        · refine w_exit ?_
          exact (w_te (w_te (w_bx (w_k ⟨n1, (hr).map, (A_cut hwf)⟩))))
end Go.Val

/- part GW61 -/
/- (*scansion/scansionref18.Array).Number runs as it is read off. -/
namespace Go.Val
set_option linter.unusedVariables false
set_option linter.unusedSimpArgs false
set_option maxRecDepth 20000
open Go.Proofs
theorem scansionref18_Array_Number_runs (a_ : Tscansionref18_Array) (word : List UInt8) (l0 : Nat) {h : Heap} (ha0 : h.at_ l0 = some (.cells [.val (.sl (List.map eB a_.G.Final)), .val (.sl (List.map (eL eEdge) a_.G.Edges)), .val (.int .i64 a_.Cells)])) {a : (Int × Bool)} (e : scansionref18_Array_Number a_ word = some a) :
    Runs CT 61 [.cv (.val (.ptr (some (l0, 0)))), .cv (.val (.sl (List.map eU word)))] h fun o h' => o = [.cv (.val (.int .i64 a.1)), .cv (.val (.bool a.2))] ∧ h' = h := by
  refine Runs.start Try.f61 _ Try.func61 rfl (by rw [Try.ntmps61]; simp) (by rfl) (by rfl) (fun hwf hu => ?_)
  have hl0 := (hwf _ _ ha0).1
  have kl0 := locF hl0
  obtain ⟨D, hD, hr⟩ : ∃ D : (Int × Bool) → Prop, (∀ z, D z → z = a) ∧ Holds (scansionref18_Array_Number a_ word) D := ⟨fun z => z = a, fun _ h => h, Holds.intro e rfl⟩
  dsimp only [scansionref18_Array_Number] at hr
  change wpCode _ _ _ _ _ ⟨[(0, .cv (.val (.ptr (some (l0, 0))))), (1, .cv (.val (.sl (List.map eU word))))], h.on []⟩
  refine w_seq ?_
  refine A_region ?_
  refine w_n ?_
  refine w_seq ?_
  refine w_drawn [0, 1, 2, 3, 4, 5, 6, 7, 8, 9, 10, 11] (by rfl) ?_
  refine p_run (l := [0, 1, 2, 3, 4, 5]) (pend' := [5, 4, 3, 2, 1, 0]) (by simp (disch := (apply Apart.mk; decide)) only [go_sem, Nat.reduceAdd, Nat.reduceLT, Nat.reduceMul, Nat.reduceLeDiff, Int.reduceToNat, Int.reduceLT, Int.reduceLE, ha0, on_atB hl0, lt_add hl0, lt_at hl0]; rfl) rfl ?_
  obtain ⟨r, eF1, hr⟩ := hr.bind
  refine p_call (out := ?o_eF1) (hp := ?p_eF1) (pend' := []) rfl (by simp (disch := (apply Apart.mk; decide)) only [go_sem, Nat.reduceAdd, Nat.reduceLT, Nat.reduceMul, Nat.reduceLeDiff, Int.reduceToNat, Int.reduceLT, Int.reduceLE, ha0, on_atB hl0, lt_add hl0, lt_at hl0, Option.getD_some]) rfl (by simp (disch := (apply Apart.mk; decide)) only [go_sem, Nat.reduceAdd, Nat.reduceLT, Nat.reduceMul, Nat.reduceLeDiff, Int.reduceToNat, Int.reduceLT, Int.reduceLE, ha0, on_atB hl0, lt_add hl0, lt_at hl0, Option.getD_some]; rfl) (by simp (disch := (apply Apart.mk; decide)) only [go_sem, Nat.reduceAdd, Nat.reduceLT, Nat.reduceMul, Nat.reduceLeDiff, Int.reduceToNat, Int.reduceLT, Int.reduceLE, ha0, on_atB hl0, lt_add hl0, lt_at hl0, Option.getD_some]; rfl) (by simp (disch := (apply Apart.mk; decide)) only [go_sem, Nat.reduceAdd, Nat.reduceLT, Nat.reduceMul, Nat.reduceLeDiff, Int.reduceToNat, Int.reduceLT, Int.reduceLE, ha0, on_atB hl0, lt_add hl0, lt_at hl0, Option.getD_some]; rfl) (by rfl) ?c_eF1 ?d_eF1 ?_
  case c_eF1 => exact scansionref17_Number_runs a_.G word eF1
  case d_eF1 => rfl
  refine p_run (l := [7, 8, 9]) (pend' := [9, 8, 7]) (by simp (disch := (apply Apart.mk; decide)) only [go_sem, Nat.reduceAdd, Nat.reduceLT, Nat.reduceMul, Nat.reduceLeDiff, Int.reduceToNat, Int.reduceLT, Int.reduceLE, ha0, on_atB hl0, lt_add hl0, lt_at hl0]; rfl) rfl ?_
  refine p_op (pend' := [9]) rfl (by simp (disch := (apply Apart.mk; decide)) only [go_sem, Nat.reduceAdd, Nat.reduceLT, Nat.reduceMul, Nat.reduceLeDiff, Int.reduceToNat, Int.reduceLT, Int.reduceLE, ha0, on_atB hl0, lt_add hl0, lt_at hl0]) (by simp (disch := (apply Apart.mk; decide)) only [go_sem, Nat.reduceAdd, Nat.reduceLT, Nat.reduceMul, Nat.reduceLeDiff, Int.reduceToNat, Int.reduceLT, Int.reduceLE, ha0, on_atB hl0, lt_add hl0, lt_at hl0]; rfl) (by rfl) ?_
  refine p_op (pend' := []) rfl (by simp (disch := (apply Apart.mk; decide)) only [go_sem, Nat.reduceAdd, Nat.reduceLT, Nat.reduceMul, Nat.reduceLeDiff, Int.reduceToNat, Int.reduceLT, Int.reduceLE, ha0, on_atB hl0, lt_add hl0, lt_at hl0]) (by simp (disch := (apply Apart.mk; decide)) only [go_sem, Nat.reduceAdd, Nat.reduceLT, Nat.reduceMul, Nat.reduceLeDiff, Int.reduceToNat, Int.reduceLT, Int.reduceLE, ha0, on_atB hl0, lt_add hl0, lt_at hl0]; rfl) (by rfl) ?_
  refine p_end (by simp (disch := (apply Apart.mk; decide)) only [go_sem, Nat.reduceAdd, Nat.reduceLT, Nat.reduceMul, Nat.reduceLeDiff, Int.reduceToNat, Int.reduceLT, Int.reduceLE, ha0, on_atB hl0, lt_add hl0, lt_at hl0]) ?_
  refine w_n ?_
  refine w_seq ?_
  refine A_region ?_
  refine w_n ?_
  refine w_ret ?_
  obtain rfl := hD _ hr
  exact (A_endR (A_cut (os' := []) (sl := [(4, .cv (.val (.int .i64 r.1))), (5, .cv (.val (.bool (r.2 == (0 : Int)))))]) hwf) ⟨rfl, on_nil hwf⟩)
end Go.Val

/- part GW39 -/
/- scansion/scansionref17.Word runs as it is read off. -/
namespace Go.Val
set_option linter.unusedVariables false
set_option linter.unusedSimpArgs false
set_option maxRecDepth 20000
open Go.Proofs
theorem scansionref17_Word_runs (g : TGraph) (n : Int) {h : Heap} {a : (Str × Int)} (e : scansionref17_Word g n = some a) :
    Runs CT 39 [.cv (.val (.agg [.sl (List.map eB g.Final), .sl (List.map (eL eEdge) g.Edges)])), .cv (.val (.int .i64 n))] h fun o h' => o = [.cv (.val (.str (bs a.1))), .cv (.val (.int .i64 a.2))] ∧ h' = h := by
  refine Runs.start Try.f39 _ Try.func39 rfl (by rw [Try.ntmps39]; simp) (by rfl) (by rfl) (fun hwf hu => ?_)
  obtain ⟨D, hD, hr⟩ : ∃ D : (Str × Int) → Prop, (∀ z, D z → z = a) ∧ Holds (scansionref17_Word g n) D := ⟨fun z => z = a, fun _ h => h, Holds.intro e rfl⟩
  dsimp only [scansionref17_Word] at hr
  change wpCode _ _ _ _ _ ⟨[(0, .cv (.val (.agg [.sl (List.map eB g.Final), .sl (List.map (eL eEdge) g.Edges)]))), (1, .cv (.val (.int .i64 n)))], h.on []⟩
  refine w_seq ?_
  refine A_region ?_
  refine w_n ?_
  refine w_seq ?_
  refine A_ops ?_
  refine A_upto 1 ?_
  obtain ⟨r, eF1, hr⟩ := hr.bind
  refine A_call (out := ?o_eF1) (hp := ?p_eF1) ?c_eF1 ?d_eF1 ?_
  case c_eF1 => exact scansionref17_Count_runs g eF1
  case d_eF1 => rfl
  refine A_ops_end ?_
  refine w_n ?_
  refine w_seq ?_
  refine w_seq ?_
  refine A_region ?_
  refine w_n ?_
  refine A_condH hr (fun cF2 hr => ?_) (fun cF2 hr => ?_)
  · refine w_seq ?_
    refine A_region ?_
    refine w_n ?_
    refine w_ret ?_
    obtain rfl := hD _ hr
    exact (w_tr (A_endR (A_cut (os' := []) (sl := [(4, .cv (.val (.str (bs ([] : Str))))), (5, .cv (.val (.int .i64 r.2)))]) hwf) ⟨rfl, on_nil hwf⟩))
  · refine w_skip ?_
    refine w_n ?_
    refine w_seq ?_
    refine A_region ?_
    refine w_n ?_
    refine w_seq ?_
    obtain ⟨v, vF7, hr⟩ := hr.bind
    refine w_joinR (sj := ⟨[(1, .cv (.val (.int .i64 n))), (2, .cv (.val (.ptr (some (h.n + 0, 0))))), (6, .cv (.val (.sl (List.map eI r.1)))), (8, .cv (.val (.int .i64 (IntKind.i64.wrap ((g.Final.length : Int) - (1 : Int)))))), (32, .cv (.val (.bool v)))], h.on [some (.cells [.val (.sl (List.map eB g.Final)), .val (.sl (List.map (eL eEdge) g.Edges))])]⟩) (A_ops ?_) ?_
    · have hr := Holds.intro (D := fun z => z = v) vF7 rfl
      refine A_upto 3 ?_
      rcases hr.ite with ⟨cF3, hr⟩ | ⟨cF3, hr⟩
      · refine A_ops_end ?_
        obtain rfl : _ = v := hr
        exact w_k (A_cut hwf)
      · obtain ⟨n1, nF4, eF5, gF6, hr⟩ := hr.idx
        refine A_ops_end ?_
        obtain rfl : _ = v := hr
        exact w_k (A_cut hwf)
    refine A_condH hr (fun cF8 hr => ?_) (fun cF8 hr => ?_)
    · refine w_seq ?_
      refine A_region ?_
      refine w_n ?_
      refine w_ret ?_
      obtain rfl := hD _ hr
      exact (w_tr (A_endR (A_cut (os' := []) (sl := [(4, .cv (.val (.str (bs ([] : Str))))), (5, .cv (.val (.int .i64 (4 : Int))))]) hwf) ⟨rfl, on_nil hwf⟩))
    · refine w_skip ?_
      refine w_n ?_
      refine w_seq ?_
      refine A_region ?_
      refine w_n ?_
      refine w_block ?_
      refine w_Loop (fun xX : (Int × Int × Str) => ⟨[(1, .cv (.val (.int .i64 xX.1))), (2, .cv (.val (.ptr (some (h.n + 0, 0))))), (6, .cv (.val (.sl (List.map eI r.1)))), (8, .cv (.val (.int .i64 xX.2.1))), (9, .cv (.val (.str (bs xX.2.2))))], h.on [some (.cells [.val (.sl (List.map eB g.Final)), .val (.sl (List.map (eL eEdge) g.Edges))])]⟩) hr (A_cut hwf) (fun W1 xX hr => ?_)
      obtain ⟨n2, s, word⟩ := xX
      dsimp only [scansionref17_Word.b1] at hr
      refine w_K (D := (Aft W1 D)) (fun xX : (Int × Int × Str) => ⟨[(1, .cv (.val (.int .i64 xX.1))), (2, .cv (.val (.ptr (some (h.n + 0, 0))))), (6, .cv (.val (.sl (List.map eI r.1)))), (8, .cv (.val (.int .i64 xX.2.1))), (9, .cv (.val (.str (bs xX.2.2))))], h.on [some (.cells [.val (.sl (List.map eB g.Final)), .val (.sl (List.map (eL eEdge) g.Edges))])]⟩) (fun xX : (Int × Int × Str) => scansionref17_Word.k1 xX.1 xX.2.1 xX.2.2) (fun xX s' hr ht => ?_) ?_
      · obtain ⟨n3, s1, word1⟩ := xX
        dsimp only [scansionref17_Word.k1] at hr ht
        exact (w_k ⟨(n3, s1, word1), hr, (To.trans ht (A_cut hwf))⟩)
      · refine w_block ?_
        refine w_seq ?_
        refine w_seq ?_
        obtain ⟨b, nF9, eF10, gF11, hr⟩ := hr.idx
        refine A_region ?_
        refine w_n ?_
        refine w_K (D := (Aft W1 D)) (fun xX : Int => ⟨[(1, .cv (.val (.int .i64 xX))), (2, .cv (.val (.ptr (some (h.n + 0, 0))))), (6, .cv (.val (.sl (List.map eI r.1)))), (8, .cv (.val (.int .i64 s))), (9, .cv (.val (.str (bs word))))], h.on [some (.cells [.val (.sl (List.map eB g.Final)), .val (.sl (List.map (eL eEdge) g.Edges))])]⟩) (fun xX : Int => scansionref17_Word.k2 g r s word xX) (fun xX s' hr ht => ?_) ?_
        · obtain ⟨n4, rfl⟩ : ∃ z, z = xX := ⟨xX, rfl⟩
          dsimp only [scansionref17_Word.k2] at hr ht
          refine (w_nT ht ?_)
          refine w_seq ?_
          refine A_region ?_
          refine w_n ?_
          refine w_seq ?_
          refine w_K (D := (Aft W1 D)) (fun xX : (Int × Int) => ⟨[(1, .cv (.val (.int .i64 xX.1))), (2, .cv (.val (.ptr (some (h.n + 0, 0))))), (6, .cv (.val (.sl (List.map eI r.1)))), (8, .cv (.val (.int .i64 s))), (9, .cv (.val (.str (bs word)))), (10, .cv (.val (.int .i64 xX.2)))], h.on [some (.cells [.val (.sl (List.map eB g.Final)), .val (.sl (List.map (eL eEdge) g.Edges))])]⟩) (fun xX : (Int × Int) => scansionref17_Word.k3 g s word xX.1 xX.2) (fun xX s' hr ht => ?_) ?_
          · obtain ⟨n5, k⟩ := xX
            dsimp only [scansionref17_Word.k3] at hr ht
            refine (w_nT ht ?_)
            refine w_seq ?_
            obtain ⟨xs, nF12, eF13, gF14, hr⟩ := hr.idx
            obtain ⟨x, nF15, eF16, gF17, hr⟩ := hr.idx
            obtain ⟨nF18, hr⟩ := hr.roomS
            refine A_region ?_
            refine w_n ?_
            refine A_region ?_
            exact (w_bn (w_k ⟨(n5, x.To, (word ++ ([x.Label]))), hr, (A_cut hwf)⟩))
          · refine w_block ?_
            refine w_Loop (fun xX : (Int × Int) => ⟨[(1, .cv (.val (.int .i64 xX.1))), (2, .cv (.val (.ptr (some (h.n + 0, 0))))), (6, .cv (.val (.sl (List.map eI r.1)))), (8, .cv (.val (.int .i64 s))), (9, .cv (.val (.str (bs word)))), (10, .cv (.val (.int .i64 xX.2)))], h.on [some (.cells [.val (.sl (List.map eB g.Final)), .val (.sl (List.map (eL eEdge) g.Edges))])]⟩) hr (A_cut hwf) (fun W2 xX hr => ?_)
            obtain ⟨n6, k1⟩ := xX
            dsimp only [scansionref17_Word.b2] at hr
            refine w_seq ?_
            refine w_seq ?_
            obtain ⟨xs1, nF19, eF20, gF21, hr⟩ := hr.idx
            obtain ⟨x1, nF22, eF23, gF24, hr⟩ := hr.idx
            obtain ⟨n7, nF25, eF26, gF27, hr⟩ := hr.idx
            refine A_region ?_
            refine w_n ?_
            refine A_condH hr (fun cF28 hr => ?_) (fun cF28 hr => ?_)
            · refine w_skip ?_
              refine w_n ?_
              refine w_block ?_
              refine w_seq ?_
              refine A_region ?_
              refine w_n ?_
              refine A_region ?_
              exact (w_bn (w_k ⟨((IntKind.i64.wrap (n6 - n7)), (IntKind.i64.wrap (k1 + (1 : Int)))), hr, (A_cut hwf)⟩))
            · refine w_exit ?_
              exact (w_te (w_te (w_bx (w_k ⟨(n6, k1), (hr).map, (A_cut hwf)⟩))))
        · refine A_condH hr (fun cF29 hr => ?_) (fun cF29 hr => ?_)
          · refine w_seq ?_
            refine w_seq ?_
            refine A_region ?_
            refine w_n ?_
            refine A_condH hr (fun cF30 hr => ?_) (fun cF30 hr => ?_)
            · refine w_seq ?_
              refine A_region ?_
              refine w_n ?_
              refine w_ret ?_
              obtain rfl := hD _ hr
              exact (w_tr (w_tr (w_tr (w_br (w_tr (w_tr (w_br (A_endR (A_cut (os' := []) (sl := [(4, .cv (.val (.str (bs word)))), (5, .cv (.val (.int .i64 (0 : Int))))]) hwf) ⟨rfl, on_nil hwf⟩))))))))
            · refine w_skip ?_
              refine w_n ?_
              refine A_region ?_
              exact (w_k ⟨(IntKind.i64.wrap (n2 - (1 : Int))), hr, (A_cut hwf)⟩)
          · refine w_skip ?_
            exact (w_k ⟨n2, hr, (A_cut hwf)⟩)
end Go.Val

/- part GW63 -/
/- (*scansion/scansionref18.Array).Word runs as it is read off. -/
namespace Go.Val
set_option linter.unusedVariables false
set_option linter.unusedSimpArgs false
set_option maxRecDepth 20000
open Go.Proofs
theorem scansionref18_Array_Word_runs (a_ : Tscansionref18_Array) (n : Int) (l0 : Nat) {h : Heap} (ha0 : h.at_ l0 = some (.cells [.val (.sl (List.map eB a_.G.Final)), .val (.sl (List.map (eL eEdge) a_.G.Edges)), .val (.int .i64 a_.Cells)])) {a : (Str × Bool)} (e : scansionref18_Array_Word a_ n = some a) :
    Runs CT 63 [.cv (.val (.ptr (some (l0, 0)))), .cv (.val (.int .i64 n))] h fun o h' => o = [.cv (.val (.str (bs a.1))), .cv (.val (.bool a.2))] ∧ h' = h := by
  refine Runs.start Try.f63 _ Try.func63 rfl (by rw [Try.ntmps63]; simp) (by rfl) (by rfl) (fun hwf hu => ?_)
  have hl0 := (hwf _ _ ha0).1
  have kl0 := locF hl0
  obtain ⟨D, hD, hr⟩ : ∃ D : (Str × Bool) → Prop, (∀ z, D z → z = a) ∧ Holds (scansionref18_Array_Word a_ n) D := ⟨fun z => z = a, fun _ h => h, Holds.intro e rfl⟩
  dsimp only [scansionref18_Array_Word] at hr
  change wpCode _ _ _ _ _ ⟨[(0, .cv (.val (.ptr (some (l0, 0))))), (1, .cv (.val (.int .i64 n)))], h.on []⟩
  refine w_seq ?_
  refine A_region ?_
  refine w_n ?_
  refine w_seq ?_
  refine A_ops ?_
  refine A_upto 5 ?_
  obtain ⟨r, eF1, hr⟩ := hr.bind
  refine A_call (out := ?o_eF1) (hp := ?p_eF1) ?c_eF1 ?d_eF1 ?_
  case c_eF1 => exact scansionref17_Word_runs a_.G n eF1
  case d_eF1 => rfl
  refine A_ops_end ?_
  refine w_n ?_
  refine w_seq ?_
  refine A_region ?_
  refine w_n ?_
  refine w_ret ?_
  obtain rfl := hD _ hr
  exact (A_endR (A_cut (os' := []) (sl := [(4, .cv (.val (.str (bs r.1)))), (5, .cv (.val (.bool (r.2 == (0 : Int)))))]) hwf) ⟨rfl, on_nil hwf⟩)
end Go.Val

/- part GW80 -/
/- scansion/scansionref14.Number runs as it is read off. -/
namespace Go.Val
set_option linter.unusedVariables false
set_option linter.unusedSimpArgs false
set_option maxRecDepth 20000
open Go.Proofs
theorem scansionref14_Number_runs (n : Int) {h : Heap} {a : List UInt8} (e : scansionref14_Number n = some a) :
    Runs CT 80 [.cv (.val (.int .i64 n))] h fun o h' => o = [.cv (.row 5 (List.map eU a))] ∧ h' = h := by
  refine Runs.start Try.f80 _ Try.func80 rfl (by rw [Try.ntmps80]; simp) (by rfl) (by rfl) (fun hwf hu => ?_)
  obtain ⟨D, hD, hr⟩ : ∃ D : List UInt8 → Prop, (∀ z, D z → z = a) ∧ Holds (scansionref14_Number n) D := ⟨fun z => z = a, fun _ h => h, Holds.intro e rfl⟩
  dsimp only [scansionref14_Number] at hr
  change wpCode _ _ _ _ _ ⟨[(0, .cv (.val (.int .i64 n)))], h.on []⟩
  refine w_seq ?_
  refine A_region ?_
  refine w_n ?_
  refine w_seq ?_
  refine A_region ?_
  refine w_n ?_
  refine w_seq ?_
  refine A_region ?_
  refine w_n ?_
  refine w_seq ?_
  refine w_K (D := D) (fun xX : (Int × List UInt8) => ⟨[(0, .cv (.val (.int .i64 xX.1))), (3, .cv (.row 5 (List.map eU xX.2)))], h.on []⟩) (fun xX : (Int × List UInt8) => scansionref14_Number.k1 xX.1 xX.2) (fun xX s' hr ht => ?_) ?_
  · obtain ⟨n1, out⟩ := xX
    dsimp only [scansionref14_Number.k1] at hr ht
    refine (w_nT ht ?_)
    refine w_seq ?_
    obtain ⟨nF1, hr⟩ := hr.room
    refine A_region ?_
    refine w_n ?_
    refine w_ret ?_
    obtain rfl := hD _ hr
    exact (A_endR (A_cut (os' := []) (sl := [(2, .cv (.row 5 (List.map eU (out ++ ([(u8 (IntKind.u8.wrap n1))])))))]) hwf) ⟨rfl, on_nil hwf⟩)
  · refine w_block ?_
    refine w_Loop (fun xX : (Int × List UInt8) => ⟨[(0, .cv (.val (.int .i64 xX.1))), (3, .cv (.row 5 (List.map eU xX.2)))], h.on []⟩) hr (A_cut hwf) (fun W1 xX hr => ?_)
    obtain ⟨n2, out1⟩ := xX
    dsimp only [scansionref14_Number.b1] at hr
    refine w_seq ?_
    refine w_seq ?_
    refine A_region ?_
    refine w_n ?_
    refine A_condH hr (fun cF2 hr => ?_) (fun cF2 hr => ?_)
    · refine w_skip ?_
      refine w_n ?_
      refine w_block ?_
      refine w_seq ?_
      obtain ⟨nF3, hr⟩ := hr.room
      refine w_region rfl (by simp (disch := (apply Apart.mk; decide)) only [go_sem, Nat.reduceAdd, Nat.reduceLT, Nat.reduceMul, Nat.reduceLeDiff, Int.reduceToNat, Int.reduceLT, Int.reduceLE, (eq_false (by decide : ¬ ((128 : Int) = 0))), nF3, cF2]; rfl) ?_
      refine w_n ?_
      refine w_region rfl (by simp (disch := (apply Apart.mk; decide)) only [go_sem, Nat.reduceAdd, Nat.reduceLT, Nat.reduceMul, Nat.reduceLeDiff, Int.reduceToNat, Int.reduceLT, Int.reduceLE, (eq_false (by decide : ¬ ((128 : Int) = 0))), cF2]; rfl) ?_
      exact (w_bn (w_k ⟨((IntKind.i64.wrap (Int.tdiv n2 (128 : Int))), (out1 ++ ([(u8 (IntKind.u8.wrap (IntKind.i64.wrap ((128 : Int) + (Int.tmod n2 (128 : Int))))))]))), hr, (A_cut hwf)⟩))
    · refine w_exit ?_
      exact (w_te (w_te (w_bx (w_k ⟨(n2, out1), (hr).map, (A_cut hwf)⟩))))
end Go.Val
