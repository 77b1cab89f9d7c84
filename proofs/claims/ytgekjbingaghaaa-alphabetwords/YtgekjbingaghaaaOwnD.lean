/- A value semantics of the model's programs, sound against it, and functions read off the given program with the proofs that it runs so; no condition. -/
import Derived.Test.YtgekjbingaghaaaOwnC
import Derived.Sort.Defs
import Derived.Lib.BitFns
import Derived.Lib.SlicesCompact
import Derived.Test.YtgekjbingaghaaaChecked
import Derived.SizedLaws
import Derived.ChangeArms
import Derived.Shelf.SlSortCmp.NoneTotal
import Derived.Shelf.SlicesG.Cmp
import Derived.Shelf.SortG.AssemblyIn
import Derived.Shelf.SortG.SortNone
import Derived.Shelf.SlicesG.CompactI
import Derived.Sort.EveryDepth
import Derived.Laws.BytesArg
import Derived.WalkKit
import Derived.OwnWalkIn
import Derived.TacticsInMore
import Derived.Deep.QuietTactic
import Derived.BigQuiet
set_option linter.all false
set_option linter.unnecessarySimpa false
set_option linter.unusedVariables false
set_option linter.unusedSimpArgs false
/- part JT -/
/- Types of the program, as data. -/
namespace Go.Val
set_option linter.unusedVariables false
set_option linter.unusedSimpArgs false
structure TRange where
  Low : Int
  High : Int
  deriving DecidableEq, Inhabited
def eRange (x : TRange) : DVal := .agg [.int .i64 x.Low, .int .i64 x.High]
instance : Enc eRange 2 := ⟨fun _ => rfl, fun n x => by simp only [eRange, DVal.under, underL, under_map, and_self]⟩
attribute [go_sem] eRange
structure TProp where
  Low : Int
  High : Int
  Value : UInt8
  deriving DecidableEq, Inhabited
def eProp (x : TProp) : DVal := .agg [.int .i64 x.Low, .int .i64 x.High, .int .u8 (x.Value.toNat : Int)]
instance : Enc eProp 3 := ⟨fun _ => rfl, fun n x => by simp only [eProp, DVal.under, underL, under_map, and_self]⟩
attribute [go_sem] eProp
structure Ttrie_Trie where
  like : Vector UInt8 4352
  first : List (Vector UInt8 256)
  deriving DecidableEq, Inhabited
structure Talphabet_Alphabet where
  trie : Ttrie_Trie
  masks : List Int
  least : List Int
  deriving DecidableEq, Inhabited
structure Tscansionref09_Alphabet where
  Sets : List (List TRange)
  M : List Int
  First : List Int
  deriving DecidableEq, Inhabited
def escansionref09_Alphabet (x : Tscansionref09_Alphabet) : DVal := .agg [.sl (List.map (eL eRange) x.Sets), .sl (List.map (eK .u64) x.M), .sl (List.map eI x.First)]
instance : Enc escansionref09_Alphabet 3 := ⟨fun _ => rfl, fun n x => by simp only [escansionref09_Alphabet, DVal.under, underL, under_map, and_self]⟩
attribute [go_sem] escansionref09_Alphabet
structure Tscansionref03_Trie where
  First : List UInt8
  Like : List Int
  deriving DecidableEq, Inhabited
def escansionref03_Trie (x : Tscansionref03_Trie) : DVal := .agg [.sl (List.map eU x.First), .sl (List.map eI x.Like)]
instance : Enc escansionref03_Trie 2 := ⟨fun _ => rfl, fun n x => by simp only [escansionref03_Trie, DVal.under, underL, under_map, and_self]⟩
attribute [go_sem] escansionref03_Trie
end Go.Val

/- part JE -/
/- What is turned in place: slices.SortFunc at ranges, slices.Sort at ints; slices.Clone; slices.Compact, told by hand. -/
namespace Go.Val
noncomputable section
def ltR (a b : TRange) : Bool := decide (a.Low < b.Low)
def sortR (l : List TRange) : Option (List TRange) :=
  if l.length ≤ roomOf then some (Go.Sort.pdq ltR l.toArray 0 l.length (Go.Lib.bitLen l.length) true true).toList else none
def sortI (l : List Int) : Option (List Int) :=
  if l.length ≤ roomOf then some (l.mergeSort fun x y => decide (x ≤ y)) else none
def slices_Clone_api_Range_api_Range (s : List TRange) : Option (List TRange) :=
  (room 16 (0 + s.length)).bind fun _ => some s
def slices_Compact_int_int (s : List Int) : Option (List Int) := if s.length ≤ roomOf then some (Go.Lib.compact s) else none
open Classical in
def extOf {α : Type} (e : α → DVal) (f : List α → Option (List α)) (zs : List DVal) : Option (List DVal) :=
  if h : ∃ l : List α, zs = l.map e then (f h.choose).map (List.map e) else none
theorem map_inj {α : Type} {e : α → DVal} (hi : ∀ a b, e a = e b → a = b) : ∀ {l m : List α}, l.map e = m.map e → l = m
  | [], [], _ => rfl
  | [], _ :: _, h => by cases h
  | _ :: _, [], h => by cases h
  | a :: l, b :: m, h => by
    simp only [List.map_cons, List.cons.injEq] at h
    rw [hi a b h.1, map_inj hi h.2]
theorem extOf_map {α : Type} {e : α → DVal} (hi : ∀ a b, e a = e b → a = b) {f : List α → Option (List α)} {l l' : List α} (h : f l = some l') : extOf e f (l.map e) = some (l'.map e) := by
  have hx : ∃ m : List α, l.map e = m.map e := ⟨l, rfl⟩
  have hc : hx.choose = l := (map_inj hi hx.choose_spec).symm
  unfold extOf
  rw [dif_pos hx, hc, h]; rfl
theorem extOf_some {α : Type} {e : α → DVal} {f : List α → Option (List α)} {zs ys : List DVal} (h : extOf e f zs = some ys) : ∃ l l', zs = l.map e ∧ f l = some l' ∧ ys = l'.map e := by
  unfold extOf at h
  split at h
  · rename_i hx
    cases hf : f hx.choose with
    | none => rw [hf] at h; cases h
    | some l' => rw [hf] at h; cases h; exact ⟨_, l', hx.choose_spec, hf, rfl⟩
  · cases h
theorem eRange_inj (a b : TRange) (h : eRange a = eRange b) : a = b := by
  cases a; cases b
  simp only [eRange, DVal.agg.injEq, List.cons.injEq, DVal.int.injEq, true_and, and_true] at h
  simp only [TRange.mk.injEq]; exact h
theorem eI_inj (a b : Int) (h : eI a = eI b) : a = b := by
  simp only [eI, DVal.int.injEq, true_and] at h; exact h
open Classical in
def extR (g : FuncId) (ds : List DVal) (k : TypeId) (zs : List DVal) : Option (List DVal) :=
  if g = 94 ∧ ds = [.fn 95 [] []] ∧ k = 80 then extOf eRange sortR zs else if g = 98 ∧ ds = [] ∧ k = 3 then extOf eI sortI zs else none
theorem ext_sortR {l l' : List TRange} (h : sortR l = some l') : extR 94 [.fn 95 [] []] 80 (l.map eRange) = some (l'.map eRange) := by
  unfold extR
  rw [if_pos ⟨rfl, rfl, rfl⟩]; exact extOf_map eRange_inj h
theorem ext_sortI {l l' : List Int} (h : sortI l = some l') : extR 98 [] 3 (l.map eI) = some (l'.map eI) := by
  unfold extR
  rw [if_neg (by decide), if_pos ⟨rfl, rfl, rfl⟩]; exact extOf_map eI_inj h
/-- The first block that is like these bytes. -/
def findBlk (F b : List UInt8) : Nat → Nat → Int
  | 0, _ => -1
  | n + 1, i => if (F.drop (i * 256)).take 256 = b then i else findBlk F b n (i + 1)
def scansionref03_Trie_place (t : Tscansionref03_Trie) (b : List UInt8) : Option Int :=
  if t.First.length % 256 = 0 ∧ t.First.length ≤ 1048576 ∧ b.length ≤ 1048576 then some (findBlk t.First b (t.First.length / 256) 0) else none
def handL (f : FuncId) (a : List SV) (h : Heap) (o : List SV) (h' : Heap) : Prop :=
  h' = h ∧ ((f = 99 ∧ ∃ l u, a = [.cv (.row 3 (List.map eI l))] ∧ slices_Compact_int_int l = some u ∧ o = [.cv (.val (.sl (List.map eI u)))]) ∨
    (f = 128 ∧ ∃ l t b r, a = [.cv (.val (.ptr (some (l, 0)))), .cv (.val (.sl (List.map eU b)))] ∧ h.at_ l = some (.cells [.row 5 (List.map eU t.First), .row 3 (List.map eI t.Like)]) ∧ scansionref03_Trie_place t b = some r ∧ o = [.cv (.val (.int .i64 r))]))
end
end Go.Val

/- part JX -/
/- Facts of the program. -/
namespace Go.Val
set_option linter.unusedVariables false
set_option linter.unusedSimpArgs false
open Go.Proofs
noncomputable def CT : Ctx := { P := Try.prog, how := fun f i => if f = 97 ∧ i = 0 then .move else if f = 89 ∧ i = 0 then .move else if f = 99 ∧ i = 0 then .move else .data, gives := fun f => if f = 97 then .move else if f = 89 then .move else if f = 93 then .move else if f = 75 then .move else .data, ext := extR, hand := handL }
theorem CT_P : CT.P = Try.prog := rfl
def someWorld : World := ⟨#[], fun _ _ => 0, 0, default, default⟩
theorem CT_gives91 : CT.gives 91 = .data := by simp [CT]
theorem CT_gives120 : CT.gives 120 = .data := by simp [CT]
theorem CT_gives92 : CT.gives 92 = .data := by simp [CT]
theorem CT_gives93 : CT.gives 93 = .move := by simp [CT]
theorem CT_gives97 : CT.gives 97 = .move := by simp [CT]
theorem CT_gives64 : CT.gives 64 = .data := by simp [CT]
theorem CT_gives65 : CT.gives 65 = .data := by simp [CT]
theorem CT_gives99 : CT.gives 99 = .data := by simp [CT]
theorem CT_gives66 : CT.gives 66 = .data := by simp [CT]
theorem CT_gives125 : CT.gives 125 = .data := by simp [CT]
theorem CT_gives126 : CT.gives 126 = .data := by simp [CT]
theorem CT_gives100 : CT.gives 100 = .data := by simp [CT]
theorem CT_gives67 : CT.gives 67 = .data := by simp [CT]
theorem CT_gives101 : CT.gives 101 = .data := by simp [CT]
theorem CT_gives127 : CT.gives 127 = .data := by simp [CT]
theorem CT_gives102 : CT.gives 102 = .data := by simp [CT]
theorem CT_gives103 : CT.gives 103 = .data := by simp [CT]
theorem CT_gives68 : CT.gives 68 = .data := by simp [CT]
theorem CT_gives27 : CT.gives 27 = .data := by simp [CT]
theorem CT_gives31 : CT.gives 31 = .data := by simp [CT]
theorem CT_gives70 : CT.gives 70 = .data := by simp [CT]
theorem CT_gives30 : CT.gives 30 = .data := by simp [CT]
theorem CT_gives69 : CT.gives 69 = .data := by simp [CT]
theorem CT_gives29 : CT.gives 29 = .data := by simp [CT]
theorem CT_gives32 : CT.gives 32 = .data := by simp [CT]
theorem CT_gives24 : CT.gives 24 = .data := by simp [CT]
theorem CT_gives25 : CT.gives 25 = .data := by simp [CT]
theorem CT_gives118 : CT.gives 118 = .data := by simp [CT]
theorem CT_gives88 : CT.gives 88 = .data := by simp [CT]
theorem CT_gives28 : CT.gives 28 = .data := by simp [CT]
theorem CT_gives89 : CT.gives 89 = .move := by simp [CT]
theorem CT_gives59 : CT.gives 59 = .data := by simp [CT]
theorem CT_gives21 : CT.gives 21 = .data := by simp [CT]
theorem CT_gives26 : CT.gives 26 = .data := by simp [CT]
theorem CT_gives9 : CT.gives 9 = .data := by simp [CT]
theorem CT_gives10 : CT.gives 10 = .data := by simp [CT]
theorem CT_gives11 : CT.gives 11 = .data := by simp [CT]
theorem CT_gives18 : CT.gives 18 = .data := by simp [CT]
theorem CT_gives104 : CT.gives 104 = .data := by simp [CT]
theorem CT_gives71 : CT.gives 71 = .data := by simp [CT]
theorem CT_gives72 : CT.gives 72 = .data := by simp [CT]
theorem CT_gives73 : CT.gives 73 = .data := by simp [CT]
theorem CT_gives105 : CT.gives 105 = .data := by simp [CT]
theorem CT_gives106 : CT.gives 106 = .data := by simp [CT]
theorem CT_gives128 : CT.gives 128 = .data := by simp [CT]
theorem CT_gives107 : CT.gives 107 = .data := by simp [CT]
theorem CT_gives74 : CT.gives 74 = .data := by simp [CT]
theorem CT_gives33 : CT.gives 33 = .data := by simp [CT]
theorem CT_gives34 : CT.gives 34 = .data := by simp [CT]
theorem CT_gives35 : CT.gives 35 = .data := by simp [CT]
theorem CT_gives36 : CT.gives 36 = .data := by simp [CT]
theorem CT_gives37 : CT.gives 37 = .data := by simp [CT]
theorem CT_gives75 : CT.gives 75 = .move := by simp [CT]
theorem CT_gives39 : CT.gives 39 = .data := by simp [CT]
theorem CT_gives38 : CT.gives 38 = .data := by simp [CT]
theorem CT_gives12 : CT.gives 12 = .data := by simp [CT]
theorem CT_gives40 : CT.gives 40 = .data := by simp [CT]
theorem CT_gives41 : CT.gives 41 = .data := by simp [CT]
theorem CT_gives13 : CT.gives 13 = .data := by simp [CT]
theorem CT_how91_0 : CT.how 91 0 = .data := by simp [CT]
theorem CT_how120_0 : CT.how 120 0 = .data := by simp [CT]
theorem CT_how120_1 : CT.how 120 1 = .data := by simp [CT]
theorem CT_how92_0 : CT.how 92 0 = .data := by simp [CT]
theorem CT_how92_1 : CT.how 92 1 = .data := by simp [CT]
theorem CT_how93_0 : CT.how 93 0 = .data := by simp [CT]
theorem CT_how97_0 : CT.how 97 0 = .move := by simp [CT]
theorem CT_how97_1 : CT.how 97 1 = .data := by simp [CT]
theorem CT_how64_0 : CT.how 64 0 = .data := by simp [CT]
theorem CT_how65_0 : CT.how 65 0 = .data := by simp [CT]
theorem CT_how65_1 : CT.how 65 1 = .data := by simp [CT]
theorem CT_how99_0 : CT.how 99 0 = .move := by simp [CT]
theorem CT_how66_0 : CT.how 66 0 = .data := by simp [CT]
theorem CT_how125_0 : CT.how 125 0 = .data := by simp [CT]
theorem CT_how125_1 : CT.how 125 1 = .data := by simp [CT]
theorem CT_how125_2 : CT.how 125 2 = .data := by simp [CT]
theorem CT_how126_0 : CT.how 126 0 = .data := by simp [CT]
theorem CT_how126_1 : CT.how 126 1 = .data := by simp [CT]
theorem CT_how100_0 : CT.how 100 0 = .data := by simp [CT]
theorem CT_how100_1 : CT.how 100 1 = .data := by simp [CT]
theorem CT_how67_0 : CT.how 67 0 = .data := by simp [CT]
theorem CT_how67_1 : CT.how 67 1 = .data := by simp [CT]
theorem CT_how101_0 : CT.how 101 0 = .data := by simp [CT]
theorem CT_how127_0 : CT.how 127 0 = .data := by simp [CT]
theorem CT_how127_1 : CT.how 127 1 = .data := by simp [CT]
theorem CT_how102_0 : CT.how 102 0 = .data := by simp [CT]
theorem CT_how102_1 : CT.how 102 1 = .data := by simp [CT]
theorem CT_how103_0 : CT.how 103 0 = .data := by simp [CT]
theorem CT_how103_1 : CT.how 103 1 = .data := by simp [CT]
theorem CT_how103_2 : CT.how 103 2 = .data := by simp [CT]
theorem CT_how103_3 : CT.how 103 3 = .data := by simp [CT]
theorem CT_how68_0 : CT.how 68 0 = .data := by simp [CT]
theorem CT_how27_0 : CT.how 27 0 = .data := by simp [CT]
theorem CT_how31_0 : CT.how 31 0 = .data := by simp [CT]
theorem CT_how70_0 : CT.how 70 0 = .data := by simp [CT]
theorem CT_how70_1 : CT.how 70 1 = .data := by simp [CT]
theorem CT_how30_0 : CT.how 30 0 = .data := by simp [CT]
theorem CT_how30_1 : CT.how 30 1 = .data := by simp [CT]
theorem CT_how69_0 : CT.how 69 0 = .data := by simp [CT]
theorem CT_how69_1 : CT.how 69 1 = .data := by simp [CT]
theorem CT_how29_0 : CT.how 29 0 = .data := by simp [CT]
theorem CT_how29_1 : CT.how 29 1 = .data := by simp [CT]
theorem CT_how32_0 : CT.how 32 0 = .data := by simp [CT]
theorem CT_how32_1 : CT.how 32 1 = .data := by simp [CT]
theorem CT_how25_0 : CT.how 25 0 = .data := by simp [CT]
theorem CT_how118_0 : CT.how 118 0 = .data := by simp [CT]
theorem CT_how118_1 : CT.how 118 1 = .data := by simp [CT]
theorem CT_how88_0 : CT.how 88 0 = .data := by simp [CT]
theorem CT_how88_1 : CT.how 88 1 = .data := by simp [CT]
theorem CT_how28_0 : CT.how 28 0 = .data := by simp [CT]
theorem CT_how28_1 : CT.how 28 1 = .data := by simp [CT]
theorem CT_how89_0 : CT.how 89 0 = .move := by simp [CT]
theorem CT_how89_1 : CT.how 89 1 = .data := by simp [CT]
theorem CT_how89_2 : CT.how 89 2 = .data := by simp [CT]
theorem CT_how59_0 : CT.how 59 0 = .data := by simp [CT]
theorem CT_how59_1 : CT.how 59 1 = .data := by simp [CT]
theorem CT_how59_2 : CT.how 59 2 = .data := by simp [CT]
theorem CT_how21_0 : CT.how 21 0 = .data := by simp [CT]
theorem CT_how26_0 : CT.how 26 0 = .data := by simp [CT]
theorem CT_how9_0 : CT.how 9 0 = .data := by simp [CT]
theorem CT_how9_1 : CT.how 9 1 = .data := by simp [CT]
theorem CT_how9_2 : CT.how 9 2 = .data := by simp [CT]
theorem CT_how10_0 : CT.how 10 0 = .data := by simp [CT]
theorem CT_how10_1 : CT.how 10 1 = .data := by simp [CT]
theorem CT_how11_0 : CT.how 11 0 = .data := by simp [CT]
theorem CT_how11_1 : CT.how 11 1 = .data := by simp [CT]
theorem CT_how11_2 : CT.how 11 2 = .data := by simp [CT]
theorem CT_how18_0 : CT.how 18 0 = .data := by simp [CT]
theorem CT_how18_1 : CT.how 18 1 = .data := by simp [CT]
theorem CT_how104_0 : CT.how 104 0 = .data := by simp [CT]
theorem CT_how104_1 : CT.how 104 1 = .data := by simp [CT]
theorem CT_how71_0 : CT.how 71 0 = .data := by simp [CT]
theorem CT_how72_0 : CT.how 72 0 = .data := by simp [CT]
theorem CT_how72_1 : CT.how 72 1 = .data := by simp [CT]
theorem CT_how73_0 : CT.how 73 0 = .data := by simp [CT]
theorem CT_how73_1 : CT.how 73 1 = .data := by simp [CT]
theorem CT_how105_0 : CT.how 105 0 = .data := by simp [CT]
theorem CT_how105_1 : CT.how 105 1 = .data := by simp [CT]
theorem CT_how106_0 : CT.how 106 0 = .data := by simp [CT]
theorem CT_how106_1 : CT.how 106 1 = .data := by simp [CT]
theorem CT_how128_0 : CT.how 128 0 = .data := by simp [CT]
theorem CT_how128_1 : CT.how 128 1 = .data := by simp [CT]
theorem CT_how107_0 : CT.how 107 0 = .data := by simp [CT]
theorem CT_how107_1 : CT.how 107 1 = .data := by simp [CT]
theorem CT_how74_0 : CT.how 74 0 = .data := by simp [CT]
theorem CT_how33_0 : CT.how 33 0 = .data := by simp [CT]
theorem CT_how34_0 : CT.how 34 0 = .data := by simp [CT]
theorem CT_how34_1 : CT.how 34 1 = .data := by simp [CT]
theorem CT_how35_0 : CT.how 35 0 = .data := by simp [CT]
theorem CT_how35_1 : CT.how 35 1 = .data := by simp [CT]
theorem CT_how36_0 : CT.how 36 0 = .data := by simp [CT]
theorem CT_how36_1 : CT.how 36 1 = .data := by simp [CT]
theorem CT_how37_0 : CT.how 37 0 = .data := by simp [CT]
theorem CT_how75_0 : CT.how 75 0 = .data := by simp [CT]
theorem CT_how39_0 : CT.how 39 0 = .data := by simp [CT]
theorem CT_how38_0 : CT.how 38 0 = .data := by simp [CT]
theorem CT_how38_1 : CT.how 38 1 = .data := by simp [CT]
theorem CT_how12_0 : CT.how 12 0 = .data := by simp [CT]
theorem CT_how12_1 : CT.how 12 1 = .data := by simp [CT]
theorem CT_how40_0 : CT.how 40 0 = .data := by simp [CT]
theorem CT_how40_1 : CT.how 40 1 = .data := by simp [CT]
theorem CT_how41_0 : CT.how 41 0 = .data := by simp [CT]
theorem CT_how41_1 : CT.how 41 1 = .data := by simp [CT]
theorem CT_how13_0 : CT.how 13 0 = .data := by simp [CT]
theorem CT_how13_1 : CT.how 13 1 = .data := by simp [CT]
theorem moveGive_nil {h : Heap} {s : St} : moveGive h s (.cv .nil) = some ([.cv .nil], h) := rfl
theorem moveGive_row {h : Heap} {s : St} {k : Nat} {xs : List DVal} : moveGive h s (.cv (.row k xs)) = some ([.cv (.row k xs)], h) := rfl
attribute [go_sem] moveGive_nil moveGive_row
theorem sizes_rep1 {n : Nat} {a b : DVal} : sizesOk 2 (List.replicate n (.agg [a, b])) = true := by simp [sizesOk, DVal.cells]
theorem sizes_rep2 {n : Nat} {a b c : DVal} : sizesOk 3 (List.replicate n (.agg [a, b, c])) = true := by simp [sizesOk, DVal.cells]
theorem sizes_rep3 {n : Nat} {k : IntKind} {a : Int} : sizesOk 1 (List.replicate n (.int k a)) = true := by simp [sizesOk, DVal.cells]
theorem sizes_rep4 {n : Nat} {a : Bool} : sizesOk 1 (List.replicate n (.bool a)) = true := by simp [sizesOk, DVal.cells]
attribute [go_sem] sizes_rep1 sizes_rep2 sizes_rep3 sizes_rep4 List.length_replicate decide_true Nat.lt_irrefl
theorem resd91 {s : St} {r : ResultVar} {rs : List ResultVar} : results CT 91 s (r :: rs) = resHead CT 91 s rs (resVal CT.P s r) := results_data CT_gives91
theorem resd120 {s : St} {r : ResultVar} {rs : List ResultVar} : results CT 120 s (r :: rs) = resHead CT 120 s rs (resVal CT.P s r) := results_data CT_gives120
theorem resd92 {s : St} {r : ResultVar} {rs : List ResultVar} : results CT 92 s (r :: rs) = resHead CT 92 s rs (resVal CT.P s r) := results_data CT_gives92
theorem resd64 {s : St} {r : ResultVar} {rs : List ResultVar} : results CT 64 s (r :: rs) = resHead CT 64 s rs (resVal CT.P s r) := results_data CT_gives64
theorem resd65 {s : St} {r : ResultVar} {rs : List ResultVar} : results CT 65 s (r :: rs) = resHead CT 65 s rs (resVal CT.P s r) := results_data CT_gives65
theorem resd99 {s : St} {r : ResultVar} {rs : List ResultVar} : results CT 99 s (r :: rs) = resHead CT 99 s rs (resVal CT.P s r) := results_data CT_gives99
theorem resd66 {s : St} {r : ResultVar} {rs : List ResultVar} : results CT 66 s (r :: rs) = resHead CT 66 s rs (resVal CT.P s r) := results_data CT_gives66
theorem resd125 {s : St} {r : ResultVar} {rs : List ResultVar} : results CT 125 s (r :: rs) = resHead CT 125 s rs (resVal CT.P s r) := results_data CT_gives125
theorem resd126 {s : St} {r : ResultVar} {rs : List ResultVar} : results CT 126 s (r :: rs) = resHead CT 126 s rs (resVal CT.P s r) := results_data CT_gives126
theorem resd100 {s : St} {r : ResultVar} {rs : List ResultVar} : results CT 100 s (r :: rs) = resHead CT 100 s rs (resVal CT.P s r) := results_data CT_gives100
theorem resd67 {s : St} {r : ResultVar} {rs : List ResultVar} : results CT 67 s (r :: rs) = resHead CT 67 s rs (resVal CT.P s r) := results_data CT_gives67
theorem resd101 {s : St} {r : ResultVar} {rs : List ResultVar} : results CT 101 s (r :: rs) = resHead CT 101 s rs (resVal CT.P s r) := results_data CT_gives101
theorem resd127 {s : St} {r : ResultVar} {rs : List ResultVar} : results CT 127 s (r :: rs) = resHead CT 127 s rs (resVal CT.P s r) := results_data CT_gives127
theorem resd102 {s : St} {r : ResultVar} {rs : List ResultVar} : results CT 102 s (r :: rs) = resHead CT 102 s rs (resVal CT.P s r) := results_data CT_gives102
theorem resd103 {s : St} {r : ResultVar} {rs : List ResultVar} : results CT 103 s (r :: rs) = resHead CT 103 s rs (resVal CT.P s r) := results_data CT_gives103
theorem resd68 {s : St} {r : ResultVar} {rs : List ResultVar} : results CT 68 s (r :: rs) = resHead CT 68 s rs (resVal CT.P s r) := results_data CT_gives68
theorem resd27 {s : St} {r : ResultVar} {rs : List ResultVar} : results CT 27 s (r :: rs) = resHead CT 27 s rs (resVal CT.P s r) := results_data CT_gives27
theorem resd31 {s : St} {r : ResultVar} {rs : List ResultVar} : results CT 31 s (r :: rs) = resHead CT 31 s rs (resVal CT.P s r) := results_data CT_gives31
theorem resd70 {s : St} {r : ResultVar} {rs : List ResultVar} : results CT 70 s (r :: rs) = resHead CT 70 s rs (resVal CT.P s r) := results_data CT_gives70
theorem resd30 {s : St} {r : ResultVar} {rs : List ResultVar} : results CT 30 s (r :: rs) = resHead CT 30 s rs (resVal CT.P s r) := results_data CT_gives30
theorem resd69 {s : St} {r : ResultVar} {rs : List ResultVar} : results CT 69 s (r :: rs) = resHead CT 69 s rs (resVal CT.P s r) := results_data CT_gives69
theorem resd29 {s : St} {r : ResultVar} {rs : List ResultVar} : results CT 29 s (r :: rs) = resHead CT 29 s rs (resVal CT.P s r) := results_data CT_gives29
theorem resd32 {s : St} {r : ResultVar} {rs : List ResultVar} : results CT 32 s (r :: rs) = resHead CT 32 s rs (resVal CT.P s r) := results_data CT_gives32
theorem resd24 {s : St} {r : ResultVar} {rs : List ResultVar} : results CT 24 s (r :: rs) = resHead CT 24 s rs (resVal CT.P s r) := results_data CT_gives24
theorem resd25 {s : St} {r : ResultVar} {rs : List ResultVar} : results CT 25 s (r :: rs) = resHead CT 25 s rs (resVal CT.P s r) := results_data CT_gives25
theorem resd118 {s : St} {r : ResultVar} {rs : List ResultVar} : results CT 118 s (r :: rs) = resHead CT 118 s rs (resVal CT.P s r) := results_data CT_gives118
theorem resd88 {s : St} {r : ResultVar} {rs : List ResultVar} : results CT 88 s (r :: rs) = resHead CT 88 s rs (resVal CT.P s r) := results_data CT_gives88
theorem resd28 {s : St} {r : ResultVar} {rs : List ResultVar} : results CT 28 s (r :: rs) = resHead CT 28 s rs (resVal CT.P s r) := results_data CT_gives28
theorem resd59 {s : St} {r : ResultVar} {rs : List ResultVar} : results CT 59 s (r :: rs) = resHead CT 59 s rs (resVal CT.P s r) := results_data CT_gives59
theorem resd21 {s : St} {r : ResultVar} {rs : List ResultVar} : results CT 21 s (r :: rs) = resHead CT 21 s rs (resVal CT.P s r) := results_data CT_gives21
theorem resd26 {s : St} {r : ResultVar} {rs : List ResultVar} : results CT 26 s (r :: rs) = resHead CT 26 s rs (resVal CT.P s r) := results_data CT_gives26
theorem resd9 {s : St} {r : ResultVar} {rs : List ResultVar} : results CT 9 s (r :: rs) = resHead CT 9 s rs (resVal CT.P s r) := results_data CT_gives9
theorem resd10 {s : St} {r : ResultVar} {rs : List ResultVar} : results CT 10 s (r :: rs) = resHead CT 10 s rs (resVal CT.P s r) := results_data CT_gives10
theorem resd11 {s : St} {r : ResultVar} {rs : List ResultVar} : results CT 11 s (r :: rs) = resHead CT 11 s rs (resVal CT.P s r) := results_data CT_gives11
theorem resd18 {s : St} {r : ResultVar} {rs : List ResultVar} : results CT 18 s (r :: rs) = resHead CT 18 s rs (resVal CT.P s r) := results_data CT_gives18
theorem resd104 {s : St} {r : ResultVar} {rs : List ResultVar} : results CT 104 s (r :: rs) = resHead CT 104 s rs (resVal CT.P s r) := results_data CT_gives104
theorem resd71 {s : St} {r : ResultVar} {rs : List ResultVar} : results CT 71 s (r :: rs) = resHead CT 71 s rs (resVal CT.P s r) := results_data CT_gives71
theorem resd72 {s : St} {r : ResultVar} {rs : List ResultVar} : results CT 72 s (r :: rs) = resHead CT 72 s rs (resVal CT.P s r) := results_data CT_gives72
theorem resd73 {s : St} {r : ResultVar} {rs : List ResultVar} : results CT 73 s (r :: rs) = resHead CT 73 s rs (resVal CT.P s r) := results_data CT_gives73
theorem resd105 {s : St} {r : ResultVar} {rs : List ResultVar} : results CT 105 s (r :: rs) = resHead CT 105 s rs (resVal CT.P s r) := results_data CT_gives105
theorem resd106 {s : St} {r : ResultVar} {rs : List ResultVar} : results CT 106 s (r :: rs) = resHead CT 106 s rs (resVal CT.P s r) := results_data CT_gives106
theorem resd128 {s : St} {r : ResultVar} {rs : List ResultVar} : results CT 128 s (r :: rs) = resHead CT 128 s rs (resVal CT.P s r) := results_data CT_gives128
theorem resd74 {s : St} {r : ResultVar} {rs : List ResultVar} : results CT 74 s (r :: rs) = resHead CT 74 s rs (resVal CT.P s r) := results_data CT_gives74
theorem resd33 {s : St} {r : ResultVar} {rs : List ResultVar} : results CT 33 s (r :: rs) = resHead CT 33 s rs (resVal CT.P s r) := results_data CT_gives33
theorem resd34 {s : St} {r : ResultVar} {rs : List ResultVar} : results CT 34 s (r :: rs) = resHead CT 34 s rs (resVal CT.P s r) := results_data CT_gives34
theorem resd35 {s : St} {r : ResultVar} {rs : List ResultVar} : results CT 35 s (r :: rs) = resHead CT 35 s rs (resVal CT.P s r) := results_data CT_gives35
theorem resd36 {s : St} {r : ResultVar} {rs : List ResultVar} : results CT 36 s (r :: rs) = resHead CT 36 s rs (resVal CT.P s r) := results_data CT_gives36
theorem resd37 {s : St} {r : ResultVar} {rs : List ResultVar} : results CT 37 s (r :: rs) = resHead CT 37 s rs (resVal CT.P s r) := results_data CT_gives37
theorem resd39 {s : St} {r : ResultVar} {rs : List ResultVar} : results CT 39 s (r :: rs) = resHead CT 39 s rs (resVal CT.P s r) := results_data CT_gives39
theorem resd38 {s : St} {r : ResultVar} {rs : List ResultVar} : results CT 38 s (r :: rs) = resHead CT 38 s rs (resVal CT.P s r) := results_data CT_gives38
theorem resd12 {s : St} {r : ResultVar} {rs : List ResultVar} : results CT 12 s (r :: rs) = resHead CT 12 s rs (resVal CT.P s r) := results_data CT_gives12
theorem resd40 {s : St} {r : ResultVar} {rs : List ResultVar} : results CT 40 s (r :: rs) = resHead CT 40 s rs (resVal CT.P s r) := results_data CT_gives40
theorem resd41 {s : St} {r : ResultVar} {rs : List ResultVar} : results CT 41 s (r :: rs) = resHead CT 41 s rs (resVal CT.P s r) := results_data CT_gives41
theorem resd13 {s : St} {r : ResultVar} {rs : List ResultVar} : results CT 13 s (r :: rs) = resHead CT 13 s rs (resVal CT.P s r) := results_data CT_gives13
theorem resd93 {s : St} {t : Nat} : results CT 93 s [.tmp t] = moveGive s.box s (s.get t) := results_move CT_gives93
theorem resd97 {s : St} {t : Nat} : results CT 97 s [.tmp t] = moveGive s.box s (s.get t) := results_move CT_gives97
theorem resd89 {s : St} {t : Nat} : results CT 89 s [.tmp t] = moveGive s.box s (s.get t) := results_move CT_gives89
theorem resd75 {s : St} {t : Nat} : results CT 75 s [.tmp t] = moveGive s.box s (s.get t) := results_move CT_gives75
attribute [go_sem] resd91 Try.results91 resd120 Try.results120 resd92 Try.results92 resd93 Try.results93 resd97 Try.results97 resd64 Try.results64 resd65 Try.results65 resd99 Try.results99 resd66 Try.results66 resd125 Try.results125 resd126 Try.results126 resd100 Try.results100 resd67 Try.results67 resd101 Try.results101 resd127 Try.results127 resd102 Try.results102 resd103 Try.results103 resd68 Try.results68 resd27 Try.results27 resd31 Try.results31 resd70 Try.results70 resd30 Try.results30 resd69 Try.results69 resd29 Try.results29 resd32 Try.results32 resd24 Try.results24 resd25 Try.results25 resd118 Try.results118 resd88 Try.results88 resd28 Try.results28 resd89 Try.results89 resd59 Try.results59 resd21 Try.results21 resd26 Try.results26 resd9 Try.results9 resd10 Try.results10 resd11 Try.results11 resd18 Try.results18 resd104 Try.results104 resd71 Try.results71 resd72 Try.results72 resd73 Try.results73 resd105 Try.results105 resd106 Try.results106 resd128 Try.results128 Try.results107 resd74 Try.results74 resd33 Try.results33 resd34 Try.results34 resd35 Try.results35 resd36 Try.results36 resd37 Try.results37 resd75 Try.results75 resd39 Try.results39 resd38 Try.results38 resd12 Try.results12 resd40 Try.results40 resd41 Try.results41 resd13 Try.results13
theorem info80 : Try.prog.info? 80 = some Try.t80 := info_of someWorld Try.typeInfo80
theorem info3 : Try.prog.info? 3 = some Try.t3 := info_of someWorld Try.typeInfo3
theorem info31 : Try.prog.info? 31 = some Try.t31 := info_of someWorld Try.typeInfo31
theorem info102 : Try.prog.info? 102 = some Try.t102 := info_of someWorld Try.typeInfo102
theorem info143 : Try.prog.info? 143 = some Try.t143 := info_of someWorld Try.typeInfo143
theorem info138 : Try.prog.info? 138 = some Try.t138 := info_of someWorld Try.typeInfo138
theorem info137 : Try.prog.info? 137 = some Try.t137 := info_of someWorld Try.typeInfo137
theorem info5 : Try.prog.info? 5 = some Try.t5 := info_of someWorld Try.typeInfo5
theorem info140 : Try.prog.info? 140 = some Try.t140 := info_of someWorld Try.typeInfo140
theorem info93 : Try.prog.info? 93 = some Try.t93 := info_of someWorld Try.typeInfo93
theorem info61 : Try.prog.info? 61 = some Try.t61 := info_of someWorld Try.typeInfo61
theorem info56 : Try.prog.info? 56 = some Try.t56 := info_of someWorld Try.typeInfo56
theorem info95 : Try.prog.info? 95 = some Try.t95 := info_of someWorld Try.typeInfo95
theorem info49 : Try.prog.info? 49 = some Try.t49 := info_of someWorld Try.typeInfo49
theorem info22 : Try.prog.info? 22 = some Try.t22 := info_of someWorld Try.typeInfo22
theorem info147 : Try.prog.info? 147 = some Try.t147 := info_of someWorld Try.typeInfo147
theorem info42 : Try.prog.info? 42 = some Try.t42 := info_of someWorld Try.typeInfo42
theorem info64 : Try.prog.info? 64 = some Try.t64 := info_of someWorld Try.typeInfo64
theorem cells80 : Try.prog.cellsOf 80 = 2 := (cells_of info80).trans rfl
theorem cells3 : Try.prog.cellsOf 3 = 1 := (cells_of info3).trans rfl
theorem cells31 : Try.prog.cellsOf 31 = 1 := (cells_of info31).trans rfl
theorem cells102 : Try.prog.cellsOf 102 = 3 := (cells_of info102).trans rfl
theorem cells143 : Try.prog.cellsOf 143 = 256 := (cells_of info143).trans rfl
theorem cells138 : Try.prog.cellsOf 138 = 1 := (cells_of info138).trans rfl
theorem cells137 : Try.prog.cellsOf 137 = 4352 := (cells_of info137).trans rfl
theorem cells5 : Try.prog.cellsOf 5 = 1 := (cells_of info5).trans rfl
theorem cells140 : Try.prog.cellsOf 140 = 4353 := (cells_of info140).trans rfl
theorem cells93 : Try.prog.cellsOf 93 = 1 := (cells_of info93).trans rfl
theorem cells61 : Try.prog.cellsOf 61 = 1 := (cells_of info61).trans rfl
theorem cells56 : Try.prog.cellsOf 56 = 1 := (cells_of info56).trans rfl
theorem cells95 : Try.prog.cellsOf 95 = 3 := (cells_of info95).trans rfl
theorem cells49 : Try.prog.cellsOf 49 = 1 := (cells_of info49).trans rfl
theorem cells22 : Try.prog.cellsOf 22 = 1 := (cells_of info22).trans rfl
theorem cells147 : Try.prog.cellsOf 147 = 2 := (cells_of info147).trans rfl
theorem cells42 : Try.prog.cellsOf 42 = 1 := (cells_of info42).trans rfl
theorem cells64 : Try.prog.cellsOf 64 = 3 := (cells_of info64).trans rfl
theorem zok80 : zeroOk Try.prog 80 = true := by unfold zeroOk; rw [info80]; rfl
theorem bytes80 : Try.prog.bytesOf 80 = 16 := (bytes_of info80).trans rfl
theorem zfits80 : zeroFits Try.prog 80 = true := by unfold zeroFits; rw [info80]; rfl
theorem zeros80 : zeroCVs Try.prog 80 = some [.val (.int .i64 (0 : Int)), .val (.int .i64 (0 : Int))] := by
  unfold zeroCVs isAg; rw [info80, Try.underlying80]; simp [bs, zeroCV, Try.t80]
theorem zeros3 : zeroCVs Try.prog 3 = some [.val (.int .i64 (0 : Int))] := by
  unfold zeroCVs isAg; rw [info3, Try.underlying3]; simp [bs, zeroCV, Try.t3]
theorem eqs80 : Try.prog.stoodInHeld 80 = false := by kernel_rfl
theorem eqg80 : Try.prog.eqGuardType Try.prog.depth 80 = false := by kernel_rfl
theorem eqBeql80 {a0 b0 : Int} {a1 b1 : Int} : eqBin Try.prog .eql 80 (.agg [.int .i64 a0, .int .i64 a1]) (.agg [.int .i64 b0, .int .i64 b1]) = some (.bool (a0 == b0 && (a1 == b1 && true))) :=
  eqBin_eql (eqD_of Try.underlying80 eqs80 eqg80 (eqF_cons (by simp [isAg, Try.underlying3]) (by simp [eqF1, Try.underlying3, scalarEq, bs_beq']) (eqF_cons (by simp [isAg, Try.underlying3]) (by simp [eqF1, Try.underlying3, scalarEq, bs_beq']) eqF_nil)))
theorem eqBneq80 {a0 b0 : Int} {a1 b1 : Int} : eqBin Try.prog .neq 80 (.agg [.int .i64 a0, .int .i64 a1]) (.agg [.int .i64 b0, .int .i64 b1]) = some (.bool (!(a0 == b0 && (a1 == b1 && true)))) :=
  eqBin_neq (eqD_of Try.underlying80 eqs80 eqg80 (eqF_cons (by simp [isAg, Try.underlying3]) (by simp [eqF1, Try.underlying3, scalarEq, bs_beq']) (eqF_cons (by simp [isAg, Try.underlying3]) (by simp [eqF1, Try.underlying3, scalarEq, bs_beq']) eqF_nil)))
theorem zok3 : zeroOk Try.prog 3 = true := by unfold zeroOk; rw [info3]; rfl
theorem bytes3 : Try.prog.bytesOf 3 = 8 := (bytes_of info3).trans rfl
theorem zfits3 : zeroFits Try.prog 3 = true := by unfold zeroFits; rw [info3]; rfl
theorem zd3 : zeroD Try.prog 3 = some (.int .i64 (0 : Int)) := by
  unfold zeroD ofCells isAg; rw [zeros3, cells3, Try.underlying3]; simp [toDs, CV.toD, bs, DVal.cells]
theorem keyA143 {v : Vector UInt8 256} : isKey Try.prog 143 (.array 256 5) (.agg (List.map eU v.toList)) = true := isKey_AU Try.underlying5 cells5
theorem zok143 : zeroOk Try.prog 143 = true := by unfold zeroOk; rw [info143]; rfl
theorem bytes143 : Try.prog.bytesOf 143 = 256 := (bytes_of info143).trans rfl
theorem zfits143 : zeroFits Try.prog 143 = true := by unfold zeroFits; rw [info143]; kernel_rfl
theorem fok140 : fieldsOk Try.prog 140 = true := by
  unfold fieldsOk; rw [Try.underlying140]; simp [info137, info138]
theorem place140_0 : place Try.prog 140 0 = some (0, 4352) := by
  unfold place; rw [Try.underlying140]; simp [cells137]
theorem place140_1 : place Try.prog 140 1 = some (4352, 1) := by
  unfold place; rw [Try.underlying140]; simp [cells138]
theorem zeros140 : zeroCVs Try.prog 140 = some (avals eU (Vector.replicate 4352 (0 : UInt8)) ++ ([.nil] : List CV)) := by
  unfold zeroCVs isAg; rw [info140, Try.underlying140]; kernel_rfl
theorem zeros137 : zeroCVs Try.prog 137 = some (avals eU (Vector.replicate 4352 (0 : UInt8))) := by
  unfold zeroCVs isAg; rw [info137, Try.underlying137]; kernel_rfl
theorem zeros5 : zeroCVs Try.prog 5 = some [.val (.int .u8 (0 : Int))] := by
  unfold zeroCVs isAg; rw [info5, Try.underlying5]; simp [bs, zeroCV, Try.t5]
theorem zeros138 : zeroCVs Try.prog 138 = some [.nil] := by
  unfold zeroCVs isAg; rw [info138, Try.underlying138]; simp [bs, zeroCV, Try.t138]
theorem zeros143 : zeroCVs Try.prog 143 = some (avals eU (Vector.replicate 256 (0 : UInt8))) := by
  unfold zeroCVs isAg; rw [info143, Try.underlying143]; kernel_rfl
theorem zeros102 : zeroCVs Try.prog 102 = some [.val (.int .i64 (0 : Int)), .val (.int .i64 (0 : Int)), .val (.int .u8 (0 : Int))] := by
  unfold zeroCVs isAg; rw [info102, Try.underlying102]; simp [bs, zeroCV, Try.t102]
theorem fok95 : fieldsOk Try.prog 95 = true := by
  unfold fieldsOk; rw [Try.underlying95]; simp [info93, info61, info56]
theorem place95_0 : place Try.prog 95 0 = some (0, 1) := by
  unfold place; rw [Try.underlying95]; simp [cells93]
theorem place95_1 : place Try.prog 95 1 = some (1, 1) := by
  unfold place; rw [Try.underlying95]; simp [cells61]
theorem place95_2 : place Try.prog 95 2 = some (2, 1) := by
  unfold place; rw [Try.underlying95]; simp [cells56]
theorem zeros95 : zeroCVs Try.prog 95 = some [.val (.ptr none), .nil, .nil] := by
  unfold zeroCVs isAg; rw [info95, Try.underlying95]; simp [bs, zeroCV, Try.t95]
theorem zeros93 : zeroCVs Try.prog 93 = some [.val (.ptr none)] := by
  unfold zeroCVs isAg; rw [info93, Try.underlying93]; simp [bs, zeroCV, Try.t93]
theorem zeros61 : zeroCVs Try.prog 61 = some [.nil] := by
  unfold zeroCVs isAg; rw [info61, Try.underlying61]; simp [bs, zeroCV, Try.t61]
theorem zeros56 : zeroCVs Try.prog 56 = some [.nil] := by
  unfold zeroCVs isAg; rw [info56, Try.underlying56]; simp [bs, zeroCV, Try.t56]
theorem zok49 : zeroOk Try.prog 49 = true := by unfold zeroOk; rw [info49]; rfl
theorem bytes49 : Try.prog.bytesOf 49 = 8 := (bytes_of info49).trans rfl
theorem zfits49 : zeroFits Try.prog 49 = true := by unfold zeroFits; rw [info49]; rfl
theorem fok102 : fieldsOk Try.prog 102 = true := by
  unfold fieldsOk; rw [Try.underlying102]; simp [info3, info3, info5]
theorem place102_0 : place Try.prog 102 0 = some (0, 1) := by
  unfold place; rw [Try.underlying102]; simp [cells3]
theorem place102_1 : place Try.prog 102 1 = some (1, 1) := by
  unfold place; rw [Try.underlying102]; simp [cells3]
theorem place102_2 : place Try.prog 102 2 = some (2, 1) := by
  unfold place; rw [Try.underlying102]; simp [cells5]
theorem zok102 : zeroOk Try.prog 102 = true := by unfold zeroOk; rw [info102]; rfl
theorem bytes102 : Try.prog.bytesOf 102 = 24 := (bytes_of info102).trans rfl
theorem zfits102 : zeroFits Try.prog 102 = true := by unfold zeroFits; rw [info102]; rfl
theorem fok80 : fieldsOk Try.prog 80 = true := by
  unfold fieldsOk; rw [Try.underlying80]; simp [info3, info3]
theorem place80_0 : place Try.prog 80 0 = some (0, 1) := by
  unfold place; rw [Try.underlying80]; simp [cells3]
theorem place80_1 : place Try.prog 80 1 = some (1, 1) := by
  unfold place; rw [Try.underlying80]; simp [cells3]
theorem zok31 : zeroOk Try.prog 31 = true := by unfold zeroOk; rw [info31]; rfl
theorem pnneql45 : eqBin Try.prog .eql 45 (.ptr none) (.ptr none) = some (.bool true) := by simp [eqBin, eqD, Try.underlying45, scalarEq]
theorem pnnneq45 : eqBin Try.prog .neq 45 (.ptr none) (.ptr none) = some (.bool false) := by simp [eqBin, eqD, Try.underlying45, scalarEq]
theorem psneql45 {a : Nat × Nat} : eqBin Try.prog .eql 45 (.ptr (some a)) (.ptr none) = some (.bool false) := by simp [eqBin, eqD, Try.underlying45, scalarEq]
theorem psnneq45 {a : Nat × Nat} : eqBin Try.prog .neq 45 (.ptr (some a)) (.ptr none) = some (.bool true) := by simp [eqBin, eqD, Try.underlying45, scalarEq]
theorem pnseql45 {a : Nat × Nat} : eqBin Try.prog .eql 45 (.ptr none) (.ptr (some a)) = some (.bool false) := by simp [eqBin, eqD, Try.underlying45, scalarEq]
theorem pnsneq45 {a : Nat × Nat} : eqBin Try.prog .neq 45 (.ptr none) (.ptr (some a)) = some (.bool true) := by simp [eqBin, eqD, Try.underlying45, scalarEq]
theorem bytes31 : Try.prog.bytesOf 31 = 24 := (bytes_of info31).trans rfl
theorem zfits31 : zeroFits Try.prog 31 = true := by unfold zeroFits; rw [info31]; rfl
theorem eqb4 {a b : Bool} : eqBin Try.prog .eql 4 (.bool a) (.bool b) = some (.bool (a == b)) := by simp [eqBin, eqD, Try.underlying4, scalarEq]
theorem neb4 {a b : Bool} : eqBin Try.prog .neq 4 (.bool a) (.bool b) = some (.bool (!(a == b))) := by simp [eqBin, eqD, Try.underlying4, scalarEq]
theorem bytes5 : Try.prog.bytesOf 5 = 1 := (bytes_of info5).trans rfl
theorem zfits5 : zeroFits Try.prog 5 = true := by unfold zeroFits; rw [info5]; rfl
theorem fok147 : fieldsOk Try.prog 147 = true := by
  unfold fieldsOk; rw [Try.underlying147]; simp [info22, info56]
theorem place147_0 : place Try.prog 147 0 = some (0, 1) := by
  unfold place; rw [Try.underlying147]; simp [cells22]
theorem place147_1 : place Try.prog 147 1 = some (1, 1) := by
  unfold place; rw [Try.underlying147]; simp [cells56]
theorem zeros147 : zeroCVs Try.prog 147 = some [.nil, .nil] := by
  unfold zeroCVs isAg; rw [info147, Try.underlying147]; simp [bs, zeroCV, Try.t147]
theorem zeros22 : zeroCVs Try.prog 22 = some [.nil] := by
  unfold zeroCVs isAg; rw [info22, Try.underlying22]; simp [bs, zeroCV, Try.t22]
theorem zd5 : zeroD Try.prog 5 = some (.int .u8 ((0 : UInt8).toNat : Int)) := by
  unfold zeroD ofCells isAg; rw [zeros5, cells5, Try.underlying5]; simp [toDs, CV.toD, bs, DVal.cells]
theorem fok64 : fieldsOk Try.prog 64 = true := by
  unfold fieldsOk; rw [Try.underlying64]; simp [info42, info61, info56]
theorem place64_0 : place Try.prog 64 0 = some (0, 1) := by
  unfold place; rw [Try.underlying64]; simp [cells42]
theorem place64_1 : place Try.prog 64 1 = some (1, 1) := by
  unfold place; rw [Try.underlying64]; simp [cells61]
theorem place64_2 : place Try.prog 64 2 = some (2, 1) := by
  unfold place; rw [Try.underlying64]; simp [cells56]
theorem zeros64 : zeroCVs Try.prog 64 = some [.nil, .nil, .nil] := by
  unfold zeroCVs isAg; rw [info64, Try.underlying64]; simp [bs, zeroCV, Try.t64]
theorem zeros42 : zeroCVs Try.prog 42 = some [.nil] := by
  unfold zeroCVs isAg; rw [info42, Try.underlying42]; simp [bs, zeroCV, Try.t42]
theorem pnneql57 : eqBin Try.prog .eql 57 (.ptr none) (.ptr none) = some (.bool true) := by simp [eqBin, eqD, Try.underlying57, scalarEq]
theorem pnnneq57 : eqBin Try.prog .neq 57 (.ptr none) (.ptr none) = some (.bool false) := by simp [eqBin, eqD, Try.underlying57, scalarEq]
theorem psneql57 {a : Nat × Nat} : eqBin Try.prog .eql 57 (.ptr (some a)) (.ptr none) = some (.bool false) := by simp [eqBin, eqD, Try.underlying57, scalarEq]
theorem psnneq57 {a : Nat × Nat} : eqBin Try.prog .neq 57 (.ptr (some a)) (.ptr none) = some (.bool true) := by simp [eqBin, eqD, Try.underlying57, scalarEq]
theorem pnseql57 {a : Nat × Nat} : eqBin Try.prog .eql 57 (.ptr none) (.ptr (some a)) = some (.bool false) := by simp [eqBin, eqD, Try.underlying57, scalarEq]
theorem pnsneq57 {a : Nat × Nat} : eqBin Try.prog .neq 57 (.ptr none) (.ptr (some a)) = some (.bool true) := by simp [eqBin, eqD, Try.underlying57, scalarEq]
attribute [go_sem] CT_P cells80 Try.underlying80 cells3 Try.underlying3 Try.underlying31 zok80 bytes80 zfits80 zeros80 zeros3 eqBeql80 eqBneq80 Try.underlying56 zok3 Try.underlying42 cells31 bytes3 zfits3 Try.underlying52 Try.underlying49 cells102 Try.underlying102 Try.underlying98 cells143 Try.underlying143 Try.underlying141 zd3 keyA143 Try.underlying140 cells138 Try.underlying138 zok143 bytes143 zfits143 Try.underlying5 cells137 Try.underlying137 cells5 fok140 place140_0 place140_1 zeros140 zeros137 zeros5 zeros138 cells140 zeros143 zeros102 Try.underlying25 Try.underlying95 fok95 place95_0 place95_1 place95_2 zeros95 Try.underlying93 zeros93 Try.underlying61 zeros61 zeros56 cells93 cells61 cells56 cells95 Try.underlying96 cells49 zok49 bytes49 zfits49 fok102 place102_0 place102_1 place102_2 zok102 bytes102 zfits102 fok80 place80_0 place80_1 zok31 Try.underlying45 pnneql45 pnnneq45 psneql45 psnneq45 pnseql45 pnsneq45 bytes31 zfits31 Try.underlying4 eqb4 neb4 Try.underlying64 Try.underlying147 cells22 Try.underlying22 bytes5 zfits5 fok147 place147_0 place147_1 zeros147 zeros22 cells147 zd5 fok64 place64_0 place64_1 place64_2 zeros64 zeros42 cells42 cells64 Try.underlying57 pnneql57 pnnneq57 psneql57 psnneq57 pnseql57 pnsneq57
attribute [go_sem] CT_how91_0 CT_how120_0 CT_how120_1 CT_how92_0 CT_how92_1 CT_how93_0 CT_how97_0 CT_how97_1 CT_how64_0 CT_how65_0 CT_how65_1 CT_how99_0 CT_how66_0 CT_how125_0 CT_how125_1 CT_how125_2 CT_how126_0 CT_how126_1 CT_how100_0 CT_how100_1 CT_how67_0 CT_how67_1 CT_how101_0 CT_how127_0 CT_how127_1 CT_how102_0 CT_how102_1 CT_how103_0 CT_how103_1 CT_how103_2 CT_how103_3 CT_how68_0 CT_how27_0 CT_how31_0 CT_how70_0 CT_how70_1 CT_how30_0 CT_how30_1 CT_how69_0 CT_how69_1 CT_how29_0 CT_how29_1 CT_how32_0 CT_how32_1 CT_how25_0 CT_how118_0 CT_how118_1 CT_how88_0 CT_how88_1 CT_how28_0 CT_how28_1 CT_how89_0 CT_how89_1 CT_how89_2 CT_how59_0 CT_how59_1 CT_how59_2 CT_how21_0 CT_how26_0 CT_how9_0 CT_how9_1 CT_how9_2 CT_how10_0 CT_how10_1 CT_how11_0 CT_how11_1 CT_how11_2 CT_how18_0 CT_how18_1 CT_how104_0 CT_how104_1 CT_how71_0 CT_how72_0 CT_how72_1 CT_how73_0 CT_how73_1 CT_how105_0 CT_how105_1 CT_how106_0 CT_how106_1 CT_how128_0 CT_how128_1 CT_how107_0 CT_how107_1 CT_how74_0 CT_how33_0 CT_how34_0 CT_how34_1 CT_how35_0 CT_how35_1 CT_how36_0 CT_how36_1 CT_how37_0 CT_how75_0 CT_how39_0 CT_how38_0 CT_how38_1 CT_how12_0 CT_how12_1 CT_how40_0 CT_how40_1 CT_how41_0 CT_how41_1 CT_how13_0 CT_how13_1
end Go.Val

/- part JR -/
/- Typed data of the laws' arguments (chapter 09). -/
namespace Go.Val
open Go.Proofs
set_option linter.unusedVariables false
set_option maxRecDepth 100000
theorem mixed : Try.prog.follows .mixedOrders = true := by kernel_rfl
theorem isT_Range {m : Nat} {ds : List DVal} (h : isT Try.prog (m + 2) 80 ds) : ∃ x : TRange, ds = (eRange x).cells := by
  unfold isT at h
  rw [Try.underlying80] at h
  simp only [isF] at h
  obtain ⟨a, b, rfl, h1, c, d, rfl, h2, rfl⟩ := h
  obtain ⟨n, rfl, _⟩ := isT_i64 Try.underlying3 h1
  obtain ⟨k, rfl, _⟩ := isT_i64 Try.underlying3 h2
  exact ⟨⟨n, k⟩, rfl⟩
theorem isT_ranges {m : Nat} {ds : List DVal} (h : isT Try.prog (m + 3) 31 ds) : ∃ l : List TRange, ds = [eL eRange l] ∧ l.length ≤ maxLen :=
  isT_slice Try.underlying31 h fun x hx hag _ => by
    obtain ⟨y, hy⟩ := isT_Range hx
    obtain ⟨cs, rfl⟩ := hag (by simp [isAg, Try.underlying80])
    exact ⟨y, by simp only [DVal.cells] at hy; rw [hy]; rfl⟩
theorem isT_rangess {m : Nat} {ds : List DVal} (h : isT Try.prog (m + 4) 42 ds) : ∃ l : List (List TRange), ds = [eL (eL eRange) l] ∧ l.length ≤ maxLen :=
  isT_slice Try.underlying42 h fun x hx _ ho => by
    obtain ⟨l, hl, _⟩ := isT_ranges hx
    exact ⟨l, one_of hl (ho (by simp [isAg, Try.underlying31]))⟩
theorem isT_ints {m : Nat} {ds : List DVal} (h : isT Try.prog (m + 2) 56 ds) : ∃ l : List Int, ds = [eL eI l] ∧ l.length ≤ maxLen :=
  isT_slice Try.underlying56 h fun x hx _ ho => by
    obtain ⟨n, hn, _⟩ := isT_i64 Try.underlying3 hx
    exact ⟨n, one_of hn (ho (by simp [isAg, Try.underlying3]))⟩
end Go.Val

/- part IL -/
/- The kit's contracts of slices.SortFunc and cmp.Compare laid at this program: plain text, written by program. -/
namespace Go.Val
open Go.Proofs Go.Shelf
def sortRg_ren : Go.Shelf.Ren := ⟨fun | 6 => 94 | 15 => 122 | 14 => 121 | 28 => 142 | 29 => 143 | 20 => 134 | 21 => 135 | 22 => 136 | 23 => 137 | 24 => 138 | 25 => 139 | 26 => 140 | 27 => 141 | 46 => 156 | 47 => 157 | 48 => 158 | 49 => 159 | 50 => 160 | 57 => 164 | n => n, fun | 22 => 31 | 24 => 80 | 25 => 131 | 3 => 3 | 39 => 52 | 0 => 0 | 53 => 174 | 55 => 49 | 4 => 4 | 46 => 168 | 45 => 167 | 50 => 100 | 5 => 5 | 9 => 9 | 66 => 181 | 70 => 185 | 76 => 189 | 77 => 190 | n => n, fun | n => n⟩
theorem sortRg : Go.Proofs.SlLaysF0.n6 Try.prog sortRg_ren := {
  mixed := by kernel_rfl
  f6 := ⟨Try.f94.name, by decide, Try.func94.trans (congrArg some (by kernel_rfl))⟩
  f14 := ⟨Try.f121.name, by decide, Try.func121.trans (congrArg some (by kernel_rfl))⟩
  f15 := Try.func122.trans (congrArg some (by kernel_rfl))
  f20 := ⟨Try.f134.name, by decide, Try.func134.trans (congrArg some (by kernel_rfl))⟩
  f21 := ⟨Try.f135.name, by decide, Try.func135.trans (congrArg some (by kernel_rfl))⟩
  f22 := ⟨Try.f136.name, by decide, Try.func136.trans (congrArg some (by kernel_rfl))⟩
  f23 := ⟨Try.f137.name, by decide, Try.func137.trans (congrArg some (by kernel_rfl))⟩
  f24 := ⟨Try.f138.name, by decide, Try.func138.trans (congrArg some (by kernel_rfl))⟩
  f25 := ⟨Try.f139.name, by decide, Try.func139.trans (congrArg some (by kernel_rfl))⟩
  f26 := ⟨Try.f140.name, by decide, Try.func140.trans (congrArg some (by kernel_rfl))⟩
  f27 := ⟨Try.f141.name, by decide, Try.func141.trans (congrArg some (by kernel_rfl))⟩
  f28 := Try.func142.trans (congrArg some (by kernel_rfl))
  f29 := Try.func143.trans (congrArg some (by kernel_rfl))
  f46 := ⟨Try.f156.name, by decide, Try.func156.trans (congrArg some (by kernel_rfl))⟩
  f47 := Try.func157.trans (congrArg some (by kernel_rfl))
  f48 := Try.func158.trans (congrArg some (by kernel_rfl))
  f49 := ⟨Try.f159.name, by decide, Try.func159.trans (congrArg some (by kernel_rfl))⟩
  f50 := ⟨Try.f160.name, by decide, Try.func160.trans (congrArg some (by kernel_rfl))⟩
  f57 := ⟨Try.f164.name, by decide, Try.func164.trans (congrArg some (by kernel_rfl))⟩
  t0 := Try.underlying0
  a0 := Try.isAgg0
  z0 := Try.sizeOf0
  v0 := Try.zeroValue0
  t3 := Try.underlying3
  a3 := Try.isAgg3
  z3 := Try.sizeOf3
  v3 := Try.zeroValue3
  t4 := Try.underlying4
  a4 := Try.isAgg4
  z4 := Try.sizeOf4
  v4 := Try.zeroValue4
  t5 := Try.underlying5
  a5 := Try.isAgg5
  z5 := Try.sizeOf5
  v5 := Try.zeroValue5
  t9 := Try.underlying9
  a9 := Try.isAgg9
  z9 := Try.sizeOf9
  v9 := Try.zeroValue9
  t22 := Try.underlying31
  a22 := Try.isAgg31
  z22 := Try.sizeOf31
  v22 := Try.zeroValue31
  t25 := Try.underlying131
  a25 := Try.isAgg131
  z25 := Try.sizeOf131
  v25 := Try.zeroValue131
  t39 := Try.underlying52
  a39 := Try.isAgg52
  z39 := Try.sizeOf52
  v39 := Try.zeroValue52
  t45 := Try.underlying167
  a45 := Try.isAgg167
  z45 := Try.sizeOf167
  v45 := Try.zeroValue167
  t46 := Try.underlying168
  a46 := Try.isAgg168
  z46 := Try.sizeOf168
  v46 := Try.zeroValue168
  t50 := Try.underlying100
  a50 := Try.isAgg100
  z50 := Try.sizeOf100
  v50 := Try.zeroValue100
  t53 := Try.underlying174
  a53 := Try.isAgg174
  z53 := Try.sizeOf174
  v53 := Try.zeroValue174
  t55 := Try.underlying49
  a55 := Try.isAgg49
  z55 := Try.sizeOf49
  v55 := Try.zeroValue49
  t66 := Try.underlying181
  a66 := Try.isAgg181
  z66 := Try.sizeOf181
  v66 := Try.zeroValue181
  t70 := Try.underlying185
  a70 := Try.isAgg185
  z70 := Try.sizeOf185
  v70 := Try.zeroValue185
  t76 := Try.underlying189
  a76 := Try.isAgg189
  z76 := Try.sizeOf189
  v76 := Try.zeroValue189
  t77 := Try.underlying190
  a77 := Try.isAgg190
  z77 := Try.sizeOf190
  v77 := Try.zeroValue190 }

def cmpInt_ren : Go.Shelf.Ren := ⟨fun | 5 => 96 | 7 => 123 | n => n, fun | 22 => 3 | 3 => 3 | 4 => 4 | n => n, fun | n => n⟩
theorem cmpInt : Go.Proofs.SlLaysC2.n5 Try.prog cmpInt_ren := {
  mixed := by kernel_rfl
  f5 := ⟨Try.f96.name, by decide, Try.func96.trans (congrArg some (by kernel_rfl))⟩
  f7 := ⟨Try.f123.name, by decide, Try.func123.trans (congrArg some (by kernel_rfl))⟩
  t3 := Try.underlying3
  a3 := Try.isAgg3
  z3 := Try.sizeOf3
  v3 := Try.zeroValue3
  t4 := Try.underlying4
  a4 := Try.isAgg4
  z4 := Try.sizeOf4
  v4 := Try.zeroValue4
  t22 := Try.underlying3
  a22 := Try.isAgg3
  z22 := Try.sizeOf3
  v22 := Try.zeroValue3 }
end Go.Val

/- part JL -/
/- The kit's contracts of slices.Sort and slices.Compact at ints laid at this program: plain text, written by program. -/
namespace Go.Val
open Go.Proofs Go.Shelf
def sortI_ren : Go.Shelf.Ren := ⟨fun | 43 => 99 | 53 => 98 | 59 => 150 | 63 => 124 | 64 => 122 | 68 => 123 | 70 => 144 | 71 => 145 | 72 => 146 | 73 => 147 | 74 => 148 | 75 => 149 | 76 => 151 | 77 => 152 | 78 => 142 | 79 => 143 | 88 => 161 | 89 => 157 | 90 => 158 | 91 => 162 | 92 => 163 | 96 => 165 | n => n, fun | 0 => 0 | 3 => 3 | 4 => 4 | 5 => 5 | 9 => 9 | 22 => 56 | 23 => 3 | 44 => 100 | 51 => 52 | 60 => 167 | 61 => 168 | 67 => 174 | 69 => 49 | 75 => 181 | 79 => 185 | 83 => 189 | 84 => 190 | n => n, fun | n => n⟩
theorem sortIg : Go.Proofs.SlLaysN.n53 Try.prog sortI_ren := {
  mixed := by kernel_rfl
  f53 := ⟨Try.f98.name, by decide, Try.func98.trans (congrArg some (by kernel_rfl))⟩
  f59 := ⟨Try.f150.name, by decide, Try.func150.trans (congrArg some (by kernel_rfl))⟩
  f63 := ⟨Try.f124.name, by decide, Try.func124.trans (congrArg some (by kernel_rfl))⟩
  f64 := Try.func122.trans (congrArg some (by kernel_rfl))
  f68 := ⟨Try.f123.name, by decide, Try.func123.trans (congrArg some (by kernel_rfl))⟩
  f70 := ⟨Try.f144.name, by decide, Try.func144.trans (congrArg some (by kernel_rfl))⟩
  f71 := ⟨Try.f145.name, by decide, Try.func145.trans (congrArg some (by kernel_rfl))⟩
  f72 := ⟨Try.f146.name, by decide, Try.func146.trans (congrArg some (by kernel_rfl))⟩
  f73 := ⟨Try.f147.name, by decide, Try.func147.trans (congrArg some (by kernel_rfl))⟩
  f74 := ⟨Try.f148.name, by decide, Try.func148.trans (congrArg some (by kernel_rfl))⟩
  f75 := ⟨Try.f149.name, by decide, Try.func149.trans (congrArg some (by kernel_rfl))⟩
  f76 := ⟨Try.f151.name, by decide, Try.func151.trans (congrArg some (by kernel_rfl))⟩
  f77 := ⟨Try.f152.name, by decide, Try.func152.trans (congrArg some (by kernel_rfl))⟩
  f78 := Try.func142.trans (congrArg some (by kernel_rfl))
  f79 := Try.func143.trans (congrArg some (by kernel_rfl))
  f88 := ⟨Try.f161.name, by decide, Try.func161.trans (congrArg some (by kernel_rfl))⟩
  f89 := Try.func157.trans (congrArg some (by kernel_rfl))
  f90 := Try.func158.trans (congrArg some (by kernel_rfl))
  f91 := ⟨Try.f162.name, by decide, Try.func162.trans (congrArg some (by kernel_rfl))⟩
  f92 := ⟨Try.f163.name, by decide, Try.func163.trans (congrArg some (by kernel_rfl))⟩
  f96 := ⟨Try.f165.name, by decide, Try.func165.trans (congrArg some (by kernel_rfl))⟩
  t0 := Try.underlying0
  a0 := Try.isAgg0
  z0 := Try.sizeOf0
  v0 := Try.zeroValue0
  t3 := Try.underlying3
  a3 := Try.isAgg3
  z3 := Try.sizeOf3
  v3 := Try.zeroValue3
  t4 := Try.underlying4
  a4 := Try.isAgg4
  z4 := Try.sizeOf4
  v4 := Try.zeroValue4
  t5 := Try.underlying5
  a5 := Try.isAgg5
  z5 := Try.sizeOf5
  v5 := Try.zeroValue5
  t9 := Try.underlying9
  a9 := Try.isAgg9
  z9 := Try.sizeOf9
  v9 := Try.zeroValue9
  t22 := Try.underlying56
  a22 := Try.isAgg56
  z22 := Try.sizeOf56
  v22 := Try.zeroValue56
  t23 := Try.underlying3
  a23 := Try.isAgg3
  z23 := Try.sizeOf3
  v23 := Try.zeroValue3
  t44 := Try.underlying100
  a44 := Try.isAgg100
  z44 := Try.sizeOf100
  v44 := Try.zeroValue100
  t51 := Try.underlying52
  a51 := Try.isAgg52
  z51 := Try.sizeOf52
  v51 := Try.zeroValue52
  t60 := Try.underlying167
  a60 := Try.isAgg167
  z60 := Try.sizeOf167
  v60 := Try.zeroValue167
  t61 := Try.underlying168
  a61 := Try.isAgg168
  z61 := Try.sizeOf168
  v61 := Try.zeroValue168
  t67 := Try.underlying174
  a67 := Try.isAgg174
  z67 := Try.sizeOf174
  v67 := Try.zeroValue174
  t69 := Try.underlying49
  a69 := Try.isAgg49
  z69 := Try.sizeOf49
  v69 := Try.zeroValue49
  t75 := Try.underlying181
  a75 := Try.isAgg181
  z75 := Try.sizeOf181
  v75 := Try.zeroValue181
  t79 := Try.underlying185
  a79 := Try.isAgg185
  z79 := Try.sizeOf185
  v79 := Try.zeroValue185
  t83 := Try.underlying189
  a83 := Try.isAgg189
  z83 := Try.sizeOf189
  v83 := Try.zeroValue189
  t84 := Try.underlying190
  a84 := Try.isAgg190
  z84 := Try.sizeOf190
  v84 := Try.zeroValue190 }
theorem compactIg : Go.Proofs.SlLaysN.n43 Try.prog sortI_ren := {
  mixed := by kernel_rfl
  f43 := ⟨Try.f99.name, by decide, Try.func99.trans (congrArg some (by kernel_rfl))⟩
  t0 := Try.underlying0
  a0 := Try.isAgg0
  z0 := Try.sizeOf0
  v0 := Try.zeroValue0
  t3 := Try.underlying3
  a3 := Try.isAgg3
  z3 := Try.sizeOf3
  v3 := Try.zeroValue3
  t4 := Try.underlying4
  a4 := Try.isAgg4
  z4 := Try.sizeOf4
  v4 := Try.zeroValue4
  t22 := Try.underlying56
  a22 := Try.isAgg56
  z22 := Try.sizeOf56
  v22 := Try.zeroValue56
  t23 := Try.underlying3
  a23 := Try.isAgg3
  z23 := Try.sizeOf3
  v23 := Try.zeroValue3
  i23 := by kernel_rfl }
end Go.Val

/- part JY -/
/- What the program turns in place: slices.SortFunc at ranges does in the machine what is said of it (by the kit's contract). -/
namespace Go.Proofs.IR
open Go.Shelf Go.RowKit Go.Lib Go.Sort Go.Val
set_option linter.unusedVariables false
set_option maxRecDepth 100000
def encR (x : TRange) : List Value := [.int .i64 x.Low, .int .i64 x.High]
set_option maxHeartbeats 1000000 in
theorem closure95 (x y : TRange) (W : World) : Calls Try.prog 95 #[.agg #[.int .i64 x.Low, .int .i64 x.High], .agg #[.int .i64 y.Low, .int .i64 y.High]] W fun e w' => e = .returned (.int .i64 (Lib.compareInt x.Low y.Low)) ∧ ∃ q os', w' = Sort.grow (W.drewN q) os' := by
  have hcon := fun W' => AnyG.cmp_Compare_int cmpInt x.Low y.Low W'
  change ∀ W', Calls Try.prog 96 _ _ _ at hcon
  generalize Lib.compareInt x.Low y.Low = r at hcon ⊢
  go_enter Try.func95, Try.ntmps95
  go_wp2_with (go_at_call 96; refine (hcon _).mono ?_; rintro e w' ⟨rfl, rfl⟩)
  go_ret
  exact ⟨rfl, 0, _, by rw [alloc_eq_grow, alloc_eq_grow, grow_grow]; rfl⟩
theorem cmpLays95 (blk off size : Nat) (w : World) : CmpLays Try.prog 95 #[] encR 2 (fun x y => Lib.compareInt x.Low y.Low) blk off size w :=
  fun _ _ _ _ x y => closure95 x y _
theorem ltLow : ltOf (fun x y : TRange => Lib.compareInt x.Low y.Low) = ltR := by
  funext x y
  unfold ltOf Lib.compareInt ltR
  by_cases h1 : x.Low < y.Low
  · simp [h1]
  · by_cases h2 : y.Low < x.Low <;> simp [h1, h2]
theorem swoR : SWO ltR where
  irrefl x := by simp [ltR]
  trans x y z h1 h2 := by simp [ltR] at *; omega
  ntrans x y z h1 h2 := by simp [ltR] at *; omega
variable {w : World} {G : Gh}
theorem vals_of : ∀ {l : List TRange} {vs : List Value}, RelCs w G (allCells (l.map eRange)) vs → vs = l.flatMap encR
  | [], vs, h => by
    have h' : RelCs w G [] vs := h
    cases h'; rfl
  | a :: l, vs, h => by
    have h' : RelCs w G (.int .i64 a.Low :: .int .i64 a.High :: allCells (l.map eRange)) vs := h
    cases h' with
    | cons _ v _ vs _ h1 h2 =>
      cases h2 with
      | cons _ v2 _ vs2 _ h3 h4 =>
        cases h1; cases h3
        rw [vals_of h4]; rfl
theorem rel_of : ∀ (l : List TRange), RelCs w G (allCells (l.map eRange)) (l.flatMap encR)
  | [] => .nil
  | a :: l => .cons _ _ _ _ rfl (.int _ _) (.cons _ _ _ _ rfl (.int _ _) (rel_of l))
theorem flat_len : ∀ (l : List TRange), (l.flatMap encR).length = l.length * 2
  | [] => rfl
  | a :: l => by simp only [List.flatMap_cons, List.length_append, flat_len l, List.length_cons, encR]; simp; omega
theorem flat_get : ∀ (l : List TRange) (t : Nat), t < l.length * 2 → (l.flatMap encR)[t]? = some ((encR l.toArray[t / 2]!)[t % 2]!)
  | [], t, h => by simp at h
  | a :: l, 0, h => rfl
  | a :: l, 1, h => rfl
  | a :: l, t + 2, h => by
    have ih := flat_get l t (by simp at h; omega)
    have e1 : (t + 2) / 2 = t / 2 + 1 := by omega
    have e2 : (t + 2) % 2 = t % 2 := by omega
    rw [e1, e2]
    have e3 : (a :: l).toArray[t / 2 + 1]! = l.toArray[t / 2]! := by simp [Array.getElem!_eq_getD, Array.getD_eq_getD_getElem?]
    rw [e3]
    have e4 : ((a :: l).flatMap encR)[t + 2]? = (l.flatMap encR)[t]? := by
      simp only [List.flatMap_cons, encR]; rfl
    rw [e4]; exact ih
theorem flatK_get (l : List TRange) (j : Nat) (h : j < l.length * 2) : (l.flatMap encR)[j]? = some (flatK encR 2 l.toArray)[j]! := by
  rw [get_flatK _ _ _ _ (by simpa using h)]; exact flat_get l j h
def ExtAt (g : FuncId) (ds : List DVal) (k : TypeId) (zs ys : List DVal) : Prop := Val.Enters CT.P g ∧
  ∀ (w : World) (G : Gh) (t : Tag) (v : Value) (vs : List Value), G.P = CT.P → RelRow w G t k zs v → RelCs w G ds vs →
    Calls CT.P g (v :: vs).toArray w fun e w' => e = .returned (.tuple #[]) ∧ w'.os = w.os ∧ w'.tape = w.tape ∧ w'.output = w.output ∧ w.heap.size ≤ w'.heap.size ∧
      ((zs = [] ∧ ys = [] ∧ ∀ b, b < w.heap.size → w'.heap[b]? = w.heap[b]?) ∨
       zs ≠ [] ∧ ∃ b cap arr arr', v = .slice (some ⟨b, 0, none⟩) zs.length cap ∧ w.heap[b]? = some (.cells arr k (0, 0)) ∧ w'.heap[b]? = some (.cells arr' k (0, 0)) ∧ arr'.size = arr.size ∧ ys.length = zs.length ∧
         (∀ y ∈ ys, y.cells.length = CT.P.cellsOf k) ∧ RelCs w G (allCells ys) (arr'.toList.take (ys.length * CT.P.cellsOf k)) ∧ ∀ b', b' < w.heap.size → b' ≠ b → w'.heap[b']? = w.heap[b']?)
theorem ext_ranges {l l' : List TRange} (hs : sortR l = some l') : ExtAt 94 [.fn 95 [] []] 80 (l.map eRange) (l'.map eRange) := by
  unfold sortR at hs
  split at hs
  case isFalse => cases hs
  rename_i hlen
  have hs' := Option.some.inj hs
  clear hs
  subst hs'
  refine ⟨⟨Try.f94, _, Try.func94, rfl, by kernel_rfl⟩, fun w G t v vs hP hrow hvs => ?_⟩
  have hv : vs = [.func (.func 95) #[] #[]] := by
    cases hvs with
    | cons _ v _ vs _ h1 h2 =>
      cases h2
      cases h1 with
      | fn _ _ _ us vs k1 k2 =>
        have e1 : us = #[] := by
          cases hu : us.toList with
          | nil => exact Array.toList_inj.1 hu
          | cons u l => rw [hu] at k1; cases k1
        have e2 : vs = #[] := by
          cases hu : vs.toList with
          | nil => exact Array.toList_inj.1 hu
          | cons u l => rw [hu] at k2; cases k2
        rw [e1, e2]
  subst hv
  have hno : ∀ (p : Option Addr) (cap : Nat), l = [] → v = .slice p 0 cap → Calls Try.prog 94 #[v, .func (.func 95) #[] #[]] w fun e w' => e = .returned (.tuple #[]) ∧ w' = w := fun p cap _ e => by
    rw [e]
    exact AnyF.slices_SortFunc_none sortRg p cap _ w
  have empty : ∀ (p : Option Addr) (cap : Nat), l = [] → v = .slice p 0 cap → Calls CT.P 94 (v :: [.func (.func 95) #[] #[]]).toArray w fun e w' => e = .returned (.tuple #[]) ∧ w'.os = w.os ∧ w'.tape = w.tape ∧ w'.output = w.output ∧ w.heap.size ≤ w'.heap.size ∧
      ((l.map eRange = [] ∧ (pdq ltR l.toArray 0 l.length (Lib.bitLen l.length) true true).toList.map eRange = [] ∧ ∀ b, b < w.heap.size → w'.heap[b]? = w.heap[b]?) ∨
       l.map eRange ≠ [] ∧ ∃ b cap arr arr', v = .slice (some ⟨b, 0, none⟩) (l.map eRange).length cap ∧ w.heap[b]? = some (.cells arr 80 (0, 0)) ∧ w'.heap[b]? = some (.cells arr' 80 (0, 0)) ∧ arr'.size = arr.size ∧ ((pdq ltR l.toArray 0 l.length (Lib.bitLen l.length) true true).toList.map eRange).length = (l.map eRange).length ∧
         (∀ y ∈ (pdq ltR l.toArray 0 l.length (Lib.bitLen l.length) true true).toList.map eRange, y.cells.length = CT.P.cellsOf 80) ∧ RelCs w G (allCells ((pdq ltR l.toArray 0 l.length (Lib.bitLen l.length) true true).toList.map eRange)) (arr'.toList.take (((pdq ltR l.toArray 0 l.length (Lib.bitLen l.length) true true).toList.map eRange).length * CT.P.cellsOf 80)) ∧ ∀ b', b' < w.heap.size → b' ≠ b → w'.heap[b']? = w.heap[b']?) := fun p cap hl e => by
    refine (hno p cap hl e).mono fun e w' ⟨h1, h2⟩ => ?_
    subst h2
    refine ⟨h1, rfl, rfl, rfl, Nat.le_refl _, .inl ⟨by rw [hl]; rfl, ?_, fun _ _ => rfl⟩⟩
    have hp := (pdq_sorts ltR swoR l.toArray 0 l.length (Lib.bitLen l.length) true true (Nat.zero_le _) (by simp) (Or.inl rfl)).1.1
    rw [hl] at hp ⊢
    have : (pdq ltR ([] : List TRange).toArray 0 ([] : List TRange).length (Lib.bitLen ([] : List TRange).length) true true).toList = [] := List.length_eq_zero_iff.1 (by simpa using hp)
    rw [this]; rfl
  by_cases hl : l = []
  · rcases hrow with ⟨_, a, e⟩ | ⟨b, cap, arr, e, _⟩
    · exact empty a 0 hl e
    · exact empty (some ⟨b, 0, none⟩) cap hl (by rw [e, hl]; rfl)
  rcases hrow with ⟨h0, _⟩ | ⟨b, cap, arr, rfl, h2, h3, h4, h5, h6, h7, h8⟩
  · exact absurd (List.map_eq_nil_iff.1 h0) hl
  have hcell : G.P.cellsOf 80 = 2 := by rw [hP]; kernel_rfl
  rw [hcell] at h4 h7 h8
  have hvals := vals_of h8
  have hlm : (l.map eRange).length = l.length := by simp
  rw [hlm] at hvals h5
  have hget : ∀ j, j < l.length * 2 → arr[j]? = some (flatK encR 2 l.toArray)[j]! := fun j hj => by
    rw [← flatK_get l j hj, ← hvals, List.getElem?_take, if_pos hj]; simp
  have hH : HoldsK encR 2 w b 0 l.toArray := fun j hj => by
    have hj' : j < l.length * 2 := by simpa using hj
    refine ⟨?_, ?_⟩
    · simp only [World.cell?, h3, Nat.zero_add]
      exact hget j hj'
    · simp [World.frozen?, h3]
  have hsz : l.toArray.size < 4611686018427387904 := by
    have : roomOf = 140737488355328 := rfl
    have e : l.toArray.size = l.length := by simp
    omega
  have eg : ∀ args w, (callFunc 95 args).run Try.prog w = .ok (.enter 95 args) w := enters_of Try.func95 (by kernel_rfl) rfl
  have hcon := AnyQ.slices_SortFunc_eq sortRg 2 Try.isAgg80 Try.sizeOf80 encR (fun _ => rfl) (fun x v hv => by simp [encR] at hv; rcases hv with rfl | rfl <;> rfl) (fun x y => Lib.compareInt x.Low y.Low) (by rw [ltLow]; exact swoR) 95 #[] b 0 cap l.toArray w eg (cmpLays95 b 0 _ w) hH (heap_lt h3) hsz
  rw [ltLow, List.size_toArray] at hcon
  change Calls Try.prog 94 _ _ _ at hcon
  clear empty hno hvs h8 hget hH eg
  have hcon' : Calls CT.P 94 (.slice (some ⟨b, 0, none⟩) (l.map eRange).length cap :: [.func (.func 95) #[] #[]]).toArray w fun e w' => e = .returned (.tuple #[]) ∧ ∃ n os, w' = sortWorldK encR 2 w b 0 n (pdq ltR l.toArray 0 l.length (Lib.bitLen l.length) true true) os := by
    rw [hlm]
    exact hcon
  refine hcon'.mono fun e w' ⟨he, n, os, hw⟩ => ?_
  have hp := (pdq_sorts ltR swoR l.toArray 0 l.length (Lib.bitLen l.length) true true (Nat.zero_le _) (by simp) (Or.inl rfl)).1.1
  generalize pdq ltR l.toArray 0 l.length (Lib.bitLen l.length) true true = d' at hp hw ⊢
  have hb := heap_lt h3
  have hps : d'.size = l.length := by simpa using hp
  have hheap : w'.heap = (w.heap.modify b (onCells (putCells id 0 (flatK encR 2 d')))) ++ os := by rw [hw]; rfl
  have hnew : w'.heap[b]? = some (.cells (putCells id 0 (flatK encR 2 d') arr) 80 (0, 0)) := by
    rw [hheap, Array.getElem?_append, if_pos (by simpa using hb), Array.getElem?_modify, if_pos rfl, h3]; rfl
  refine ⟨he, by rw [hw]; rfl, by rw [hw]; rfl, by rw [hw]; rfl, by rw [hheap]; simp, .inr ⟨by simpa using hl, b, cap, arr, _, rfl, h3, hnew, by simp [putCells], by simp [hps], ?_, ?_, fun b' hb' hne => ?_⟩⟩
  · intro y hy
    obtain ⟨x, _, rfl⟩ := List.mem_map.1 hy
    kernel_rfl
  · have e : (putCells id 0 (flatK encR 2 d') arr).toList.take ((d'.toList.map eRange).length * CT.P.cellsOf 80) = d'.toList.flatMap encR := by
      have hc2 : CT.P.cellsOf 80 = 2 := by kernel_rfl
      rw [hc2]
      apply List.ext_getElem?
      intro j
      have hdl : d'.toList.length = l.length := by simpa using hps
      rw [List.getElem?_take]
      by_cases hj : j < d'.toList.length * 2
      · have hj2 : j < (d'.toList.map eRange).length * 2 := by simpa using hj
        rw [if_pos hj2, flatK_get d'.toList j hj]
        have hja : j < arr.size := by rw [h4]; rw [hdl] at hj; omega
        have hx : arr[j]? = some arr[j] := Array.getElem?_eq_getElem hja
        have hs : j < 0 + (flatK encR 2 d').size := by simpa using hj
        simp only [Array.getElem?_toList, putCells, Array.getElem?_mapIdx, hx, Option.map_some, Nat.zero_le, true_and, Nat.sub_zero, id]
        rw [if_pos hs]
      · have hj2 : ¬ j < (d'.toList.map eRange).length * 2 := by simpa using hj
        rw [if_neg hj2, List.getElem?_eq_none (by rw [flat_len]; omega)]
    rw [e]
    exact rel_of _
  · rw [hheap, Array.getElem?_append, if_pos (by simpa using hb'), Array.getElem?_modify, if_neg (Ne.symm hne)]
/-! ### slices.Sort at ints -/
theorem valsI_of : ∀ {l : List Int} {vs : List Value}, RelCs w G (allCells (l.map eI)) vs → vs = l.map (Value.int .i64)
  | [], vs, h => by
    have h' : RelCs w G [] vs := h
    cases h'; rfl
  | a :: l, vs, h => by
    have h' : RelCs w G (.int .i64 a :: allCells (l.map eI)) vs := h
    cases h' with
    | cons _ v _ vs _ h1 h2 =>
      cases h1
      rw [valsI_of h2]; rfl
theorem relI_of : ∀ (l : List Int), RelCs w G (allCells (l.map eI)) (l.map (Value.int .i64))
  | [] => .nil
  | a :: l => .cons _ _ _ _ rfl (.int _ _) (relI_of l)
theorem ext_ints {l l' : List Int} (hs : sortI l = some l') : ExtAt 98 [] 3 (l.map eI) (l'.map eI) := by
  unfold sortI at hs
  split at hs
  case isFalse => cases hs
  rename_i hlen
  have hs' := Option.some.inj hs
  clear hs
  refine ⟨⟨Try.f98, _, Try.func98, rfl, by kernel_rfl⟩, fun w G t v vs hP hrow hvs => ?_⟩
  have hv : vs = [] := by cases hvs; rfl
  subst hv
  have hlen' : l'.length = l.length := by rw [← hs', List.length_mergeSort]
  have empty : ∀ (p : Option Addr) (cap : Nat), l = [] → v = .slice p 0 cap → Calls CT.P 98 (v :: []).toArray w fun e w' => e = .returned (.tuple #[]) ∧ w'.os = w.os ∧ w'.tape = w.tape ∧ w'.output = w.output ∧ w.heap.size ≤ w'.heap.size ∧
      ((l.map eI = [] ∧ l'.map eI = [] ∧ ∀ b, b < w.heap.size → w'.heap[b]? = w.heap[b]?) ∨
       l.map eI ≠ [] ∧ ∃ b cap arr arr', v = .slice (some ⟨b, 0, none⟩) (l.map eI).length cap ∧ w.heap[b]? = some (.cells arr 3 (0, 0)) ∧ w'.heap[b]? = some (.cells arr' 3 (0, 0)) ∧ arr'.size = arr.size ∧ (l'.map eI).length = (l.map eI).length ∧
         (∀ y ∈ l'.map eI, y.cells.length = CT.P.cellsOf 3) ∧ RelCs w G (allCells (l'.map eI)) (arr'.toList.take ((l'.map eI).length * CT.P.cellsOf 3)) ∧ ∀ b', b' < w.heap.size → b' ≠ b → w'.heap[b']? = w.heap[b']?) := fun p cap hl e => by
    rw [e]
    refine (AnyG.slices_Sort_int_none sortIg p cap w).mono fun e w' ⟨h1, h2⟩ => ?_
    subst h2
    refine ⟨h1, rfl, rfl, rfl, Nat.le_refl _, .inl ⟨by rw [hl]; rfl, ?_, fun _ _ => rfl⟩⟩
    have : l' = [] := List.length_eq_zero_iff.1 (by rw [hlen', hl]; rfl)
    rw [this]; rfl
  by_cases hl : l = []
  · rcases hrow with ⟨_, a, e⟩ | ⟨b, cap, arr, e, _⟩
    · exact empty a 0 hl e
    · exact empty (some ⟨b, 0, none⟩) cap hl (by rw [e, hl]; rfl)
  rcases hrow with ⟨h0, _⟩ | ⟨b, cap, arr, rfl, h2, h3, h4, h5, h6, h7, h8⟩
  · exact absurd (List.map_eq_nil_iff.1 h0) hl
  have hcell : G.P.cellsOf 3 = 1 := by rw [hP]; kernel_rfl
  rw [hcell] at h4 h7 h8
  have hvals := valsI_of h8
  have hlm : (l.map eI).length = l.length := by simp
  rw [hlm] at hvals h5
  rw [Nat.mul_one] at hvals
  have hget : ∀ j, j < l.length → arr[j]? = (l.map (Value.int .i64))[j]? := fun j hj => by
    rw [← hvals, List.getElem?_take, if_pos hj]; simp
  have hH : Go.Sort.Holds (Value.int .i64) w b 0 l.toArray := fun j hj => by
    have hj' : j < l.length := by simpa using hj
    refine ⟨?_, ?_⟩
    · simp only [World.cell?, h3, Nat.zero_add]
      rw [hget j hj', List.getElem?_map, List.getElem?_eq_getElem hj']
      simp [hj']
    · simp [World.frozen?, h3]
  have hsz : l.length < 4611686018427387904 := by
    have : roomOf = 140737488355328 := rfl
    omega
  have hcon := calls_of_every_depth fun D => AnySG.slices_Sort_int_in sortIg D b 0 cap l w hH (heap_lt h3) hsz
  change Calls Try.prog 98 _ _ _ at hcon
  rw [hs'] at hcon
  clear empty h8 hget hH
  have hcon' : Calls CT.P 98 (.slice (some ⟨b, 0, none⟩) (l.map eI).length cap :: []).toArray w fun e w' => e = .returned (.tuple #[]) ∧ ∃ n os, w' = grow (putRow (Value.int .i64) (Sort.ahead w n) b 0 l'.toArray) os := by
    rw [hlm]
    exact hcon
  refine hcon'.mono fun e w' ⟨he, n, os, hw⟩ => ?_
  have hb := heap_lt h3
  have hheap : w'.heap = (w.heap.modify b (onCells (putCells (Value.int .i64) 0 l'.toArray))) ++ os := by rw [hw]; rfl
  have hnew : w'.heap[b]? = some (.cells (putCells (Value.int .i64) 0 l'.toArray arr) 3 (0, 0)) := by
    rw [hheap, Array.getElem?_append, if_pos (by simpa using hb), Array.getElem?_modify, if_pos rfl, h3]; rfl
  refine ⟨he, by rw [hw]; rfl, by rw [hw]; rfl, by rw [hw]; rfl, by rw [hheap]; simp, .inr ⟨by simpa using hl, b, cap, arr, _, rfl, h3, hnew, by simp [putCells], by simp [hlen'], ?_, ?_, fun b' hb' hne => ?_⟩⟩
  · intro y hy
    obtain ⟨x, _, rfl⟩ := List.mem_map.1 hy
    kernel_rfl
  · have e : (putCells (Value.int .i64) 0 l'.toArray arr).toList.take ((l'.map eI).length * CT.P.cellsOf 3) = l'.map (Value.int .i64) := by
      have hc2 : CT.P.cellsOf 3 = 1 := by kernel_rfl
      rw [hc2, Nat.mul_one]
      apply List.ext_getElem?
      intro j
      rw [List.getElem?_take]
      by_cases hj : j < l'.length
      · have hj2 : j < (l'.map eI).length := by simpa using hj
        rw [if_pos hj2]
        have hja : j < arr.size := by rw [h4]; omega
        have hx : arr[j]? = some arr[j] := Array.getElem?_eq_getElem hja
        have hs : j < 0 + l'.toArray.size := by simpa using hj
        simp only [Array.getElem?_toList, putCells, Array.getElem?_mapIdx, hx, Option.map_some, Nat.zero_le, true_and, Nat.sub_zero]
        rw [if_pos hs, List.getElem?_map, List.getElem?_eq_getElem hj]
        simp [hj]
      · have hj2 : ¬ j < (l'.map eI).length := by simpa using hj
        rw [if_neg hj2, List.getElem?_eq_none (by simpa using hj)]
    rw [e]
    exact relI_of _
  · rw [hheap, Array.getElem?_append, if_pos (by simpa using hb'), Array.getElem?_modify, if_neg (Ne.symm hne)]
theorem ext_CT (hh : ∀ f a h o h', CT.hand f a h o h' → Sound CT.P f a h fun o1 h1 => o1 = o ∧ h1 = h') : ExtSound CT := by
  refine ⟨hh, ?_⟩
  intro g ds k zs ys he
  have he' : extR g ds k zs = some ys := he
  unfold extR at he'
  split at he'
  · rename_i hc
    obtain ⟨rfl, rfl, rfl⟩ := hc
    obtain ⟨l, l', rfl, hs, rfl⟩ := extOf_some he'
    exact ext_ranges hs
  · split at he'
    · rename_i hc
      obtain ⟨rfl, rfl, rfl⟩ := hc
      obtain ⟨l, l', rfl, hs, rfl⟩ := extOf_some he'
      exact ext_ints hs
    · cases he'
end Go.Proofs.IR

/- part JU1 -/
/- slices.Compact at ints does in the machine what is told of it (by the kit's contract): the row that is given becomes data. -/
namespace Go.Proofs.IR
open Go.Shelf Go.RowKit Go.Lib Go.Sort Go.Val
set_option linter.unusedVariables false
set_option maxRecDepth 100000
theorem compact_len (l : List Int) : (Lib.compact l).length ≤ l.length := by
  unfold Lib.compact Lib.compactUpTo
  rw [List.length_map]
  exact Nat.le_trans (List.length_filter_le _ _) (by simp)
theorem compact_sound {l u : List Int} {h : Heap} (e : slices_Compact_int_int l = some u) : Sound Try.prog 99 [.cv (.row 3 (List.map eI l))] h fun o h' => o = [.cv (.val (.sl (List.map eI u)))] ∧ h' = h := by
  unfold slices_Compact_int_int at e
  split at e
  case isFalse => cases e
  rename_i hlen
  obtain rfl := Option.some.inj e
  refine ⟨⟨Try.f99, _, Try.func99, rfl, by kernel_rfl⟩, fun w G vs hP ha hh hf => ?_⟩
  obtain ⟨v, rfl, hrow⟩ : ∃ v, vs = [v] ∧ RelRow w G (.slot 0) 3 (l.map eI) v := by
    cases ha with
    | cons _ c v _ vs h1 h2 => cases h2; exact ⟨v, rfl, h1⟩
  have hcl := compact_len l
  have fin : ∀ (w' : World) (v' : Value), w'.os = w.os → w'.tape = w.tape → w'.output = w.output → w'.heap.size = w.heap.size → RelRow w' G (.slot 0) 3 ((Lib.compact l).map eI) v' → RelH w' G h → Kept w G w' G →
      ∃ us out h' G', Ending.returned v' = .returned (outVal us) ∧ (out = [.cv (.val (.sl (List.map eI (Lib.compact l))))] ∧ h' = h) ∧ RelOuts w' G' out us ∧ RelH w' G' h' ∧ (∀ b, w'.heap.size ≤ b → G'.g b = .other) ∧ Kept w G w' G' := fun w' v' h1 h2 h3 h4 hr hh' hk => by
    refine ⟨[v'], _, h, G.re (.slot 0) .imm, rfl, ⟨rfl, rfl⟩, .cons _ _ _ _ (hr.fixed (by intro e; cases e)) .nil, hh'.re (by intro e; cases e) (by intro l e; cases e) (by intro l i e; cases e), fun b hb => ?_, hk.trans (re_kept w' G (by intro e; cases e) (by intro e; cases e))⟩
    have := hf b (by omega)
    simp only [Gh.re, this]; rfl
  have empty : ∀ (p : Option Addr) (cap : Nat), l = [] → v = .slice p 0 cap → Calls Try.prog 99 #[v] w fun e w' => ∃ us out h' G', e = .returned (outVal us) ∧ (out = [.cv (.val (.sl (List.map eI (Lib.compact l))))] ∧ h' = h) ∧ RelOuts w' G' out us ∧ RelH w' G' h' ∧ (∀ b, w'.heap.size ≤ b → G'.g b = .other) ∧ Kept w G w' G' := fun p cap hl hv => by
    rw [hv]
    refine (AnyG.slices_Compact_int_empty compactIg p cap w).mono fun e w' ⟨h1, h2⟩ => ?_
    subst h1 h2
    have hc : Lib.compact l = [] := List.length_eq_zero_iff.1 (by have : l.length = 0 := (by rw [hl]; rfl); omega)
    refine fin w' _ rfl rfl rfl rfl ?_ hh (Kept.refl _ _)
    rw [hc, ← hv]
    rw [hl] at hrow
    exact hrow
  by_cases hl : l = []
  · rcases hrow with ⟨_, a, e⟩ | ⟨b, cap, arr, e, _⟩
    · exact empty a 0 hl e
    · exact empty (some ⟨b, 0, none⟩) cap hl (by rw [e, hl]; rfl)
  rcases hrow with ⟨h0, _⟩ | ⟨b, cap, arr, rfl, h2, h3, h4, h5, h6, h7, h8⟩
  · exact absurd (List.map_eq_nil_iff.1 h0) hl
  have hcell : G.P.cellsOf 3 = 1 := by rw [hP]; kernel_rfl
  rw [hcell] at h4 h7 h8
  have hvals := valsI_of h8
  have hlm : (l.map eI).length = l.length := by simp
  rw [hlm] at hvals h5
  rw [Nat.mul_one] at hvals
  have hget : ∀ j, j < l.length → arr[j]? = (l.map (Value.int .i64))[j]? := fun j hj => by
    rw [← hvals, List.getElem?_take, if_pos hj]; simp
  have hH : Go.Sort.Holds (Value.int .i64) w b 0 l.toArray := fun j hj => by
    have hj' : j < l.length := by simpa using hj
    refine ⟨?_, ?_⟩
    · simp only [World.cell?, h3, Nat.zero_add]
      rw [hget j hj', List.getElem?_map, List.getElem?_eq_getElem hj']
      simp [hj']
    · simp [World.frozen?, h3]
  have hsz : l.length ≤ 9223372036854775807 := by
    have : roomOf = 140737488355328 := rfl
    omega
  have hcon := AnyG.slices_Compact_int compactIg b 0 cap l w hH hsz h5
  rw [hlm]
  change Calls Try.prog 99 _ _ _ at hcon
  refine hcon.mono fun e w' ⟨he, q, hw⟩ => ?_
  subst he
  generalize hz : Lib.compact l ++ List.replicate (l.length - (Lib.compact l).length) 0 = z at hw
  have hzl : z.length = l.length := by rw [← hz]; simp; omega
  have hb := heap_lt h3
  have hheap : w'.heap = w.heap.modify b (onCells (putCells (Value.int .i64) 0 z.toArray)) := by rw [hw]; rfl
  have hnew : w'.heap[b]? = some (.cells (putCells (Value.int .i64) 0 z.toArray arr) 3 (0, 0)) := by
    rw [hheap, Array.getElem?_modify, if_pos rfl, h3]; rfl
  have W : Wrote w G b w' G := ⟨by rw [hw]; rfl, by rw [hw]; rfl, by rw [hw]; rfl, by rw [hheap]; simp, fun k hk => by rw [hheap, Array.getElem?_modify, if_neg (Ne.symm hk)], ⟨(by rw [h2]; intro e; cases e), (by rw [h2]; intro e; cases e)⟩, fun _ _ => rfl, rfl, fun _ => rfl, rfl⟩
  refine fin w' _ W.os W.tape W.output W.size ?_ ⟨hh.n, fun m o ho => ⟨(hh.obj m o ho).1, W.obj (hh.obj m o ho).2 (by rw [h2]; intro e; cases e) (fun j => by rw [h2]; intro e; cases e)⟩⟩ W.kept
  refine .inr ⟨b, cap, _, by simp, h2, hnew, by rw [hcell]; simp [putCells, h4], by simp; omega, h6, fun x hx => ?_, ?_⟩
  · rw [hcell]
    obtain ⟨y, _, rfl⟩ := List.mem_map.1 hx
    rfl
  · have e : (putCells (Value.int .i64) 0 z.toArray arr).toList.take (((Lib.compact l).map eI).length * G.P.cellsOf 3) = (Lib.compact l).map (Value.int .i64) := by
      rw [hcell, Nat.mul_one]
      apply List.ext_getElem?
      intro j
      rw [List.getElem?_take]
      by_cases hj : j < (Lib.compact l).length
      · have hj2 : j < ((Lib.compact l).map eI).length := by simpa using hj
        rw [if_pos hj2]
        have hja : j < arr.size := by rw [h4]; omega
        have hx : arr[j]? = some arr[j] := Array.getElem?_eq_getElem hja
        have hs : j < 0 + z.toArray.size := by simp; omega
        simp only [Array.getElem?_toList, putCells, Array.getElem?_mapIdx, hx, Option.map_some, Nat.zero_le, true_and, Nat.sub_zero]
        rw [if_pos hs, List.getElem?_map, List.getElem?_eq_getElem hj]
        have hzj : z.toArray[j]! = (Lib.compact l)[j] := by
          have h1 : z[j]? = some (Lib.compact l)[j] := by rw [← hz, List.getElem?_append_left hj, List.getElem?_eq_getElem hj]
          simp [Array.getElem!_eq_getD, Array.getD_eq_getD_getElem?, h1]
        rw [hzj]; rfl
      · have hj2 : ¬ j < ((Lib.compact l).map eI).length := by simpa using hj
        rw [if_neg hj2, List.getElem?_eq_none (by simpa using hj)]
    rw [e]
    exact relI_of _
end Go.Proofs.IR

/- part JU2 -/
/- scansionref03's place does in the machine what is told of it. -/
namespace Go.Proofs.IR
open Go.Shelf Go.RowKit Go.Lib Go.Sort Go.Val
set_option linter.unusedVariables false
set_option maxRecDepth 100000
section
variable {w w' : World} {G : Gh}
def Gh.fresh (G : Gh) (n m : Nat) : Gh := ⟨G.P, fun b => if n ≤ b ∧ b < m then .imm else G.g b, G.ι, G.n⟩
theorem fresh_grows (hb : Below w.heap.size w w') (hf : ∀ b, w.heap.size ≤ b → G.g b = .other) : Grows w G w' (Gh.fresh G w.heap.size w'.heap.size) where
  os := hb.os
  tape := hb.tape
  output := hb.output
  size := hb.size
  heap := hb.block
  g b h := by simp only [Gh.fresh]; rw [if_neg (by omega)]
  fresh b h := by simp only [Gh.fresh]; rw [if_neg (by omega)]; exact hf b (Nat.le_trans hb.size h)
  n := Nat.le_refl _
  ι _ _ := rfl
  P := rfl
/-- Bytes that came in, in the machine. -/
theorem bytes_in {b : List UInt8} {v : Value} (h : RelV w G (.sl (b.map eU)) v) : ∃ p cap b0 off, v = .slice p b.length cap ∧ (b ≠ [] → p = some ⟨b0, off, none⟩) ∧ (b ≠ [] → b0 < w.heap.size) ∧ ∀ j (hj : j < b.length), w.cell? ⟨b0, off + j, none⟩ = some (.int .u8 (b[j].toNat : Int)) := by
  generalize hd : DVal.sl (b.map eU) = d at h
  cases h with
  | nilsl a cap =>
    have : b = [] := by simpa using hd
    subst this
    exact ⟨a, cap, 0, 0, rfl, fun h => absurd rfl h, fun h => absurd rfl h, fun j hj => by simp at hj⟩
  | sl xs ad cap k vs hne hcap hg hb hs hk hr hc =>
    obtain rfl : b.map eU = xs := by simpa using hd
    have hvs : vs = b.map fun c => Value.int .u8 (c.toNat : Int) := by
      clear hk hc hcap hne hd
      induction b generalizing vs with
      | nil => cases hr; rfl
      | cons c b ih =>
        have h' : RelCs w G (.int .u8 (c.toNat : Int) :: allCells (b.map eU)) vs := hr
        cases h' with
        | cons _ u _ us _ h1 h2 => cases h1; rw [ih us h2]; rfl
    refine ⟨some ad, cap, ad.block, ad.off, by simp, fun _ => by cases ad; simp_all, fun _ => hb, fun j hj => ?_⟩
    have := hc j (.int .u8 (b[j].toNat : Int)) (by rw [hvs]; simp [hj])
    rw [← this]
    congr 1
    cases ad
    simp only at hs
    subst hs
    by_cases hj0 : j = 0
    · subst hj0; rfl
    · simp [Addr.add, hj0]
  | _ => cases hd
end
/-- Bytes that lie in the machine. -/
def BytesAt (w : World) (p : Option Addr) (zs : List UInt8) : Prop := zs ≠ [] → ∃ b off, p = some ⟨b, off, none⟩ ∧ b < w.heap.size ∧ ∀ j (hj : j < zs.length), w.cell? ⟨b, off + j, none⟩ = some (.int .u8 (zs[j].toNat : Int))
theorem strOf (zs : List UInt8) : strOfNums (zs.map fun c => (c.toNat : Int)) = ⟨zs.toArray⟩ := by
  unfold strOfNums
  congr 2
  rw [List.map_map]
  have : ((fun n : Int => UInt8.ofNat n.toNat) ∘ fun c : UInt8 => (c.toNat : Int)) = id := by funext c; simp
  rw [this, List.map_id]
theorem conv_at {w : World} {p : Option Addr} {zs : List UInt8} (h : BytesAt w p zs) (cap : Nat) : (convert 22 9 (.slice p zs.length cap)).run Try.prog w = .ok (.string ⟨zs.toArray⟩) w := by
  by_cases hz : zs = []
  · subst hz
    cases p with
    | none => exact run_convert_bytes_nil w 22 5 Try.underlying22 Try.underlying5 0 cap 9 Try.underlying9
    | some a =>
      have hl : (loadCells a 0).run Try.prog w = .ok (([] : List Int).map (Value.int .u8)).toArray w := by
        simpa using run_loadCells_list (P := Try.prog) w a [] (fun j v hj => by simp at hj)
      show (convert 22 9 (.slice (some a) 0 cap)).run Try.prog w = _
      rw [run_convert_bytes_string w 22 9 5 _ 0 cap Try.underlying22 Try.underlying5 Try.underlying9, run_bytesToString w a 0 cap [] hl]
      rfl
  · obtain ⟨b, off, rfl, hb, hc⟩ := h hz
    rw [← strOf zs]
    exact run_convert_bytes_arg w 22 5 Try.underlying22 Try.underlying5 b off zs.length cap (zs.map fun c => (c.toNat : Int)) (by simp) (fun i hi => by
      rw [hc i hi]
      simp [List.getD_eq_getElem?_getD, List.getElem?_eq_getElem hi]) 9 Try.underlying9
theorem BytesAt.below {w w' : World} {p : Option Addr} {zs : List UInt8} (h : BytesAt w p zs) (hb : Below w.heap.size w w') : BytesAt w' p zs := fun hz => by
  obtain ⟨b, off, h1, h2, h3⟩ := h hz
  exact ⟨b, off, h1, Nat.lt_of_lt_of_le h2 hb.size, fun j hj => (hb.cell (p := ⟨b, off + j, none⟩) h2).trans (h3 j hj)⟩
theorem BytesAt.drewN {w : World} {p : Option Addr} {zs : List UInt8} (h : BytesAt w p zs) (m : Nat) : BytesAt (w.drewN m) p zs := fun hz => by
  obtain ⟨b, off, h1, h2, h3⟩ := h hz
  exact ⟨b, off, h1, h2, fun j hj => h3 j hj⟩
theorem below_drewN {n : Nat} {A B : World} (h : RowKit.Below n A B) (m : Nat) : RowKit.Below n A (B.drewN m) := by
  cases h; constructor <;> assumption
theorem place_in (bt bF capF cap : Nat) (p : Option Addr) (F b : List UInt8) (n : Nat) (hn : F.length = n * 256) (hF : F.length ≤ 1048576) (hb : b.length ≤ 1048576) (w : World) (hbt : bt < w.heap.size)
    (pF : Option Addr) (hcell : w.cell? ⟨bt, 0, none⟩ = some (.slice pF F.length capF)) (hcap : F.length ≤ capF) (hpF : F ≠ [] → pF = some ⟨bF, 0, none⟩) (hbF : F ≠ [] → bF < w.heap.size)
    (hcF : ∀ j (hj : j < F.length), w.cell? ⟨bF, j, none⟩ = some (.int .u8 (F[j].toNat : Int))) (hB : BytesAt w p b) :
    Calls Try.prog 128 #[.pointer (some ⟨bt, 0, none⟩), .slice p b.length cap] w fun e w' => e = .returned (.int .i64 (findBlk F b n 0)) ∧ Below w.heap.size w w' := by
  have mixed : Try.prog.follows .mixedOrders = true := by kernel_rfl
  go_enter Try.func128, Try.ntmps128
  go_wp2
  go_loopw [5] (fun v5 wr => ∃ k : Nat, k ≤ n ∧ v5 = .int .i64 k ∧ Below w.heap.size w wr ∧ findBlk F b n 0 = findBlk F b (n - k) k) (fun v5 _ => n - (intOf v5).toNat)
  case atStart => exact ⟨0, Nat.zero_le _, rfl, Below.refl _ _, rfl⟩
  case round =>
    obtain ⟨k, hk, rfl, hbel, hfind⟩ := hrel
    have c0 := (hbel.cell (p := ⟨bt, 0, none⟩) hbt).trans hcell
    by_cases hlt : k < n
    · have hne : F ≠ [] := by intro e; rw [e] at hn; simp at hn; omega
      obtain rfl := hpF hne
      have hFb := hbF hne
      have h1 : ((k : Int) * 256) ≤ ((k : Int) + 1) * 256 := by omega
      have hlc : ((k : Int) + 1) * 256 ≤ (capF : Int) := by omega
      have hw1 : IntKind.i64.wrap ((k : Int) * 256) = (k : Int) * 256 := by rw [IntKind.wrap_i64]; omega
      have hw2 : IntKind.i64.wrap ((k : Int) + 1) = (k : Int) + 1 := by rw [IntKind.wrap_i64]; omega
      have hw3 : IntKind.i64.wrap (((k : Int) + 1) * 256) = ((k : Int) + 1) * 256 := by rw [IntKind.wrap_i64]; omega
      have h0 : 0 ≤ (k : Int) * 256 := by omega
      have h2 : 0 ≤ ((k : Int) + 1) * 256 := by omega
      have hc1 : BytesAt wr (some ⟨bF, k * 256, none⟩) ((F.drop (k * 256)).take 256) := fun hz => ⟨bF, k * 256, rfl, Nat.lt_of_lt_of_le hFb hbel.size, fun j hj => by
        have hj2 : j < 256 := by rw [List.length_take] at hj; omega
        have hj3 : k * 256 + j < F.length := by omega
        have := (hbel.cell (p := ⟨bF, k * 256 + j, none⟩) hFb).trans (hcF (k * 256 + j) hj3)
        rw [this]
        simp [List.getElem_take, List.getElem_drop]⟩
      have hlen : ((F.drop (k * 256)).take 256).length = 256 := by rw [List.length_take, List.length_drop]; omega
      have cv1 : ∀ m, (convert 22 9 (.slice (some ⟨bF, k * 256, none⟩) 256 (capF - k * 256))).run Try.prog (wr.drewN m) = .ok (.string ⟨((F.drop (k * 256)).take 256).toArray⟩) (wr.drewN m) := fun m => by
        have := conv_at (hc1.drewN m) (capF - k * 256)
        rw [hlen] at this
        exact this
      have cv2 : ∀ m, (convert 22 9 (.slice p b.length cap)).run Try.prog (wr.drewN m) = .ok (.string ⟨b.toArray⟩) (wr.drewN m) := fun m => conv_at ((hB.below hbel).drewN m) cap
      have h3 : (k : Int) * 256 ≤ max (((k : Int) + 1) * 256) 0 := by omega
      have e1 : ((k : Int) * 256).toNat = k * 256 := by omega
      have e2 : (((k : Int) + 1) * 256).toNat = k * 256 + 256 := by omega
      have hne2 : ¬ capF = k * 256 := by omega
      go_wp2
      go_quiet (fail)
      have hfk : findBlk F b (n - k) k = if (F.drop (k * 256)).take 256 = b then (k : Int) else findBlk F b (n - (k + 1)) (k + 1) := by
        rw [show n - k = (n - (k + 1)) + 1 by omega]; rfl
      by_cases hq : (F.drop (k * 256)).take 256 = b
      · have hqb : ((F.drop (k * 256)).take 256 == b) = true := by simpa using hq
        rw [hqb]
        rw [if_pos hq] at hfk
        clear cv1 cv2 hc1 hcF
        go_wp2
        go_ret
        exact ⟨by rw [hfind, hfk]; rfl, below_drewN hbel _⟩
      · have hqb : ((F.drop (k * 256)).take 256 == b) = false := by simpa using hq
        rw [hqb]
        rw [if_neg hq] at hfk
        clear cv1 cv2 hc1 hcF
        go_wp2
        exact ⟨⟨k + 1, by omega, by simp, below_drewN hbel _, by rw [hfind, hfk]⟩, by simp [intOf]; omega⟩
    · obtain rfl : k = n := by omega
      go_wp2
      go_ret
      refine ⟨?_, hbel⟩
      rw [hfind, Nat.sub_self]; rfl
theorem two_args {w : World} {G : Gh} {t : Nat → Tag} {d1 d2 : DVal} {vs : List Value} (h : RelArgs w G t 0 [.cv (.val d1), .cv (.val d2)] vs) : ∃ v1 v2, vs = [v1, v2] ∧ RelV w G d1 v1 ∧ RelV w G d2 v2 := by
  cases h with
  | cons _ c v _ vs h1 h2 =>
    cases h2 with
    | cons _ c2 v2 _ vs2 h3 h4 => cases h4; exact ⟨v, v2, rfl, h1, h3⟩
theorem rowU_cells {w : World} {G : Gh} {t : Tag} {F : List UInt8} {v : Value} (h : RelRow w G t 5 (F.map eU) v) (hP : G.P = Try.prog) : ∃ p cap b, v = .slice p F.length cap ∧ F.length ≤ cap ∧ (F ≠ [] → p = some ⟨b, 0, none⟩) ∧ (F ≠ [] → b < w.heap.size) ∧ ∀ j (hj : j < F.length), w.cell? ⟨b, j, none⟩ = some (.int .u8 (F[j].toNat : Int)) := by
  rcases h with ⟨h0, a, rfl⟩ | ⟨b, cap, arr, rfl, h2, h3, h4, h5, h6, h7, h8⟩
  · have : F = [] := List.map_eq_nil_iff.1 h0
    subst this
    exact ⟨a, 0, 0, rfl, Nat.le_refl _, fun h => absurd rfl h, fun h => absurd rfl h, fun j hj => by simp at hj⟩
  · have hcell : G.P.cellsOf 5 = 1 := by rw [hP]; kernel_rfl
    rw [hcell] at h4 h8
    have hlm : (F.map eU).length = F.length := by simp
    rw [hlm] at h5 h8 ⊢
    rw [Nat.mul_one] at h8
    refine ⟨some ⟨b, 0, none⟩, cap, b, rfl, h5, fun _ => rfl, fun _ => (Array.getElem?_eq_some_iff.1 h3).1, fun j hj => ?_⟩
    have hvals : ∀ (l : List UInt8) (us : List Value), RelCs w G (allCells (l.map eU)) us → us = l.map fun c => Value.int .u8 (c.toNat : Int) := by
      intro l
      induction l with
      | nil => intro us h; cases h; rfl
      | cons c l ih =>
        intro us h
        have h' : RelCs w G (.int .u8 (c.toNat : Int) :: allCells (l.map eU)) us := h
        cases h' with
        | cons _ u _ us _ h1 h2 => cases h1; rw [ih us h2]; rfl
    have hv := hvals F _ h8
    have hg : arr[j]? = some (Value.int .u8 (F[j].toNat : Int)) := by
      have : (arr.toList.take F.length)[j]? = some (Value.int .u8 (F[j].toNat : Int)) := by rw [hv]; simp [hj]
      rw [List.getElem?_take, if_pos hj] at this
      simpa using this
    simp only [World.cell?, h3]
    exact hg
theorem place_sound {l : Nat} {t : Tscansionref03_Trie} {b : List UInt8} {r : Int} {h : Heap} (ho : h.at_ l = some (.cells [.row 5 (List.map eU t.First), .row 3 (List.map eI t.Like)])) (e : scansionref03_Trie_place t b = some r) :
    Sound Try.prog 128 [.cv (.val (.ptr (some (l, 0)))), .cv (.val (.sl (List.map eU b)))] h fun o h' => o = [.cv (.val (.int .i64 r))] ∧ h' = h := by
  unfold scansionref03_Trie_place at e
  split at e
  case isFalse => cases e
  rename_i hc
  obtain rfl := Option.some.inj e
  refine ⟨⟨Try.f128, _, Try.func128, rfl, by kernel_rfl⟩, fun w G vs hP ha hh hf => ?_⟩
  obtain ⟨v1, v2, rfl, hv1, hv2⟩ := two_args ha
  obtain ⟨hl, hobj⟩ := hh.obj l _ ho
  cases hv1 with
  | ptr _ _ hn =>
    obtain ⟨hg, arr, et, fr, harr, hfr, hbl, hbox⟩ := hobj
    have hsz : arr.toList.length = 2 := hbl
    have ha0 : arr.toList[0]? = some (arr.toList[0]'(by omega)) := List.getElem?_eq_getElem (by omega)
    obtain ⟨hrow, _⟩ := hbox 0 _ _ rfl ha0
    obtain ⟨pF, capF, bF, hv, hcap, hpF, hbF, hcF⟩ := rowU_cells hrow hP
    obtain ⟨p, cap, b0, off, rfl, hp, hb0, hcb⟩ := bytes_in hv2
    have hbt : G.ι l < w.heap.size := (Array.getElem?_eq_some_iff.1 harr).1
    have hcell : w.cell? ⟨G.ι l, 0, none⟩ = some (.slice pF t.First.length capF) := by
      simp only [World.cell?, harr]
      rw [hv, Array.getElem?_toList] at ha0
      exact ha0
    have hpl := place_in (G.ι l) bF capF cap p t.First b (t.First.length / 256) (by omega) hc.2.1 hc.2.2 w hbt pF hcell hcap hpF hbF hcF (fun hz => ⟨b0, off, hp hz, hb0 hz, hcb⟩)
    refine hpl.mono fun e w' ⟨he, hbel⟩ => ?_
    have hgr := fresh_grows (G := G) hbel hf
    exact ⟨[.int .i64 (findBlk t.First b (t.First.length / 256) 0)], _, h, Gh.fresh G w.heap.size w'.heap.size, he, ⟨rfl, rfl⟩, .cons _ _ _ _ (.int _ _) .nil, hgr.heapH rfl hh, hgr.fresh, hgr.kept⟩
end Go.Proofs.IR

/- part JZ -/
/- All that is told by hand of chapter 09's functions, in the machine. -/
namespace Go.Proofs.IR
open Go.Val
theorem hand_CT : ∀ f a h o h', CT.hand f a h o h' → Sound CT.P f a h fun o1 h1 => o1 = o ∧ h1 = h' := by
  intro f a h o h' hh
  obtain ⟨rfl, hh⟩ : h' = h ∧ _ := hh
  rcases hh with ⟨rfl, b, u, rfl, he, rfl⟩ | ⟨rfl, l, t, b, r, rfl, ho, he, rfl⟩
  · exact compact_sound he
  · exact place_sound ho he
theorem ext_all : ExtSound CT := ext_CT hand_CT
end Go.Proofs.IR

/- part JF -/
/- Functions that are read off the program. -/
namespace Go.Val
set_option linter.unusedVariables false
set_option linter.unusedSimpArgs false
noncomputable section
def ranges_Make_1 (x : TRange) : Option Bool :=
  some ((decide (x.Low < (0 : Int))) || ((decide (x.High > (1114111 : Int))) || (decide (x.Low > x.High))))
def slices_IndexFunc_api_Range_api_Range.k1 : Option Int :=
  some (-1 : Int)
def slices_IndexFunc_api_Range_api_Range.b1 (s : List TRange) (f : TRange → Option Bool) : Int → Option (Step Int Int)
  | v =>
    if (decide (v < (s.length : Int))) then
      (idx s v).bind fun x =>
      (f x).bind fun r =>
      if r then
        some (Step.done v)
      else
        some (Step.next (IntKind.i64.wrap (v + (1 : Int))))
    else
      (slices_IndexFunc_api_Range_api_Range.k1).map Step.done
def slices_IndexFunc_api_Range_api_Range (s : List TRange) (f : TRange → Option Bool) : Option Int :=
  Loop (slices_IndexFunc_api_Range_api_Range.b1 s f) (0 : Int)
def slices_ContainsFunc_api_Range_api_Range (s : List TRange) (f : TRange → Option Bool) : Option Bool :=
  (slices_IndexFunc_api_Range_api_Range s f).bind fun r =>
  some (decide (r ≥ (0 : Int)))
def ranges_put (l : List TRange) (x : TRange) : Option (List TRange) :=
  (if (decide ((l.length : Int) > (0 : Int))) then
      (idx l (IntKind.i64.wrap ((l.length : Int) - (1 : Int)))).bind fun x1 =>
      some (decide (x.Low ≤ (IntKind.i64.wrap (x1.High + (1 : Int)))))
    else
      some false).bind fun v =>
  if v then
    (idx l (IntKind.i64.wrap ((l.length : Int) - (1 : Int)))).bind fun x2 =>
    some (List.set l (Int.toNat (IntKind.i64.wrap ((l.length : Int) - (1 : Int)))) (TRange.mk x2.Low (mx x2.High x.High)))
  else
    (room 16 (l.length + 1)).bind fun _ =>
    some (l ++ ([x]))
def ranges_Make.k1 (out : List TRange) : Option ((List TRange × Int)) :=
  some (out, (0 : Int))
def ranges_Make.b1 (l1 : List TRange) : (List TRange × Int) → Option (Step ((List TRange × Int)) ((List TRange × Int)))
  | (out1, v) =>
    if (decide (v < (l1.length : Int))) then
      (idx l1 v).bind fun x =>
      (ranges_put out1 x).bind fun r2 =>
      some (Step.next (r2, (IntKind.i64.wrap (v + (1 : Int)))))
    else
      (ranges_Make.k1 out1).map Step.done
def ranges_Make (l : List TRange) : Option ((List TRange × Int)) :=
  (slices_ContainsFunc_api_Range_api_Range l (ranges_Make_1)).bind fun r =>
  if r then
    some (([] : List TRange), (1 : Int))
  else
    (slices_Clone_api_Range_api_Range l).bind fun r1 =>
    (sortR r1).bind fun l1 =>
    Loop (ranges_Make.b1 l1) ([], (0 : Int))
def slices_Equal_api_Range_api_Range.k1 : Option Bool :=
  some true
def slices_Equal_api_Range_api_Range.b1 (s1 : List TRange) (s2 : List TRange) : Int → Option (Step Int Bool)
  | v =>
    if (decide (v < (s1.length : Int))) then
      (idx s1 v).bind fun x =>
      (idx s2 v).bind fun x1 =>
      if (!(x.Low == x1.Low && (x.High == x1.High && true))) then
        some (Step.done false)
      else
        some (Step.next (IntKind.i64.wrap (v + (1 : Int))))
    else
      (slices_Equal_api_Range_api_Range.k1).map Step.done
def slices_Equal_api_Range_api_Range (s1 : List TRange) (s2 : List TRange) : Option Bool :=
  if ((s1.length : Int) != (s2.length : Int)) then
    some false
  else
    Loop (slices_Equal_api_Range_api_Range.b1 s1 s2) (0 : Int)
def alphabet_edges.k1 (out : List Int) : Option (List Int) :=
  (sortI out).bind fun l =>
  (slices_Compact_int_int l).bind fun r =>
  some r
def alphabet_edges.k2 (v : Int) (out2 : List Int) : Option (Step ((List Int × Int)) (List Int)) :=
  some (Step.next (out2, (IntKind.i64.wrap (v + (1 : Int)))))
def alphabet_edges.k3 (v1 : Int) (out4 : List Int) : Option (Step ((List Int × Int)) (Step ((List Int × Int)) (List Int))) :=
  some (Step.next (out4, (IntKind.i64.wrap (v1 + (1 : Int)))))
def alphabet_edges.b2 (v : Int) (xs : List TRange) : (List Int × Int) → Option (Step ((List Int × Int)) (Step ((List Int × Int)) (List Int)))
  | (out3, v1) =>
    if (decide (v1 < (xs.length : Int))) then
      (idx xs v1).bind fun x =>
      (room 8 (out3.length + 1)).bind fun _ =>
      if (decide (x.High < (1114111 : Int))) then
        (room 8 (out3.length + 1 + 1)).bind fun _ =>
        alphabet_edges.k3 v1 ((out3 ++ ([x.Low])) ++ ([(IntKind.i64.wrap (x.High + (1 : Int)))]))
      else
        alphabet_edges.k3 v1 (out3 ++ ([x.Low]))
    else
      (alphabet_edges.k2 v out3).map Step.done
def alphabet_edges.b1 (sets : List (List TRange)) : (List Int × Int) → Option (Step ((List Int × Int)) (List Int))
  | (out1, v) =>
    if (decide (v < (sets.length : Int))) then
      (idx sets v).bind fun xs =>
      Loop (alphabet_edges.b2 v xs) (out1, (0 : Int))
    else
      (alphabet_edges.k1 out1).map Step.done
def alphabet_edges (sets : List (List TRange)) : Option (List Int) :=
  Loop (alphabet_edges.b1 sets) ([(0 : Int)], (0 : Int))
def slices_BinarySearchFunc_api_Range_api_Range_int.k1 (x : List TRange) (target : Int) (cmp : TRange → Int → Option Int) (i : Int) : Option ((Int × Bool)) :=
  (if (decide (i < (x.length : Int))) then
      (idx x i).bind fun x1 =>
      (cmp x1 target).bind fun r =>
      some (r == (0 : Int))
    else
      some false).bind fun v =>
  some (i, v)
def slices_BinarySearchFunc_api_Range_api_Range_int.k2 (i2 : Int) (j1 : Int) : Option (Step ((Int × Int)) ((Int × Bool))) :=
  some (Step.next (i2, j1))
def slices_BinarySearchFunc_api_Range_api_Range_int.b1 (x : List TRange) (target : Int) (cmp : TRange → Int → Option Int) : (Int × Int) → Option (Step ((Int × Int)) ((Int × Bool)))
  | (i1, j) =>
    if (decide (i1 < j)) then
      (some (shR .u64 (IntKind.u64.wrap (IntKind.i64.wrap (i1 + j))) (1 : Int))).bind fun z =>
      (idx x (IntKind.i64.wrap z)).bind fun x2 =>
      (cmp x2 target).bind fun r1 =>
      if (decide (r1 < (0 : Int))) then
        slices_BinarySearchFunc_api_Range_api_Range_int.k2 (IntKind.i64.wrap ((IntKind.i64.wrap z) + (1 : Int))) j
      else
        slices_BinarySearchFunc_api_Range_api_Range_int.k2 i1 (IntKind.i64.wrap z)
    else
      (slices_BinarySearchFunc_api_Range_api_Range_int.k1 x target cmp i1).map Step.done
def slices_BinarySearchFunc_api_Range_api_Range_int (x : List TRange) (target : Int) (cmp : TRange → Int → Option Int) : Option ((Int × Bool)) :=
  Loop (slices_BinarySearchFunc_api_Range_api_Range_int.b1 x target cmp) ((0 : Int), (x.length : Int))
def ranges_Has_1 (x : TRange) (r : Int) : Option Int :=
  if (decide (x.High < r)) then
    some (-1 : Int)
  else
    if (decide (x.Low > r)) then
      some (1 : Int)
    else
      some (0 : Int)
def ranges_Has (a_ : List TRange) (r : Int) : Option Bool :=
  (slices_BinarySearchFunc_api_Range_api_Range_int a_ r (ranges_Has_1)).bind fun r1 =>
  some r1.2
def alphabet_mask.k1 (m : Int) : Option Int :=
  some m
def alphabet_mask.k2 (v : Int) (m2 : Int) : Option (Step ((Int × Int)) Int) :=
  some (Step.next (m2, (IntKind.i64.wrap (v + (1 : Int)))))
def alphabet_mask.b1 (sets : List (List TRange)) (r : Int) : (Int × Int) → Option (Step ((Int × Int)) Int)
  | (m1, v) =>
    if (decide (v < (sets.length : Int))) then
      (idx sets v).bind fun xs =>
      (ranges_Has xs r).bind fun r1 =>
      if r1 then
        (nat v).bind fun _ =>
        alphabet_mask.k2 v (bOr .u64 m1 (shL .u64 (1 : Int) v))
      else
        alphabet_mask.k2 v m1
    else
      (alphabet_mask.k1 m1).map Step.done
def alphabet_mask (sets : List (List TRange)) (r : Int) : Option Int :=
  Loop (alphabet_mask.b1 sets r) ((0 : Int), (0 : Int))
def trie_Build_1 (x : TProp) : Option Bool :=
  some ((decide (x.Low < (0 : Int))) || ((decide (x.High > (1114111 : Int))) || (decide (x.Low > x.High))))
def slices_IndexFunc_api_Prop_api_Prop.k1 : Option Int :=
  some (-1 : Int)
def slices_IndexFunc_api_Prop_api_Prop.b1 (s : List TProp) (f : TProp → Option Bool) : Int → Option (Step Int Int)
  | v =>
    if (decide (v < (s.length : Int))) then
      (idx s v).bind fun x =>
      (f x).bind fun r =>
      if r then
        some (Step.done v)
      else
        some (Step.next (IntKind.i64.wrap (v + (1 : Int))))
    else
      (slices_IndexFunc_api_Prop_api_Prop.k1).map Step.done
def slices_IndexFunc_api_Prop_api_Prop (s : List TProp) (f : TProp → Option Bool) : Option Int :=
  Loop (slices_IndexFunc_api_Prop_api_Prop.b1 s f) (0 : Int)
def slices_ContainsFunc_api_Prop_api_Prop (s : List TProp) (f : TProp → Option Bool) : Option Bool :=
  (slices_IndexFunc_api_Prop_api_Prop s f).bind fun r =>
  some (decide (r ≥ (0 : Int)))
def trie_Trie_add.k1 (t : Ttrie_Trie) (k : Int) (i : Int) (like : List (Vector UInt8 256)) (m : List (Vector UInt8 256 × Int)) : Option ((Bool × Ttrie_Trie × List (Vector UInt8 256 × Int))) :=
  (idx t.like.toList k).bind fun n =>
  some (true, (Ttrie_Trie.mk (vset t.like k (u8 (IntKind.u8.wrap i))) like), m)
def trie_Trie_add (t : Ttrie_Trie) (k : Int) (b : Vector UInt8 256) (known : List (Vector UInt8 256 × Int)) : Option ((Bool × Ttrie_Trie × List (Vector UInt8 256 × Int))) :=
  if (!(aget b known).isSome) then
    if (decide ((t.first.length : Int) ≥ (256 : Int))) then
      some (false, t, known)
    else
      (room 256 (t.first.length + 1)).bind fun _ =>
      trie_Trie_add.k1 t k (t.first.length : Int) (t.first ++ ([b])) (aput b (t.first.length : Int) known)
  else
    trie_Trie_add.k1 t k ((aget b known).getD (0 : Int)) t.first known
def trie_Build.k1 (like : Vector UInt8 4352) (like1 : List (Vector UInt8 256)) : Option ((Option Ttrie_Trie × Int)) :=
  some ((some (Ttrie_Trie.mk like like1)), (0 : Int))
def trie_Build.k2 (v : Int) (like4 : Vector UInt8 4352) (like5 : List (Vector UInt8 256)) (m1 : List (Vector UInt8 256 × Int)) : Option (Step ((Int × Vector UInt8 4352 × List (Vector UInt8 256) × List (Vector UInt8 256 × Int))) ((Option Ttrie_Trie × Int))) :=
  some (Step.next ((IntKind.i64.wrap (v + (1 : Int))), like4, like5, m1))
def trie_Build.k3 (v : Int) (like2 : Vector UInt8 4352) (like3 : List (Vector UInt8 256)) (m : List (Vector UInt8 256 × Int)) (v1 : Vector UInt8 256) : Option (Step ((Int × Vector UInt8 4352 × List (Vector UInt8 256) × List (Vector UInt8 256 × Int))) ((Option Ttrie_Trie × Int))) :=
  (trie_Trie_add (Ttrie_Trie.mk like2 like3) v v1 m).bind fun r1 =>
  if (!r1.1) then
    some (Step.done (none, (3 : Int)))
  else
    trie_Build.k2 v r1.2.1.like r1.2.1.first r1.2.2
def trie_Build.k4 (v2 : Int) (v4 : Vector UInt8 256) : Option (Step ((Int × Vector UInt8 256)) (Step ((Int × Vector UInt8 4352 × List (Vector UInt8 256) × List (Vector UInt8 256 × Int))) ((Option Ttrie_Trie × Int)))) :=
  some (Step.next ((IntKind.i64.wrap (v2 + (1 : Int))), v4))
def trie_Build.b3 (v : Int) (v2 : Int) (x : TProp) : (Int × Vector UInt8 256) → Option (Step ((Int × Vector UInt8 256)) (Step ((Int × Vector UInt8 256)) (Step ((Int × Vector UInt8 4352 × List (Vector UInt8 256) × List (Vector UInt8 256 × Int))) ((Option Ttrie_Trie × Int)))))
  | (r2, v5) =>
    if (decide (r2 ≤ (mn x.High (IntKind.i64.wrap ((IntKind.i64.wrap ((IntKind.i64.wrap (v * (256 : Int))) + (256 : Int))) - (1 : Int)))))) then
      (idx v5.toList (IntKind.i64.wrap (r2 - (IntKind.i64.wrap (v * (256 : Int)))))).bind fun n =>
      some (Step.next ((IntKind.i64.wrap (r2 + (1 : Int))), (vset v5 (IntKind.i64.wrap (r2 - (IntKind.i64.wrap (v * (256 : Int))))) x.Value)))
    else
      (trie_Build.k4 v2 v5).map Step.done
def trie_Build.b2 (l : List TProp) (v : Int) (like2 : Vector UInt8 4352) (like3 : List (Vector UInt8 256)) (m : List (Vector UInt8 256 × Int)) : (Int × Vector UInt8 256) → Option (Step ((Int × Vector UInt8 256)) (Step ((Int × Vector UInt8 4352 × List (Vector UInt8 256) × List (Vector UInt8 256 × Int))) ((Option Ttrie_Trie × Int))))
  | (v2, v3) =>
    if (decide (v2 < (l.length : Int))) then
      (idx l v2).bind fun x =>
      Loop (trie_Build.b3 v v2 x) ((mx x.Low (IntKind.i64.wrap (v * (256 : Int)))), v3)
    else
      (trie_Build.k3 v like2 like3 m v3).map Step.done
def trie_Build.b1 (l : List TProp) : (Int × Vector UInt8 4352 × List (Vector UInt8 256) × List (Vector UInt8 256 × Int)) → Option (Step ((Int × Vector UInt8 4352 × List (Vector UInt8 256) × List (Vector UInt8 256 × Int))) ((Option Ttrie_Trie × Int)))
  | (v, like2, like3, m) =>
    if (decide (v < (4352 : Int))) then
      Loop (trie_Build.b2 l v like2 like3 m) ((0 : Int), (Vector.replicate 256 (0 : UInt8)))
    else
      (trie_Build.k1 like2 like3).map Step.done
def trie_Build (l : List TProp) : Option ((Option Ttrie_Trie × Int)) :=
  if (decide ((l.length : Int) > (4096 : Int))) then
    some (none, (3 : Int))
  else
    (slices_ContainsFunc_api_Prop_api_Prop l (trie_Build_1)).bind fun r =>
    if r then
      some (none, (1 : Int))
    else
      Loop (trie_Build.b1 l) ((0 : Int), (Vector.replicate 4352 (0 : UInt8)), [], [])
def alphabet_New.k2 (props : List TProp) (masks : List Int) (least : List Int) : Option ((Option Talphabet_Alphabet × Int)) :=
  (trie_Build props).bind fun r1 =>
  (match r1.1 with
  | none =>
    if (r1.2 != (0 : Int)) then
      some (none, (3 : Int))
    else
      none
  | some y =>
    if (r1.2 != (0 : Int)) then
      some (none, (3 : Int))
    else
      some ((some (Talphabet_Alphabet.mk y masks least)), (0 : Int)))
def alphabet_New.k4 (props1 : List TProp) (v : Int) (n : Int) (class_ : Int) (masks2 : List Int) (least2 : List Int) (m1 : List (Int × Int)) (high : Int) : Option (Step ((List TProp × Int × List Int × List Int × List (Int × Int))) ((Option Talphabet_Alphabet × Int))) :=
  (room 24 (props1.length + 1)).bind fun _ =>
  some (Step.next ((props1 ++ ([(TProp.mk n high (u8 (IntKind.u8.wrap class_)))])), (IntKind.i64.wrap (v + (1 : Int))), masks2, least2, m1))
def alphabet_New.k3 (r : List Int) (props1 : List TProp) (v : Int) (n : Int) (class_ : Int) (masks2 : List Int) (least2 : List Int) (m1 : List (Int × Int)) : Option (Step ((List TProp × Int × List Int × List Int × List (Int × Int))) ((Option Talphabet_Alphabet × Int))) :=
  if (decide ((m1.length : Int) > (200 : Int))) then
    some (Step.done (none, (3 : Int)))
  else
    if (decide ((IntKind.i64.wrap (v + (1 : Int))) < (r.length : Int))) then
      (idx r (IntKind.i64.wrap (v + (1 : Int)))).bind fun n1 =>
      alphabet_New.k4 props1 v n class_ masks2 least2 m1 (IntKind.i64.wrap (n1 - (1 : Int)))
    else
      alphabet_New.k4 props1 v n class_ masks2 least2 m1 (1114111 : Int)
def alphabet_New.b1 (sets : List (List TRange)) (r : List Int) : (List TProp × Int × List Int × List Int × List (Int × Int)) → Option (Step ((List TProp × Int × List Int × List Int × List (Int × Int))) ((Option Talphabet_Alphabet × Int)))
  | (props1, v, masks1, least1, m) =>
    if (decide (v < (r.length : Int))) then
      (idx r v).bind fun n =>
      (alphabet_mask sets n).bind fun r2 =>
      if (!(aget r2 m).isSome) then
        (room 8 (masks1.length + 1)).bind fun _ =>
        (room 8 (least1.length + 1)).bind fun _ =>
        alphabet_New.k3 r props1 v n (m.length : Int) (masks1 ++ ([r2])) (least1 ++ ([n])) (aput r2 (m.length : Int) m)
      else
        alphabet_New.k3 r props1 v n ((aget r2 m).getD (0 : Int)) masks1 least1 m
    else
      (alphabet_New.k2 props1 masks1 least1).map Step.done
def alphabet_New.k1 (sets : List (List TRange)) : Option ((Option Talphabet_Alphabet × Int)) :=
  (alphabet_edges sets).bind fun r =>
  Loop (alphabet_New.b1 sets r) ([], (0 : Int), [], [], [])
def alphabet_New.b2 (sets : List (List TRange)) : Int → Option (Step Int ((Option Talphabet_Alphabet × Int)))
  | v1 =>
    if (decide (v1 < (sets.length : Int))) then
      (idx sets v1).bind fun xs =>
      (ranges_Make xs).bind fun r3 =>
      (if (r3.2 != (0 : Int)) then
          some true
        else
          (slices_Equal_api_Range_api_Range r3.1 xs).bind fun r4 =>
          some (!r4)).bind fun v2 =>
      if v2 then
        some (Step.done (none, (1 : Int)))
      else
        some (Step.next (IntKind.i64.wrap (v1 + (1 : Int))))
    else
      (alphabet_New.k1 sets).map Step.done
def alphabet_New (sets : List (List TRange)) : Option ((Option Talphabet_Alphabet × Int)) :=
  if (decide ((sets.length : Int) > (60 : Int))) then
    some (none, (3 : Int))
  else
    Loop (alphabet_New.b2 sets) (0 : Int)
def alphabet_Alphabet_Count (a_ : Talphabet_Alphabet) : Option Int :=
  some (a_.masks.length : Int)
def trie_Trie_Of (t : Ttrie_Trie) (r : Int) : Option UInt8 :=
  if ((decide (r < (0 : Int))) || (decide (r > (1114111 : Int)))) then
    some (u8 (0 : Int))
  else
    (idx t.like.toList (IntKind.i64.wrap (Int.tdiv r (256 : Int)))).bind fun n =>
    (idx t.first (n.toNat : Int)).bind fun y =>
    (idx y.toList (Int.tmod r (256 : Int))).bind fun n1 =>
    some n1
def alphabet_Alphabet_Of (a_ : Talphabet_Alphabet) (r : Int) : Option Int :=
  if ((decide (r < (0 : Int))) || (decide (r > (1114111 : Int)))) then
    some (-1 : Int)
  else
    (trie_Trie_Of a_.trie r).bind fun r1 =>
    some (IntKind.i64.wrap (r1.toNat : Int))
def alphabet_Alphabet_has (a_ : Talphabet_Alphabet) (class_ : Int) : Option Bool :=
  some ((decide (class_ ≥ (0 : Int))) && (decide (class_ < (a_.masks.length : Int))))
def alphabet_Alphabet_Mask (a_ : Talphabet_Alphabet) (class_ : Int) : Option Int :=
  (alphabet_Alphabet_has a_ class_).bind fun r =>
  if (!r) then
    some (0 : Int)
  else
    (idx a_.masks class_).bind fun n =>
    some n
def alphabet_Alphabet_Any (a_ : Talphabet_Alphabet) (class_ : Int) : Option Int :=
  (alphabet_Alphabet_has a_ class_).bind fun r =>
  if (!r) then
    some (-1 : Int)
  else
    (idx a_.least class_).bind fun n =>
    some n
def scansionlaw09_awake : Option Bool :=
  (alphabet_New ([[(TRange.mk (97 : Int) (99 : Int))], [(TRange.mk (98 : Int) (122 : Int))]])).bind fun r =>
  (match r.1 with
  | none =>
    some false
  | some y =>
    (if (r.2 == (0 : Int)) then
        (alphabet_Alphabet_Count y).bind fun r1 =>
        if (r1 == (4 : Int)) then
          (alphabet_Alphabet_Of y (99 : Int)).bind fun r2 =>
          if (r2 == (2 : Int)) then
            (alphabet_Alphabet_Mask y (2 : Int)).bind fun r3 =>
            if (r3 == (3 : Int)) then
              (alphabet_Alphabet_Any y (2 : Int)).bind fun r4 =>
              some (r4 == (98 : Int))
            else
              some false
          else
            some false
        else
          some false
      else
        some false).bind fun v =>
    some v)
def scansionlaw09_few.k1 (n : Int) : Option Bool :=
  some (decide (n ≤ (1200 : Int)))
def scansionlaw09_few.b1 (l : List (List TRange)) : (Int × Int) → Option (Step ((Int × Int)) Bool)
  | (n1, i) =>
    if (decide (i < (l.length : Int))) then
      (if (decide (i > (100 : Int))) then
          some true
        else
          (idx l i).bind fun xs =>
          some (decide ((xs.length : Int) > (300 : Int)))).bind fun v =>
      if v then
        some (Step.done false)
      else
        (idx l i).bind fun xs1 =>
        some (Step.next ((IntKind.i64.wrap (n1 + (xs1.length : Int))), (IntKind.i64.wrap (i + (1 : Int)))))
    else
      (scansionlaw09_few.k1 n1).map Step.done
def scansionlaw09_few (l : List (List TRange)) : Option Bool :=
  Loop (scansionlaw09_few.b1 l) ((0 : Int), (0 : Int))
def scansionref02_rising.k1 (l : List Int) (n : Int) (at_ : Int) : Option (List Int) :=
  (if (decide (at_ < (l.length : Int))) then
      (idx l at_).bind fun n1 =>
      some (n1 == n)
    else
      some false).bind fun v =>
  if v then
    some l
  else
    (cutH l at_).bind fun _ =>
    (room 8 (0 + (List.take (Int.toNat at_) l).length)).bind fun _ =>
    (room 8 ((List.take (Int.toNat at_) l).length + 1)).bind fun _ =>
    (cutL l at_).bind fun _ =>
    (room 8 ((List.take (Int.toNat at_) l).length + 1 + (List.drop (Int.toNat at_) l).length)).bind fun _ =>
    some (((List.take (Int.toNat at_) l) ++ ([n])) ++ (List.drop (Int.toNat at_) l))
def scansionref02_rising.b1 (l : List Int) (n : Int) : Int → Option (Step Int (List Int))
  | at_1 =>
    (if (decide (at_1 < (l.length : Int))) then
        (idx l at_1).bind fun n2 =>
        some (decide (n2 < n))
      else
        some false).bind fun v1 =>
    if v1 then
      some (Step.next (IntKind.i64.wrap (at_1 + (1 : Int))))
    else
      (scansionref02_rising.k1 l n at_1).map Step.done
def scansionref02_rising (l : List Int) (n : Int) : Option (List Int) :=
  Loop (scansionref02_rising.b1 l n) (0 : Int)
def scansionref02_edges.k1 (out : List Int) : Option (List Int) :=
  some out
def scansionref02_edges.k2 (i : Int) (out2 : List Int) : Option (Step ((List Int × Int)) (List Int)) :=
  some (Step.next (out2, (IntKind.i64.wrap (i + (1 : Int)))))
def scansionref02_edges.b1 (a_ : List TRange) (b : List TRange) : (List Int × Int) → Option (Step ((List Int × Int)) (List Int))
  | (out1, i) =>
    if (decide (i < ((a_ ++ b).length : Int))) then
      (idx (a_ ++ b) i).bind fun x =>
      (scansionref02_rising out1 x.Low).bind fun r =>
      if (decide (x.High < (1114111 : Int))) then
        (scansionref02_rising r (IntKind.i64.wrap (x.High + (1 : Int)))).bind fun r1 =>
        scansionref02_edges.k2 i r1
      else
        scansionref02_edges.k2 i r
    else
      (scansionref02_edges.k1 out1).map Step.done
def scansionref02_edges (a_ : List TRange) (b : List TRange) : Option (List Int) :=
  (room 16 (0 + a_.length)).bind fun _ =>
  (room 16 (a_.length + b.length)).bind fun _ =>
  Loop (scansionref02_edges.b1 a_ b) ([(0 : Int)], (0 : Int))
def scansionref02_Has.k1 : Option Bool :=
  some false
def scansionref02_Has.b1 (a_ : List TRange) (r : Int) : Int → Option (Step Int Bool)
  | i =>
    if (decide (i < (a_.length : Int))) then
      ((idx a_ i).bind fun x =>
        if (decide (r ≥ x.Low)) then
          some (decide (r ≤ x.High))
        else
          some false).bind fun v =>
      if v then
        some (Step.done true)
      else
        some (Step.next (IntKind.i64.wrap (i + (1 : Int))))
    else
      (scansionref02_Has.k1).map Step.done
def scansionref02_Has (a_ : List TRange) (r : Int) : Option Bool :=
  Loop (scansionref02_Has.b1 a_ r) (0 : Int)
def scansionref02_with (l : List TRange) (low : Int) (high : Int) : Option (List TRange) :=
  (if (decide ((l.length : Int) > (0 : Int))) then
      (idx l (IntKind.i64.wrap ((l.length : Int) - (1 : Int)))).bind fun x =>
      some (x.High == (IntKind.i64.wrap (low - (1 : Int))))
    else
      some false).bind fun v =>
  if v then
    (idx l (IntKind.i64.wrap ((l.length : Int) - (1 : Int)))).bind fun x1 =>
    some (List.set l (Int.toNat (IntKind.i64.wrap ((l.length : Int) - (1 : Int)))) (TRange.mk x1.Low high))
  else
    (room 16 (l.length + 1)).bind fun _ =>
    some (l ++ ([(TRange.mk low high)]))
def scansionref02_pick.k1 (out : List TRange) : Option (List TRange) :=
  some out
def scansionref02_pick.k2 (i : Int) (out2 : List TRange) : Option (Step ((List TRange × Int)) (List TRange)) :=
  some (Step.next (out2, (IntKind.i64.wrap (i + (1 : Int)))))
def scansionref02_pick.k4 (out1 : List TRange) (i : Int) (high : Int) (n : Int) (is1 : Bool) : Option (Step ((List TRange × Int)) (List TRange)) :=
  if is1 then
    (scansionref02_with out1 n high).bind fun r3 =>
    scansionref02_pick.k2 i r3
  else
    scansionref02_pick.k2 i out1
def scansionref02_pick.k3 (a_ : List TRange) (b : List TRange) (kind : Int) (r : List Int) (out1 : List TRange) (i : Int) (high : Int) : Option (Step ((List TRange × Int)) (List TRange)) :=
  (idx r i).bind fun n =>
  (scansionref02_Has a_ n).bind fun r1 =>
  (scansionref02_Has b n).bind fun r2 =>
  if (kind == (1 : Int)) then
    if r1 then
      scansionref02_pick.k4 out1 i high n r2
    else
      scansionref02_pick.k4 out1 i high n false
  else
    if (kind == (2 : Int)) then
      if r1 then
        scansionref02_pick.k4 out1 i high n (!r2)
      else
        scansionref02_pick.k4 out1 i high n false
    else
      if (kind == (3 : Int)) then
        if (!r1) then
          scansionref02_pick.k4 out1 i high n (!r2)
        else
          scansionref02_pick.k4 out1 i high n false
      else
        scansionref02_pick.k4 out1 i high n (r1 || r2)
def scansionref02_pick.b1 (a_ : List TRange) (b : List TRange) (kind : Int) (r : List Int) : (List TRange × Int) → Option (Step ((List TRange × Int)) (List TRange))
  | (out1, i) =>
    if (decide (i < (r.length : Int))) then
      if (decide ((IntKind.i64.wrap (i + (1 : Int))) < (r.length : Int))) then
        (idx r (IntKind.i64.wrap (i + (1 : Int)))).bind fun n1 =>
        scansionref02_pick.k3 a_ b kind r out1 i (IntKind.i64.wrap (n1 - (1 : Int)))
      else
        scansionref02_pick.k3 a_ b kind r out1 i (1114111 : Int)
    else
      (scansionref02_pick.k1 out1).map Step.done
def scansionref02_pick (a_ : List TRange) (b : List TRange) (kind : Int) : Option (List TRange) :=
  (scansionref02_edges a_ b).bind fun r =>
  Loop (scansionref02_pick.b1 a_ b kind r) ([], (0 : Int))
def scansionref02_Make.k1 (l : List TRange) : Option ((List TRange × Int)) :=
  (scansionref02_pick l [] (0 : Int)).bind fun r =>
  some (r, (0 : Int))
def scansionref02_Make.b1 (l : List TRange) : Int → Option (Step Int ((List TRange × Int)))
  | i =>
    if (decide (i < (l.length : Int))) then
      ((idx l i).bind fun x =>
        if (decide (x.Low < (0 : Int))) then
          some true
        else
          if (decide (x.High > (1114111 : Int))) then
            some true
          else
            some (decide (x.Low > x.High))).bind fun v =>
      if v then
        some (Step.done (([] : List TRange), (1 : Int)))
      else
        some (Step.next (IntKind.i64.wrap (i + (1 : Int))))
    else
      (scansionref02_Make.k1 l).map Step.done
def scansionref02_Make (l : List TRange) : Option ((List TRange × Int)) :=
  Loop (scansionref02_Make.b1 l) (0 : Int)
def scansionlaw09_sets.k1 (out : List (List TRange)) : Option (List (List TRange)) :=
  some out
def scansionlaw09_sets.b1 (l : List (List TRange)) : (List (List TRange) × Int) → Option (Step ((List (List TRange) × Int)) (List (List TRange)))
  | (out1, i) =>
    if (decide (i < (l.length : Int))) then
      (idx l i).bind fun xs =>
      (scansionref02_Make xs).bind fun r =>
      (room 24 (out1.length + 1)).bind fun _ =>
      some (Step.next ((out1 ++ ([r.1])), (IntKind.i64.wrap (i + (1 : Int)))))
    else
      (scansionlaw09_sets.k1 out1).map Step.done
def scansionlaw09_sets (l : List (List TRange)) : Option (List (List TRange)) :=
  Loop (scansionlaw09_sets.b1 l) ([], (0 : Int))
def scansionref02_Same.k1 : Option Bool :=
  some true
def scansionref02_Same.b1 (a_ : List TRange) (b : List TRange) : Int → Option (Step Int Bool)
  | i =>
    if (decide (i < (a_.length : Int))) then
      (idx a_ i).bind fun x =>
      (idx b i).bind fun x1 =>
      if (!(x.Low == x1.Low && (x.High == x1.High && true))) then
        some (Step.done false)
      else
        some (Step.next (IntKind.i64.wrap (i + (1 : Int))))
    else
      (scansionref02_Same.k1).map Step.done
def scansionref02_Same (a_ : List TRange) (b : List TRange) : Option Bool :=
  if ((a_.length : Int) != (b.length : Int)) then
    some false
  else
    Loop (scansionref02_Same.b1 a_ b) (0 : Int)
def scansionref09_rising.k1 (l : List Int) (n : Int) (at_ : Int) : Option (List Int) :=
  (if (decide (at_ < (l.length : Int))) then
      (idx l at_).bind fun n1 =>
      some (n1 == n)
    else
      some false).bind fun v =>
  if v then
    some l
  else
    (cutH l at_).bind fun _ =>
    (room 8 (0 + (List.take (Int.toNat at_) l).length)).bind fun _ =>
    (room 8 ((List.take (Int.toNat at_) l).length + 1)).bind fun _ =>
    (cutL l at_).bind fun _ =>
    (room 8 ((List.take (Int.toNat at_) l).length + 1 + (List.drop (Int.toNat at_) l).length)).bind fun _ =>
    some (((List.take (Int.toNat at_) l) ++ ([n])) ++ (List.drop (Int.toNat at_) l))
def scansionref09_rising.b1 (l : List Int) (n : Int) : Int → Option (Step Int (List Int))
  | at_1 =>
    (if (decide (at_1 < (l.length : Int))) then
        (idx l at_1).bind fun n2 =>
        some (decide (n2 < n))
      else
        some false).bind fun v1 =>
    if v1 then
      some (Step.next (IntKind.i64.wrap (at_1 + (1 : Int))))
    else
      (scansionref09_rising.k1 l n at_1).map Step.done
def scansionref09_rising (l : List Int) (n : Int) : Option (List Int) :=
  Loop (scansionref09_rising.b1 l n) (0 : Int)
def scansionref09_edges.k1 (out : List Int) : Option (List Int) :=
  some out
def scansionref09_edges.k2 (i : Int) (out2 : List Int) : Option (Step ((List Int × Int)) (List Int)) :=
  some (Step.next (out2, (IntKind.i64.wrap (i + (1 : Int)))))
def scansionref09_edges.k3 (k : Int) (out4 : List Int) : Option (Step ((List Int × Int)) (Step ((List Int × Int)) (List Int))) :=
  some (Step.next (out4, (IntKind.i64.wrap (k + (1 : Int)))))
def scansionref09_edges.b2 (sets : List (List TRange)) (i : Int) : (List Int × Int) → Option (Step ((List Int × Int)) (Step ((List Int × Int)) (List Int)))
  | (out3, k) =>
    (idx sets i).bind fun xs =>
    if (decide (k < (xs.length : Int))) then
      (idx xs k).bind fun x =>
      (scansionref09_rising out3 x.Low).bind fun r =>
      if (decide (x.High < (1114111 : Int))) then
        (scansionref09_rising r (IntKind.i64.wrap (x.High + (1 : Int)))).bind fun r1 =>
        scansionref09_edges.k3 k r1
      else
        scansionref09_edges.k3 k r
    else
      (scansionref09_edges.k2 i out3).map Step.done
def scansionref09_edges.b1 (sets : List (List TRange)) : (List Int × Int) → Option (Step ((List Int × Int)) (List Int))
  | (out1, i) =>
    if (decide (i < (sets.length : Int))) then
      Loop (scansionref09_edges.b2 sets i) (out1, (0 : Int))
    else
      (scansionref09_edges.k1 out1).map Step.done
def scansionref09_edges (sets : List (List TRange)) : Option (List Int) :=
  Loop (scansionref09_edges.b1 sets) ([(0 : Int)], (0 : Int))
def scansionref09_mask.k1 (m : Int) : Option Int :=
  some m
def scansionref09_mask.k2 (i : Int) (m2 : Int) : Option (Step ((Int × Int)) Int) :=
  some (Step.next (m2, (IntKind.i64.wrap (i + (1 : Int)))))
def scansionref09_mask.b1 (sets : List (List TRange)) (r : Int) : (Int × Int) → Option (Step ((Int × Int)) Int)
  | (m1, i) =>
    if (decide (i < (sets.length : Int))) then
      (idx sets i).bind fun xs =>
      (scansionref02_Has xs r).bind fun r1 =>
      if r1 then
        (nat (IntKind.u64.wrap i)).bind fun _ =>
        scansionref09_mask.k2 i (bOr .u64 m1 (shL .u64 (1 : Int) (IntKind.u64.wrap i)))
      else
        scansionref09_mask.k2 i m1
    else
      (scansionref09_mask.k1 m1).map Step.done
def scansionref09_mask (sets : List (List TRange)) (r : Int) : Option Int :=
  Loop (scansionref09_mask.b1 sets r) ((0 : Int), (0 : Int))
def scansionref09_Alphabet_find.k1 : Option Int :=
  some (-1 : Int)
def scansionref09_Alphabet_find.b1 (a_ : Tscansionref09_Alphabet) (m : Int) : Int → Option (Step Int Int)
  | i =>
    if (decide (i < (a_.M.length : Int))) then
      (idx a_.M i).bind fun n =>
      if (n == m) then
        some (Step.done i)
      else
        some (Step.next (IntKind.i64.wrap (i + (1 : Int))))
    else
      (scansionref09_Alphabet_find.k1).map Step.done
def scansionref09_Alphabet_find (a_ : Tscansionref09_Alphabet) (m : Int) : Option Int :=
  Loop (scansionref09_Alphabet_find.b1 a_ m) (0 : Int)
def scansionref03_touched.k1 (out : List TProp) : Option (List TProp) :=
  some out
def scansionref03_touched.k2 (i : Int) (out2 : List TProp) : Option (Step ((List TProp × Int)) (List TProp)) :=
  some (Step.next (out2, (IntKind.i64.wrap (i + (1 : Int)))))
def scansionref03_touched.b1 (l : List TProp) (k : Int) : (List TProp × Int) → Option (Step ((List TProp × Int)) (List TProp))
  | (out1, i) =>
    if (decide (i < (l.length : Int))) then
      ((idx l i).bind fun x =>
        if (decide (x.High ≥ (IntKind.i64.wrap (k * (256 : Int))))) then
          some (decide (x.Low < (IntKind.i64.wrap ((IntKind.i64.wrap (k + (1 : Int))) * (256 : Int)))))
        else
          some false).bind fun v =>
      if v then
        (idx l i).bind fun x1 =>
        (room 24 (out1.length + 1)).bind fun _ =>
        scansionref03_touched.k2 i (out1 ++ ([x1]))
      else
        scansionref03_touched.k2 i out1
    else
      (scansionref03_touched.k1 out1).map Step.done
def scansionref03_touched (l : List TProp) (k : Int) : Option (List TProp) :=
  Loop (scansionref03_touched.b1 l k) ([], (0 : Int))
def scansionref03_value.k1 (v : UInt8) : Option UInt8 :=
  some v
def scansionref03_value.k2 (i : Int) (v2 : UInt8) : Option (Step ((UInt8 × Int)) UInt8) :=
  some (Step.next (v2, (IntKind.i64.wrap (i + (1 : Int)))))
def scansionref03_value.b1 (l : List TProp) (r : Int) : (UInt8 × Int) → Option (Step ((UInt8 × Int)) UInt8)
  | (v1, i) =>
    if (decide (i < (l.length : Int))) then
      ((idx l i).bind fun x =>
        if (decide (r ≥ x.Low)) then
          some (decide (r ≤ x.High))
        else
          some false).bind fun v3 =>
      if v3 then
        (idx l i).bind fun x1 =>
        scansionref03_value.k2 i x1.Value
      else
        scansionref03_value.k2 i v1
    else
      (scansionref03_value.k1 v1).map Step.done
def scansionref03_value (l : List TProp) (r : Int) : Option UInt8 :=
  Loop (scansionref03_value.b1 l r) ((u8 (0 : Int)), (0 : Int))
def scansionref03_Trie_add.k1 (t : Tscansionref03_Trie) (k : Int) (First : List UInt8) : Option Tscansionref03_Trie :=
  (room 8 (t.Like.length + 1)).bind fun _ =>
  some (Tscansionref03_Trie.mk First (t.Like ++ ([k])))
def scansionref03_Trie_add (t : Tscansionref03_Trie) (b : List UInt8) : Option Tscansionref03_Trie :=
  (scansionref03_Trie_place t b).bind fun r =>
  if (decide (r < (0 : Int))) then
    (room 1 (t.First.length + b.length)).bind fun _ =>
    scansionref03_Trie_add.k1 t (IntKind.i64.wrap (Int.tdiv (t.First.length : Int) (256 : Int))) (t.First ++ b)
  else
    scansionref03_Trie_add.k1 t r t.First
def scansionref03_Build.k2 (First : List UInt8) (Like : List Int) : Option ((Option Tscansionref03_Trie × Int)) :=
  some ((some (Tscansionref03_Trie.mk First Like)), (0 : Int))
def scansionref03_Build.k3 (k : Int) (First2 : List UInt8) (Like2 : List Int) : Option (Step ((Int × List UInt8 × List Int)) ((Option Tscansionref03_Trie × Int))) :=
  some (Step.next ((IntKind.i64.wrap (k + (1 : Int))), First2, Like2))
def scansionref03_Build.k4 (k : Int) (First1 : List UInt8) (Like1 : List Int) (b : List UInt8) : Option (Step ((Int × List UInt8 × List Int)) ((Option Tscansionref03_Trie × Int))) :=
  (scansionref03_Trie_add (Tscansionref03_Trie.mk First1 Like1) b).bind fun r1 =>
  if (decide ((r1.First.length : Int) > (65536 : Int))) then
    some (Step.done (none, (3 : Int)))
  else
    scansionref03_Build.k3 k r1.First r1.Like
def scansionref03_Build.b2 (k : Int) (First1 : List UInt8) (Like1 : List Int) (r : List TProp) : (List UInt8 × Int) → Option (Step ((List UInt8 × Int)) (Step ((Int × List UInt8 × List Int)) ((Option Tscansionref03_Trie × Int))))
  | (b1, i) =>
    if ((decide (i < (256 : Int))) && (decide ((r.length : Int) > (0 : Int)))) then
      (scansionref03_value r (IntKind.i64.wrap ((IntKind.i64.wrap (k * (256 : Int))) + i))).bind fun r2 =>
      (idx b1 i).bind fun n =>
      some (Step.next ((List.set b1 (Int.toNat i) r2), (IntKind.i64.wrap (i + (1 : Int)))))
    else
      (scansionref03_Build.k4 k First1 Like1 b1).map Step.done
def scansionref03_Build.b1 (l : List TProp) : (Int × List UInt8 × List Int) → Option (Step ((Int × List UInt8 × List Int)) ((Option Tscansionref03_Trie × Int)))
  | (k, First1, Like1) =>
    if (decide (k < (4352 : Int))) then
      (scansionref03_touched l k).bind fun r =>
      (mk 1 (0 : UInt8) (256 : Int)).bind fun _ =>
      Loop (scansionref03_Build.b2 k First1 Like1 r) ((List.replicate (Int.toNat (256 : Int)) (0 : UInt8)), (0 : Int))
    else
      (scansionref03_Build.k2 First1 Like1).map Step.done
def scansionref03_Build.k1 (l : List TProp) : Option ((Option Tscansionref03_Trie × Int)) :=
  Loop (scansionref03_Build.b1 l) ((0 : Int), [], [])
def scansionref03_Build.b3 (l : List TProp) : Int → Option (Step Int ((Option Tscansionref03_Trie × Int)))
  | i1 =>
    if (decide (i1 < (l.length : Int))) then
      ((idx l i1).bind fun x =>
        if (decide (x.Low < (0 : Int))) then
          some true
        else
          if (decide (x.High > (1114111 : Int))) then
            some true
          else
            some (decide (x.Low > x.High))).bind fun v1 =>
      if v1 then
        some (Step.done (none, (1 : Int)))
      else
        some (Step.next (IntKind.i64.wrap (i1 + (1 : Int))))
    else
      (scansionref03_Build.k1 l).map Step.done
def scansionref03_Build (l : List TProp) : Option ((Option Tscansionref03_Trie × Int)) :=
  if (decide ((l.length : Int) > (4096 : Int))) then
    some (none, (3 : Int))
  else
    Loop (scansionref03_Build.b3 l) (0 : Int)
def scansionref09_New.k2 (t : List (List TRange)) (v : List TProp) (M : List Int) (First : List Int) : Option ((Option Tscansionref09_Alphabet × Int)) :=
  (scansionref03_Build v).bind fun r1 =>
  (match r1.1 with
  | none =>
    if (r1.2 != (0 : Int)) then
      some (none, (3 : Int))
    else
      some ((some (Tscansionref09_Alphabet.mk t M First)), (0 : Int))
  | some y =>
    if (r1.2 != (0 : Int)) then
      some (none, (3 : Int))
    else
      some ((some (Tscansionref09_Alphabet.mk t M First)), (0 : Int)))
def scansionref09_New.k4 (v1 : List TProp) (v2 : Int) (n : Int) (v3 : Int) (M2 : List Int) (First2 : List Int) (v4 : Int) : Option (Step ((List TProp × Int × List Int × List Int)) ((Option Tscansionref09_Alphabet × Int))) :=
  (room 24 (v1.length + 1)).bind fun _ =>
  some (Step.next ((v1 ++ ([(TProp.mk n v4 (u8 (IntKind.u8.wrap v3)))])), (IntKind.i64.wrap (v2 + (1 : Int))), M2, First2))
def scansionref09_New.k3 (r : List Int) (v1 : List TProp) (v2 : Int) (n : Int) (v3 : Int) (M2 : List Int) (First2 : List Int) : Option (Step ((List TProp × Int × List Int × List Int)) ((Option Tscansionref09_Alphabet × Int))) :=
  if (decide ((M2.length : Int) > (200 : Int))) then
    some (Step.done (none, (3 : Int)))
  else
    if (decide ((IntKind.i64.wrap (v2 + (1 : Int))) < (r.length : Int))) then
      (idx r (IntKind.i64.wrap (v2 + (1 : Int)))).bind fun n1 =>
      scansionref09_New.k4 v1 v2 n v3 M2 First2 (IntKind.i64.wrap (n1 - (1 : Int)))
    else
      scansionref09_New.k4 v1 v2 n v3 M2 First2 (1114111 : Int)
def scansionref09_New.b1 (t : List (List TRange)) (r : List Int) : (List TProp × Int × List Int × List Int) → Option (Step ((List TProp × Int × List Int × List Int)) ((Option Tscansionref09_Alphabet × Int)))
  | (v1, v2, M1, First1) =>
    if (decide (v2 < (r.length : Int))) then
      (idx r v2).bind fun n =>
      (scansionref09_mask t n).bind fun r2 =>
      (scansionref09_Alphabet_find (Tscansionref09_Alphabet.mk t M1 First1) r2).bind fun r3 =>
      if (decide (r3 < (0 : Int))) then
        (room 8 (M1.length + 1)).bind fun _ =>
        (room 8 (First1.length + 1)).bind fun _ =>
        scansionref09_New.k3 r v1 v2 n (M1.length : Int) (M1 ++ ([r2])) (First1 ++ ([n]))
      else
        scansionref09_New.k3 r v1 v2 n r3 M1 First1
    else
      (scansionref09_New.k2 t v1 M1 First1).map Step.done
def scansionref09_New.k1 (t : List (List TRange)) : Option ((Option Tscansionref09_Alphabet × Int)) :=
  (scansionref09_edges t).bind fun r =>
  Loop (scansionref09_New.b1 t r) ([], (0 : Int), [], [])
def scansionref09_New.b2 (t : List (List TRange)) : Int → Option (Step Int ((Option Tscansionref09_Alphabet × Int)))
  | r4 =>
    if (decide (r4 < (t.length : Int))) then
      (idx t r4).bind fun xs =>
      (scansionref02_Make xs).bind fun r5 =>
      (scansionref02_Same r5.1 xs).bind fun r6 =>
      if ((r5.2 != (0 : Int)) || (!r6)) then
        some (Step.done (none, (1 : Int)))
      else
        some (Step.next (IntKind.i64.wrap (r4 + (1 : Int))))
    else
      (scansionref09_New.k1 t).map Step.done
def scansionref09_New (t : List (List TRange)) : Option ((Option Tscansionref09_Alphabet × Int)) :=
  if (decide ((t.length : Int) > (60 : Int))) then
    some (none, (3 : Int))
  else
    Loop (scansionref09_New.b2 t) (0 : Int)
def scansionref09_Same.k1 : Option Bool :=
  some true
def scansionref09_Same.b1 (a_ : List Int) (b : List Int) : Int → Option (Step Int Bool)
  | i =>
    if (decide (i < (a_.length : Int))) then
      (idx a_ i).bind fun n =>
      (idx b i).bind fun n1 =>
      if (n != n1) then
        some (Step.done false)
      else
        some (Step.next (IntKind.i64.wrap (i + (1 : Int))))
    else
      (scansionref09_Same.k1).map Step.done
def scansionref09_Same (a_ : List Int) (b : List Int) : Option Bool :=
  if ((a_.length : Int) != (b.length : Int)) then
    some false
  else
    Loop (scansionref09_Same.b1 a_ b) (0 : Int)
def alphabet_Alphabet_Word.k1 (out : List Int) : Option (List Int) :=
  some out
def alphabet_Alphabet_Word.b1 (a_ : Talphabet_Alphabet) (l : List Int) : (List Int × Int) → Option (Step ((List Int × Int)) (List Int))
  | (out1, v) =>
    if (decide (v < (l.length : Int))) then
      (idx l v).bind fun n =>
      (alphabet_Alphabet_Of a_ n).bind fun r =>
      (alphabet_Alphabet_Mask a_ r).bind fun r1 =>
      (room 8 (out1.length + 1)).bind fun _ =>
      some (Step.next ((out1 ++ ([r1])), (IntKind.i64.wrap (v + (1 : Int)))))
    else
      (alphabet_Alphabet_Word.k1 out1).map Step.done
def alphabet_Alphabet_Word (a_ : Talphabet_Alphabet) (l : List Int) : Option (List Int) :=
  Loop (alphabet_Alphabet_Word.b1 a_ l) ([], (0 : Int))
def scansionref09_Alphabet_Word.k1 (out : List Int) : Option (List Int) :=
  some out
def scansionref09_Alphabet_Word.k2 (i : Int) (out2 : List Int) : Option (Step ((List Int × Int)) (List Int)) :=
  some (Step.next (out2, (IntKind.i64.wrap (i + (1 : Int)))))
def scansionref09_Alphabet_Word.b1 (a_ : Tscansionref09_Alphabet) (l : List Int) : (List Int × Int) → Option (Step ((List Int × Int)) (List Int))
  | (out1, i) =>
    if (decide (i < (l.length : Int))) then
      ((idx l i).bind fun n =>
        if (decide (n < (0 : Int))) then
          some true
        else
          some (decide (n > (1114111 : Int)))).bind fun v =>
      if v then
        (room 8 (out1.length + 1)).bind fun _ =>
        scansionref09_Alphabet_Word.k2 i (out1 ++ ([(0 : Int)]))
      else
        (idx l i).bind fun n1 =>
        (scansionref09_mask a_.Sets n1).bind fun r =>
        (room 8 (out1.length + 1)).bind fun _ =>
        scansionref09_Alphabet_Word.k2 i (out1 ++ ([r]))
    else
      (scansionref09_Alphabet_Word.k1 out1).map Step.done
def scansionref09_Alphabet_Word (a_ : Tscansionref09_Alphabet) (l : List Int) : Option (List Int) :=
  Loop (scansionref09_Alphabet_Word.b1 a_ l) ([], (0 : Int))
def scansionlaw09_AlphabetWords (l : List (List TRange)) (r : List Int) : Option Bool :=
  scansionlaw09_awake.bind fun r1 =>
  (scansionlaw09_few l).bind fun r2 =>
  if ((!r1) || ((!r2) || (decide ((r.length : Int) > (300 : Int))))) then
    some r1
  else
    (scansionlaw09_sets l).bind fun r3 =>
    (alphabet_New r3).bind fun r4 =>
    (match r4.1 with
    | none =>
      (scansionref09_New r3).bind fun r5 =>
      (match r5.1 with
      | none =>
        some (r4.2 == r5.2)
      | some y1 =>
        some (r4.2 == r5.2))
    | some y =>
      (scansionref09_New r3).bind fun r6 =>
      (match r6.1 with
      | none =>
        if (r4.2 != (0 : Int)) then
          some (r4.2 == r6.2)
        else
          (alphabet_Alphabet_Word y r).bind fun r7 =>
          none
      | some y2 =>
        if (r4.2 != (0 : Int)) then
          some (r4.2 == r6.2)
        else
          (alphabet_Alphabet_Word y r).bind fun r8 =>
          (scansionref09_Alphabet_Word y2 r).bind fun r9 =>
          (scansionref09_Same r8 r9).bind fun r10 =>
          some r10))
end
end Go.Val

/- part JW91 -/
/- scansion/ranges.Make$1 runs as it is read off. -/
namespace Go.Val
set_option linter.unusedVariables false
set_option linter.unusedSimpArgs false
set_option maxRecDepth 20000
open Go.Proofs
theorem ranges_Make_1_runs (x : TRange) {h : Heap} {a : Bool} (e : ranges_Make_1 x = some a) :
    Runs CT 91 [.cv (.val (.agg [.int .i64 x.Low, .int .i64 x.High]))] h fun o h' => o = [.cv (.val (.bool a))] ∧ h' = h := by
  refine Runs.start Try.f91 _ Try.func91 rfl (by rw [Try.ntmps91]; simp) (by rfl) (by rfl) (fun hwf hu => ?_)
  obtain ⟨D, hD, hr⟩ : ∃ D : Bool → Prop, (∀ z, D z → z = a) ∧ Holds (ranges_Make_1 x) D := ⟨fun z => z = a, fun _ h => h, Holds.intro e rfl⟩
  dsimp only [ranges_Make_1] at hr
  change wpCode _ _ _ _ _ ⟨[(0, .cv (.val (.agg [.int .i64 x.Low, .int .i64 x.High])))], h.on []⟩
  refine w_seq ?_
  refine A_region ?_
  refine w_n ?_
  refine w_joinR (sj := ⟨[(2, .cv (.val (.bool ((decide (x.Low < (0 : Int))) || ((decide (x.High > (1114111 : Int))) || (decide (x.Low > x.High)))))))], h.on []⟩) (A_ops ?_) ?_
  · refine A_upto 4 ?_
    rcases Bool.eq_false_or_eq_true (decide (x.Low < (0 : Int))) with cF1 | cF1
    · refine A_ops_end ?_
      exact w_k (A_cut hwf)
    · refine A_upto 5 ?_
      rcases Bool.eq_false_or_eq_true (decide (x.High > (1114111 : Int))) with cF2 | cF2
      · refine A_ops_end ?_
        exact w_k (A_cut hwf)
      · refine A_ops_end ?_
        exact w_k (A_cut hwf)
  refine w_ret ?_
  obtain rfl := hD _ hr
  exact (A_endR (A_cut (os' := []) (sl := [(2, .cv (.val (.bool ((decide (x.Low < (0 : Int))) || ((decide (x.High > (1114111 : Int))) || (decide (x.Low > x.High)))))))]) hwf) ⟨rfl, on_nil hwf⟩)
end Go.Val

/- part JW120 -/
/- slices.IndexFunc[[]scansion/api.Range,scansion/api.Range] runs as it is read off. -/
namespace Go.Val
set_option linter.unusedVariables false
set_option linter.unusedSimpArgs false
set_option maxRecDepth 20000
open Go.Proofs
theorem slices_IndexFunc_api_Range_api_Range_runs (s : List TRange) (f : TRange → Option Bool) (fid_f : FuncId) (caps_f : List DVal) {h : Heap} (h_f : ∀ os x0 r, f x0 = some r → Runs CT fid_f ([.cv (.val (.agg [.int .i64 x0.Low, .int .i64 x0.High]))] ++ sval caps_f) (h.on os) fun o h' => o = [.cv (.val (.bool r))] ∧ h' = h.on os) (d_f : ∀ i, CT.how fid_f i = .data) {a : Int} (e : slices_IndexFunc_api_Range_api_Range s f = some a) :
    Runs CT 120 [.cv (.val (.sl (List.map eRange s))), .cv (.val (.fn fid_f [] caps_f))] h fun o h' => o = [.cv (.val (.int .i64 a))] ∧ h' = h := by
  refine Runs.start Try.f120 _ Try.func120 rfl (by rw [Try.ntmps120]; simp) (by rfl) (by rfl) (fun hwf hu => ?_)
  have u_f : underL h.n caps_f := (hu (.cv (.val (.fn fid_f [] caps_f))) (by simp)).2
  have vu_f := fun k => under_add (k := k) u_f
  obtain ⟨D, hD, hr⟩ : ∃ D : Int → Prop, (∀ z, D z → z = a) ∧ Holds (slices_IndexFunc_api_Range_api_Range s f) D := ⟨fun z => z = a, fun _ h => h, Holds.intro e rfl⟩
  dsimp only [slices_IndexFunc_api_Range_api_Range] at hr
  change wpCode _ _ _ _ _ ⟨[(0, .cv (.val (.sl (List.map eRange s)))), (1, .cv (.val (.fn fid_f [] caps_f)))], h.on []⟩
  refine w_seq ?_
  refine A_region ?_
  refine w_n ?_
  refine w_seq ?_
  refine w_seq ?_
  refine A_region ?_
  refine w_n ?_
  refine w_K (D := D) (fun xX : Unit => ⟨[], h.on []⟩) (fun xX : Unit => slices_IndexFunc_api_Range_api_Range.k1) (fun xX s' hr ht => ?_) ?_
  · dsimp only [slices_IndexFunc_api_Range_api_Range.k1] at hr ht
    refine (w_nT ht ?_)
    refine w_seq ?_
    refine A_region ?_
    refine w_n ?_
    refine w_ret ?_
    obtain rfl := hD _ hr
    exact (A_endR (A_cut (os' := []) (sl := [(4, .cv (.val (.int .i64 (-1 : Int))))]) hwf) ⟨rfl, on_nil hwf⟩)
  · refine w_block ?_
    refine w_Loop (fun xX : Int => ⟨[(0, .cv (.val (.sl (List.map eRange s)))), (1, .cv (.val (.fn fid_f [] caps_f))), (7, .cv (.val (.int .i64 (s.length : Int)))), (8, .cv (.val (.int .i64 xX)))], h.on []⟩) hr (A_cut hwf) (fun W1 xX hr => ?_)
    obtain ⟨v, rfl⟩ : ∃ z, z = xX := ⟨xX, rfl⟩
    dsimp only [slices_IndexFunc_api_Range_api_Range.b1] at hr
    refine w_seq ?_
    refine A_region ?_
    refine w_n ?_
    refine w_seq ?_
    refine A_condH hr (fun cF1 hr => ?_) (fun cF1 hr => ?_)
    · refine w_skip ?_
      refine w_n ?_
      refine w_seq ?_
      refine w_block ?_
      refine w_seq ?_
      refine A_region ?_
      refine w_n ?_
      refine w_seq ?_
      refine A_ops ?_
      obtain ⟨x, nF2, eF3, gF4, hr⟩ := hr.idx
      refine A_upto 5 ?_
      obtain ⟨r, eF5, hr⟩ := hr.bind
      refine A_call (out := ?o_eF5) (hp := ?p_eF5) ?c_eF5 ?d_eF5 ?_
      case c_eF5 => exact h_f _ _ _ eF5
      case d_eF5 => rfl
      refine w_ops_nil ?_
      refine w_n ?_
      refine A_condH hr (fun cF6 hr => ?_) (fun cF6 hr => ?_)
      · refine w_seq ?_
        refine A_region ?_
        refine w_n ?_
        refine w_ret ?_
        obtain rfl := hD _ hr
        exact (w_br (w_tr (w_tr (w_br (w_tr (w_tr (A_endR (A_cut (os' := []) (sl := [(4, .cv (.val (.int .i64 v)))]) hwf) ⟨rfl, on_nil hwf⟩)))))))
      · refine w_skip ?_
        refine (w_bn (w_n ?_))
        refine A_region ?_
        exact (w_k ⟨(IntKind.i64.wrap (v + (1 : Int))), hr, (A_cut hwf)⟩)
    · refine w_exit ?_
      exact (w_te (w_te (w_bx (w_k ⟨(), (hr).map, (A_cut hwf)⟩))))
end Go.Val

/- part JW92 -/
/- slices.ContainsFunc[[]scansion/api.Range,scansion/api.Range] runs as it is read off. -/
namespace Go.Val
set_option linter.unusedVariables false
set_option linter.unusedSimpArgs false
set_option maxRecDepth 20000
open Go.Proofs
theorem slices_ContainsFunc_api_Range_api_Range_runs (s : List TRange) (f : TRange → Option Bool) (fid_f : FuncId) (caps_f : List DVal) {h : Heap} (h_f : ∀ os x0 r, f x0 = some r → Runs CT fid_f ([.cv (.val (.agg [.int .i64 x0.Low, .int .i64 x0.High]))] ++ sval caps_f) (h.on os) fun o h' => o = [.cv (.val (.bool r))] ∧ h' = h.on os) (d_f : ∀ i, CT.how fid_f i = .data) {a : Bool} (e : slices_ContainsFunc_api_Range_api_Range s f = some a) :
    Runs CT 92 [.cv (.val (.sl (List.map eRange s))), .cv (.val (.fn fid_f [] caps_f))] h fun o h' => o = [.cv (.val (.bool a))] ∧ h' = h := by
  refine Runs.start Try.f92 _ Try.func92 rfl (by rw [Try.ntmps92]; simp) (by rfl) (by rfl) (fun hwf hu => ?_)
  have u_f : underL h.n caps_f := (hu (.cv (.val (.fn fid_f [] caps_f))) (by simp)).2
  have vu_f := fun k => under_add (k := k) u_f
  obtain ⟨D, hD, hr⟩ : ∃ D : Bool → Prop, (∀ z, D z → z = a) ∧ Holds (slices_ContainsFunc_api_Range_api_Range s f) D := ⟨fun z => z = a, fun _ h => h, Holds.intro e rfl⟩
  dsimp only [slices_ContainsFunc_api_Range_api_Range] at hr
  change wpCode _ _ _ _ _ ⟨[(0, .cv (.val (.sl (List.map eRange s)))), (1, .cv (.val (.fn fid_f [] caps_f)))], h.on []⟩
  refine w_seq ?_
  refine A_region ?_
  refine w_n ?_
  refine w_seq ?_
  refine A_ops ?_
  refine A_upto 2 ?_
  obtain ⟨r, eF1, hr⟩ := hr.bind
  refine A_call (out := ?o_eF1) (hp := ?p_eF1) ?c_eF1 ?d_eF1 ?_
  case c_eF1 => (refine slices_IndexFunc_api_Range_api_Range_runs s f _ _ ?_ ?_ eF1; (exact (fun os x0 r e => by rw [on_on]; exact h_f _ x0 r e)); (exact d_f))
  case d_eF1 => rfl
  refine A_ops_end ?_
  refine w_n ?_
  refine w_ret ?_
  obtain rfl := hD _ hr
  exact (A_endR (A_cut (os' := []) (sl := [(4, .cv (.val (.bool (decide (r ≥ (0 : Int))))))]) hwf) ⟨rfl, on_nil hwf⟩)
end Go.Val

/- part JW93 -/
/- slices.Clone at ranges: by hand (an empty slice may be nil, or not). -/
namespace Go.Val
set_option linter.unusedVariables false
set_option linter.unusedSimpArgs false
set_option maxRecDepth 20000
open Go.Proofs
theorem slices_Clone_api_Range_api_Range_runs (s : List TRange) {h : Heap} {a : List TRange} (e : slices_Clone_api_Range_api_Range s = some a) :
    Runs CT 93 [.cv (.val (.sl (List.map eRange s)))] h fun o h' => o = [.cv (.row 80 (List.map eRange a))] ∧ h' = h := by
  refine Runs.start Try.f93 _ Try.func93 rfl (by rw [Try.ntmps93]; simp) (by rfl) (by rfl) (fun hwf hu => ?_)
  have hr : Holds (slices_Clone_api_Range_api_Range s) (fun z => z = a) := Holds.intro e rfl
  unfold slices_Clone_api_Range_api_Range at hr
  obtain ⟨nF1, hr⟩ := hr.room
  obtain rfl : s = a := hr
  change wpCode _ _ _ _ _ ⟨[(0, .cv (.val (.sl (List.map eRange s))))], h.on []⟩
  refine w_seq ?_
  refine A_region ?_
  refine w_n ?_
  refine w_seq ?_
  refine w_seq ?_
  refine A_ops ?_
  refine A_upto 1 ?_
  refine w_nilCmp rfl Try.underlying31 (by simp (disch := (apply Apart.mk; decide)) only [go_sem, Nat.reduceAdd, Nat.reduceLT]; rfl) (fun b hb => ?_)
  refine w_ops_nil ?_
  refine w_n ?_
  cases b with
  | true =>
    have hs : s = [] := by
      cases s with
      | nil => rfl
      | cons x l => exact absurd (hb (by simp)) (by simp)
    subst hs
    refine A_cond true (fun _ => ?_) (fun e => by cases e)
    refine w_seq ?_
    refine A_region ?_
    refine w_n ?_
    refine w_ret ?_
    exact (w_tr (A_endR (A_cut (os' := []) (sl := [(2, .cv (.row 80 (List.map eRange ([] : List TRange))))]) hwf) ⟨rfl, on_nil hwf⟩))
  | false =>
    refine A_cond false (fun e => by cases e) (fun _ => ?_)
    refine w_skip ?_
    refine w_n ?_
    refine w_seq ?_
    refine A_region ?_
    refine w_n ?_
    refine w_ret ?_
    exact (A_endR (A_cut (os' := []) (sl := [(2, .cv (.row 80 (List.map eRange s)))]) hwf) ⟨rfl, on_nil hwf⟩)
end Go.Val

/- part JW97 -/
/- scansion/ranges.put runs as it is read off. -/
namespace Go.Val
set_option linter.unusedVariables false
set_option linter.unusedSimpArgs false
set_option maxRecDepth 20000
open Go.Proofs
theorem ranges_put_runs (l : List TRange) (x : TRange) {h : Heap} {a : List TRange} (e : ranges_put l x = some a) :
    Runs CT 97 [.cv (.row 80 (List.map eRange l)), .cv (.val (.agg [.int .i64 x.Low, .int .i64 x.High]))] h fun o h' => o = [.cv (.row 80 (List.map eRange a))] ∧ h' = h := by
  refine Runs.start Try.f97 _ Try.func97 rfl (by rw [Try.ntmps97]; simp) (by rfl) (by rfl) (fun hwf hu => ?_)
  obtain ⟨D, hD, hr⟩ : ∃ D : List TRange → Prop, (∀ z, D z → z = a) ∧ Holds (ranges_put l x) D := ⟨fun z => z = a, fun _ h => h, Holds.intro e rfl⟩
  dsimp only [ranges_put] at hr
  change wpCode _ _ _ _ _ ⟨[(0, .cv (.row 80 (List.map eRange l))), (1, .cv (.val (.agg [.int .i64 x.Low, .int .i64 x.High])))], h.on []⟩
  refine w_seq ?_
  refine A_region ?_
  refine w_n ?_
  refine w_seq ?_
  refine A_region ?_
  refine w_n ?_
  refine w_seq ?_
  obtain ⟨v, vF5, hr⟩ := hr.bind
  refine w_joinR (sj := ⟨[(0, .cv (.row 80 (List.map eRange l))), (3, .cv (.val (.ptr (some (h.n + 0, 0))))), (5, .cv (.val (.int .i64 (l.length : Int)))), (21, .cv (.val (.bool v)))], h.on [some (.cells [.val (.int .i64 x.Low), .val (.int .i64 x.High)])]⟩) (w_drawn [0, 1, 2, 3, 4, 5, 6, 7, 8, 9, 10, 11, 12, 13] (by rfl) ?_) ?_
  · have hr := Holds.intro (D := fun z => z = v) vF5 rfl
    refine p_run (l := [0, 1, 2]) (pend' := [2, 1, 0]) (by simp (disch := (apply Apart.mk; decide)) only [go_sem, Nat.reduceAdd, Nat.reduceLT, Nat.reduceMul, Nat.reduceLeDiff, Int.reduceToNat, Int.reduceLT, Int.reduceLE]; rfl) rfl ?_
    rcases hr.ite with ⟨cF1, hr⟩ | ⟨cF1, hr⟩
    · obtain ⟨x1, nF2, eF3, gF4, hr⟩ := hr.idx
      refine p_run (l := [3, 4, 5, 6, 7, 8, 9, 10, 11, 12, 13]) (pend' := [13, 12, 11, 10, 9, 8, 7, 6, 5, 4, 3, 2, 1, 0]) (by simp (disch := (apply Apart.mk; decide)) only [go_sem, Nat.reduceAdd, Nat.reduceLT, Nat.reduceMul, Nat.reduceLeDiff, Int.reduceToNat, Int.reduceLT, Int.reduceLE, cF1, nF2, eF3, gF4]; rfl) rfl ?_
      refine p_end (by simp (disch := (apply Apart.mk; decide)) only [go_sem, Nat.reduceAdd, Nat.reduceLT, Nat.reduceMul, Nat.reduceLeDiff, Int.reduceToNat, Int.reduceLT, Int.reduceLE, cF1, nF2, eF3, gF4]) ?_
      obtain rfl : _ = v := hr
      exact w_k (A_cut hwf)
    · refine p_run (l := [3, 4, 5, 6, 7, 8, 9, 10, 11, 12, 13]) (pend' := [13, 12, 11, 10, 9, 8, 7, 6, 5, 4, 3, 2, 1, 0]) (by simp (disch := (apply Apart.mk; decide)) only [go_sem, Nat.reduceAdd, Nat.reduceLT, Nat.reduceMul, Nat.reduceLeDiff, Int.reduceToNat, Int.reduceLT, Int.reduceLE, cF1]; rfl) rfl ?_
      refine p_end (by simp (disch := (apply Apart.mk; decide)) only [go_sem, Nat.reduceAdd, Nat.reduceLT, Nat.reduceMul, Nat.reduceLeDiff, Int.reduceToNat, Int.reduceLT, Int.reduceLE, cF1]) ?_
      obtain rfl : _ = v := hr
      exact w_k (A_cut hwf)
  refine A_condH hr (fun cF6 hr => ?_) (fun cF6 hr => ?_)
  · refine w_seq ?_
    refine w_drawn [0, 1, 2, 3, 4, 5, 6, 7, 8, 9, 10, 11, 12, 13, 14] (by rfl) ?_
    obtain ⟨x2, nF7, eF8, gF9, hr⟩ := hr.idx
    refine p_run (l := [0, 1, 2, 3, 4, 5, 6, 7, 8, 9, 10, 11, 12, 13]) (pend' := [13, 12, 11, 10, 9, 8, 7, 6, 5, 4, 3, 2, 1, 0]) (by simp (disch := (apply Apart.mk; decide)) only [go_sem, Nat.reduceAdd, Nat.reduceLT, Nat.reduceMul, Nat.reduceLeDiff, Int.reduceToNat, Int.reduceLT, Int.reduceLE, nF7, eF8, gF9]; rfl) rfl ?_
    refine p_op (pend' := []) rfl (by simp (disch := (apply Apart.mk; decide)) only [go_sem, Nat.reduceAdd, Nat.reduceLT, Nat.reduceMul, Nat.reduceLeDiff, Int.reduceToNat, Int.reduceLT, Int.reduceLE, nF7, eF8, gF9]) (by simp (disch := (apply Apart.mk; decide)) only [go_sem, Nat.reduceAdd, Nat.reduceLT, Nat.reduceMul, Nat.reduceLeDiff, Int.reduceToNat, Int.reduceLT, Int.reduceLE, nF7, eF8, gF9]; rfl) (by rfl) ?_
    refine p_end (by simp (disch := (apply Apart.mk; decide)) only [go_sem, Nat.reduceAdd, Nat.reduceLT, Nat.reduceMul, Nat.reduceLeDiff, Int.reduceToNat, Int.reduceLT, Int.reduceLE, nF7, eF8, gF9, nF7, eF8, gF9]) ?_
    refine w_n ?_
    refine w_seq ?_
    refine A_region ?_
    refine w_n ?_
    refine w_ret ?_
    obtain rfl := hD _ hr
    exact (w_tr (A_endR (A_cut (os' := []) (sl := [(4, .cv (.row 80 (List.map eRange (List.set l (Int.toNat (IntKind.i64.wrap ((l.length : Int) - (1 : Int)))) (TRange.mk x2.Low (mx x2.High x.High))))))]) hwf) ⟨rfl, on_nil hwf⟩))
  · refine w_skip ?_
    refine w_n ?_
    refine w_seq ?_
    obtain ⟨nF10, hr⟩ := hr.room
    refine A_region ?_
    refine w_n ?_
    refine w_ret ?_
    obtain rfl := hD _ hr
    exact (A_endR (A_cut (os' := []) (sl := [(4, .cv (.row 80 (List.map eRange (l ++ ([x])))))]) hwf) ⟨rfl, on_nil hwf⟩)
end Go.Val

/- part JW64 -/
/- scansion/ranges.Make runs as it is read off. -/
namespace Go.Val
set_option linter.unusedVariables false
set_option linter.unusedSimpArgs false
set_option maxRecDepth 20000
open Go.Proofs
theorem ranges_Make_runs (l : List TRange) {h : Heap} {a : (List TRange × Int)} (e : ranges_Make l = some a) :
    Runs CT 64 [.cv (.val (.sl (List.map eRange l)))] h fun o h' => o = [.cv (.val (.sl (List.map eRange a.1))), .cv (.val (.int .i64 a.2))] ∧ h' = h := by
  refine Runs.start Try.f64 _ Try.func64 rfl (by rw [Try.ntmps64]; simp) (by rfl) (by rfl) (fun hwf hu => ?_)
  obtain ⟨D, hD, hr⟩ : ∃ D : (List TRange × Int) → Prop, (∀ z, D z → z = a) ∧ Holds (ranges_Make l) D := ⟨fun z => z = a, fun _ h => h, Holds.intro e rfl⟩
  dsimp only [ranges_Make] at hr
  change wpCode _ _ _ _ _ ⟨[(0, .cv (.val (.sl (List.map eRange l))))], h.on []⟩
  refine w_seq ?_
  refine A_region ?_
  refine w_n ?_
  refine w_seq ?_
  refine A_region ?_
  refine w_n ?_
  refine w_seq ?_
  refine w_seq ?_
  refine A_ops ?_
  refine A_upto 2 ?_
  obtain ⟨r, eF1, hr⟩ := hr.bind
  refine A_call (out := ?o_eF1) (hp := ?p_eF1) ?c_eF1 ?d_eF1 ?_
  case c_eF1 => (refine slices_ContainsFunc_api_Range_api_Range_runs l (ranges_Make_1) _ _ ?_ ?_ eF1; (exact (fun os x0 r e => ranges_Make_1_runs x0 e)); (exact (fun i => by simp [CT])))
  case d_eF1 => rfl
  refine w_ops_nil ?_
  refine w_n ?_
  refine A_condH hr (fun cF2 hr => ?_) (fun cF2 hr => ?_)
  · refine w_seq ?_
    refine A_region ?_
    refine w_n ?_
    refine w_ret ?_
    obtain rfl := hD _ hr
    exact (w_tr (A_endR (A_cut (os' := []) (sl := [(2, .cv (.val (.sl (List.map eRange ([] : List TRange))))), (3, .cv (.val (.int .i64 (1 : Int))))]) hwf) ⟨rfl, on_nil hwf⟩))
  · refine w_skip ?_
    refine w_n ?_
    refine w_seq ?_
    refine A_ops ?_
    refine A_upto 1 ?_
    obtain ⟨r1, eF3, hr⟩ := hr.bind
    refine A_call (out := ?o_eF3) (hp := ?p_eF3) ?c_eF3 ?d_eF3 ?_
    case c_eF3 => exact slices_Clone_api_Range_api_Range_runs l eF3
    case d_eF3 => rfl
    refine A_ops_end ?_
    refine w_n ?_
    refine w_seq ?_
    refine A_ops ?_
    refine A_upto 1 ?_
    obtain ⟨l1, eF4, hr⟩ := hr.bind
    refine w_ext  rfl (by simp (disch := (apply Apart.mk; decide)) only [go_sem, Nat.reduceAdd, Nat.reduceLT, Nat.reduceMul, Nat.reduceLeDiff, Int.reduceToNat, Int.reduceLT, Int.reduceLE, Option.getD_some] <;> rfl) rfl (by simp (disch := (apply Apart.mk; decide)) only [go_sem, Nat.reduceAdd, Nat.reduceLT, Nat.reduceMul, Nat.reduceLeDiff, Int.reduceToNat, Int.reduceLT, Int.reduceLE, Option.getD_some] <;> rfl) (by simp (disch := (apply Apart.mk; decide)) only [go_sem, Nat.reduceAdd, Nat.reduceLT, Nat.reduceMul, Nat.reduceLeDiff, Int.reduceToNat, Int.reduceLT, Int.reduceLE, Option.getD_some] <;> rfl) (by simp (disch := (apply Apart.mk; decide)) only [go_sem, Nat.reduceAdd, Nat.reduceLT, Nat.reduceMul, Nat.reduceLeDiff, Int.reduceToNat, Int.reduceLT, Int.reduceLE, Option.getD_some] <;> rfl) (by rfl) (ext_sortR eF4) ?_
    refine w_ops_nil ?_
    refine w_n ?_
    refine w_seq ?_
    refine A_region ?_
    refine w_n ?_
    refine w_seq ?_
    refine w_seq ?_
    refine A_region ?_
    refine w_n ?_
    refine w_K (D := D) (fun xX : List TRange => ⟨[(6, .cv (.row 80 (List.map eRange xX)))], h.on []⟩) (fun xX : List TRange => ranges_Make.k1 xX) (fun xX s' hr ht => ?_) ?_
    · obtain ⟨out, rfl⟩ : ∃ z, z = xX := ⟨xX, rfl⟩
      dsimp only [ranges_Make.k1] at hr ht
      refine (w_nT ht ?_)
      refine w_seq ?_
      refine A_region ?_
      refine w_n ?_
      refine w_ret ?_
      obtain rfl := hD _ hr
      exact (A_endR (.fix _ _ (.slot 2) 80 _ (by simp (disch := (apply Apart.mk; decide)) only [go_sem, Nat.reduceAdd, Nat.reduceLT, Nat.reduceMul, Nat.reduceLeDiff, Int.reduceToNat, Int.reduceLT, Int.reduceLE, cF2]; rfl) (A_cut (os' := []) (sl := [(2, .cv (.val (.sl (List.map eRange out)))), (3, .cv (.val (.int .i64 (0 : Int))))]) hwf)) ⟨rfl, on_nil hwf⟩)
    · refine w_block ?_
      refine w_Loop (fun xX : (List TRange × Int) => ⟨[(5, .cv (.row 80 (List.map eRange l1))), (6, .cv (.row 80 (List.map eRange xX.1))), (16, .alias (.slot 5)), (17, .cv (.val (.int .i64 (l1.length : Int)))), (18, .cv (.val (.int .i64 xX.2)))], h.on []⟩) hr (A_cut hwf) (fun W1 xX hr => ?_)
      obtain ⟨out1, v⟩ := xX
      dsimp only [ranges_Make.b1] at hr
      refine w_seq ?_
      refine A_region ?_
      refine w_n ?_
      refine w_seq ?_
      refine A_condH hr (fun cF5 hr => ?_) (fun cF5 hr => ?_)
      · refine w_skip ?_
        refine w_n ?_
        refine w_seq ?_
        refine w_block ?_
        refine w_seq ?_
        obtain ⟨x, nF6, eF7, gF8, hr⟩ := hr.idx
        refine A_region ?_
        refine w_n ?_
        refine A_ops ?_
        refine A_upto 2 ?_
        obtain ⟨r2, eF9, hr⟩ := hr.bind
        refine A_call (out := ?o_eF9) (hp := ?p_eF9) ?c_eF9 ?d_eF9 ?_
        case c_eF9 => exact ranges_put_runs out1 x eF9
        case d_eF9 => rfl
        refine A_ops_end ?_
        refine (w_bn (w_n ?_))
        refine A_region ?_
        exact (w_k ⟨(r2, (IntKind.i64.wrap (v + (1 : Int)))), hr, (A_cut hwf)⟩)
      · refine w_exit ?_
        exact (w_te (w_te (w_bx (w_k ⟨out1, (hr).map, (A_cut hwf)⟩))))
end Go.Val

/- part JW65 -/
/- slices.Equal[[]scansion/api.Range,scansion/api.Range] runs as it is read off. -/
namespace Go.Val
set_option linter.unusedVariables false
set_option linter.unusedSimpArgs false
set_option maxRecDepth 20000
open Go.Proofs
theorem slices_Equal_api_Range_api_Range_runs (s1 : List TRange) (s2 : List TRange) {h : Heap} {a : Bool} (e : slices_Equal_api_Range_api_Range s1 s2 = some a) :
    Runs CT 65 [.cv (.val (.sl (List.map eRange s1))), .cv (.val (.sl (List.map eRange s2)))] h fun o h' => o = [.cv (.val (.bool a))] ∧ h' = h := by
  refine Runs.start Try.f65 _ Try.func65 rfl (by rw [Try.ntmps65]; simp) (by rfl) (by rfl) (fun hwf hu => ?_)
  obtain ⟨D, hD, hr⟩ : ∃ D : Bool → Prop, (∀ z, D z → z = a) ∧ Holds (slices_Equal_api_Range_api_Range s1 s2) D := ⟨fun z => z = a, fun _ h => h, Holds.intro e rfl⟩
  dsimp only [slices_Equal_api_Range_api_Range] at hr
  change wpCode _ _ _ _ _ ⟨[(0, .cv (.val (.sl (List.map eRange s1)))), (1, .cv (.val (.sl (List.map eRange s2))))], h.on []⟩
  refine w_seq ?_
  refine A_region ?_
  refine w_n ?_
  refine w_seq ?_
  refine w_seq ?_
  refine A_region ?_
  refine w_n ?_
  refine A_condH hr (fun cF1 hr => ?_) (fun cF1 hr => ?_)
  · refine w_seq ?_
    refine A_region ?_
    refine w_n ?_
    refine w_ret ?_
    obtain rfl := hD _ hr
    exact (w_tr (A_endR (A_cut (os' := []) (sl := [(4, .cv (.val (.bool false)))]) hwf) ⟨rfl, on_nil hwf⟩))
  · refine w_skip ?_
    refine w_n ?_
    refine w_seq ?_
    refine w_seq ?_
    refine A_region ?_
    refine w_n ?_
    refine w_K (D := D) (fun xX : Unit => ⟨[], h.on []⟩) (fun xX : Unit => slices_Equal_api_Range_api_Range.k1) (fun xX s' hr ht => ?_) ?_
    · dsimp only [slices_Equal_api_Range_api_Range.k1] at hr ht
      refine (w_nT ht ?_)
      refine w_seq ?_
      refine A_region ?_
      refine w_n ?_
      refine w_ret ?_
      obtain rfl := hD _ hr
      exact (A_endR (A_cut (os' := []) (sl := [(4, .cv (.val (.bool true)))]) hwf) ⟨rfl, on_nil hwf⟩)
    · refine w_block ?_
      refine w_Loop (fun xX : Int => ⟨[(0, .cv (.val (.sl (List.map eRange s1)))), (1, .cv (.val (.sl (List.map eRange s2)))), (12, .cv (.val (.int .i64 (s1.length : Int)))), (13, .cv (.val (.int .i64 xX)))], h.on []⟩) hr (A_cut hwf) (fun W1 xX hr => ?_)
      obtain ⟨v, rfl⟩ : ∃ z, z = xX := ⟨xX, rfl⟩
      dsimp only [slices_Equal_api_Range_api_Range.b1] at hr
      refine w_seq ?_
      refine A_region ?_
      refine w_n ?_
      refine w_seq ?_
      refine A_condH hr (fun cF2 hr => ?_) (fun cF2 hr => ?_)
      · refine w_skip ?_
        refine w_n ?_
        refine w_seq ?_
        refine w_block ?_
        refine w_seq ?_
        refine A_region ?_
        refine w_n ?_
        refine w_seq ?_
        refine w_drawn [0, 1, 2, 3, 4, 5, 6, 7, 8] (by rfl) ?_
        obtain ⟨x, nF3, eF4, gF5, hr⟩ := hr.idx
        obtain ⟨x1, nF6, eF7, gF8, hr⟩ := hr.idx
        refine p_run (l := [0, 1, 2, 3, 4, 5, 6, 7, 8]) (pend' := [8, 7, 6, 5, 4, 3, 2, 1, 0]) (by simp (disch := (apply Apart.mk; decide)) only [go_sem, Nat.reduceAdd, Nat.reduceLT, Nat.reduceMul, Nat.reduceLeDiff, Int.reduceToNat, Int.reduceLT, Int.reduceLE, nF3, eF4, gF5, nF6, eF7, gF8]; rfl) rfl ?_
        refine p_end (by simp (disch := (apply Apart.mk; decide)) only [go_sem, Nat.reduceAdd, Nat.reduceLT, Nat.reduceMul, Nat.reduceLeDiff, Int.reduceToNat, Int.reduceLT, Int.reduceLE, nF3, eF4, gF5, nF6, eF7, gF8]) ?_
        refine w_n ?_
        refine A_condH hr (fun cF9 hr => ?_) (fun cF9 hr => ?_)
        · refine w_seq ?_
          refine A_region ?_
          refine w_n ?_
          refine w_ret ?_
          obtain rfl := hD _ hr
          exact (w_br (w_tr (w_tr (w_br (w_tr (w_tr (A_endR (A_cut (os' := []) (sl := [(4, .cv (.val (.bool false)))]) hwf) ⟨rfl, on_nil hwf⟩)))))))
        · refine w_skip ?_
          refine (w_bn (w_n ?_))
          refine A_region ?_
          exact (w_k ⟨(IntKind.i64.wrap (v + (1 : Int))), hr, (A_cut hwf)⟩)
      · refine w_exit ?_
        exact (w_te (w_te (w_bx (w_k ⟨(), (hr).map, (A_cut hwf)⟩))))
end Go.Val

/- part JW99 -/
/- slices.Compact is told by hand. -/
namespace Go.Val
theorem slices_Compact_int_int_runs (s : List Int) {h : Heap} {a : List Int} (e : slices_Compact_int_int s = some a) :
    Runs CT 99 [.cv (.row 3 (List.map eI s))] h fun o h' => o = [.cv (.val (.sl (List.map eI a)))] ∧ h' = h :=
  Runs.hand (C := CT) (show handL 99 _ h _ h from ⟨rfl, .inl ⟨rfl, s, a, rfl, e, rfl⟩⟩) ⟨rfl, rfl⟩
end Go.Val

/- part JW66 -/
/- scansion/alphabet.edges runs as it is read off. -/
namespace Go.Val
set_option linter.unusedVariables false
set_option linter.unusedSimpArgs false
set_option maxRecDepth 20000
open Go.Proofs
theorem alphabet_edges_runs (sets : List (List TRange)) {h : Heap} {a : List Int} (e : alphabet_edges sets = some a) :
    Runs CT 66 [.cv (.val (.sl (List.map (eL eRange) sets)))] h fun o h' => o = [.cv (.val (.sl (List.map eI a)))] ∧ h' = h := by
  refine Runs.start Try.f66 _ Try.func66 rfl (by rw [Try.ntmps66]; simp) (by rfl) (by rfl) (fun hwf hu => ?_)
  obtain ⟨D, hD, hr⟩ : ∃ D : List Int → Prop, (∀ z, D z → z = a) ∧ Holds (alphabet_edges sets) D := ⟨fun z => z = a, fun _ h => h, Holds.intro e rfl⟩
  dsimp only [alphabet_edges] at hr
  change wpCode _ _ _ _ _ ⟨[(0, .cv (.val (.sl (List.map (eL eRange) sets))))], h.on []⟩
  refine w_seq ?_
  refine A_region ?_
  refine w_n ?_
  refine w_seq ?_
  refine A_region ?_
  refine w_n ?_
  refine w_seq ?_
  refine w_seq ?_
  refine A_region ?_
  refine w_n ?_
  refine w_K (D := D) (fun xX : List Int => ⟨[(3, .cv (.row 3 (List.map eI xX)))], h.on []⟩) (fun xX : List Int => alphabet_edges.k1 xX) (fun xX s' hr ht => ?_) ?_
  · obtain ⟨out, rfl⟩ : ∃ z, z = xX := ⟨xX, rfl⟩
    dsimp only [alphabet_edges.k1] at hr ht
    refine (w_nT ht ?_)
    refine w_seq ?_
    refine A_ops ?_
    refine A_upto 1 ?_
    obtain ⟨l, eF1, hr⟩ := hr.bind
    refine w_ext (g := 98) (ds := []) (k := 3) rfl (by simp (disch := (apply Apart.mk; decide)) only [go_sem, Nat.reduceAdd, Nat.reduceLT, Nat.reduceMul, Nat.reduceLeDiff, Int.reduceToNat, Int.reduceLT, Int.reduceLE, Option.getD_some] <;> rfl) rfl (by simp (disch := (apply Apart.mk; decide)) only [go_sem, Nat.reduceAdd, Nat.reduceLT, Nat.reduceMul, Nat.reduceLeDiff, Int.reduceToNat, Int.reduceLT, Int.reduceLE, Option.getD_some] <;> rfl) (by simp (disch := (apply Apart.mk; decide)) only [go_sem, Nat.reduceAdd, Nat.reduceLT, Nat.reduceMul, Nat.reduceLeDiff, Int.reduceToNat, Int.reduceLT, Int.reduceLE, Option.getD_some] <;> rfl) (by simp (disch := (apply Apart.mk; decide)) only [go_sem, Nat.reduceAdd, Nat.reduceLT, Nat.reduceMul, Nat.reduceLeDiff, Int.reduceToNat, Int.reduceLT, Int.reduceLE, Option.getD_some] <;> rfl) (by rfl) (ext_sortI eF1) ?_
    refine w_ops_nil ?_
    refine w_n ?_
    refine w_seq ?_
    refine A_ops ?_
    refine A_upto 1 ?_
    obtain ⟨r, eF2, hr⟩ := hr.bind
    refine A_call (out := ?o_eF2) (hp := ?p_eF2) ?c_eF2 ?d_eF2 ?_
    case c_eF2 => exact slices_Compact_int_int_runs l eF2
    case d_eF2 => rfl
    refine A_ops_end ?_
    refine w_n ?_
    refine w_ret ?_
    obtain rfl := hD _ hr
    exact (A_endR (A_cut (os' := []) (sl := [(2, .cv (.val (.sl (List.map eI r))))]) hwf) ⟨rfl, on_nil hwf⟩)
  · refine w_block ?_
    refine w_Loop (fun xX : (List Int × Int) => ⟨[(3, .cv (.row 3 (List.map eI xX.1))), (9, .cv (.val (.sl (List.map (eL eRange) sets)))), (10, .cv (.val (.int .i64 (sets.length : Int)))), (11, .cv (.val (.int .i64 xX.2)))], h.on []⟩) hr (A_cut hwf) (fun W1 xX hr => ?_)
    obtain ⟨out1, v⟩ := xX
    dsimp only [alphabet_edges.b1] at hr
    refine w_seq ?_
    refine A_region ?_
    refine w_n ?_
    refine w_seq ?_
    refine A_condH hr (fun cF3 hr => ?_) (fun cF3 hr => ?_)
    · refine w_skip ?_
      refine w_n ?_
      refine w_seq ?_
      refine w_K (D := (Aft W1 D)) (fun xX : List Int => ⟨[(3, .cv (.row 3 (List.map eI xX))), (9, .cv (.val (.sl (List.map (eL eRange) sets)))), (10, .cv (.val (.int .i64 (sets.length : Int)))), (11, .cv (.val (.int .i64 v)))], h.on []⟩) (fun xX : List Int => alphabet_edges.k2 v xX) (fun xX s' hr ht => ?_) ?_
      · obtain ⟨out2, rfl⟩ : ∃ z, z = xX := ⟨xX, rfl⟩
        dsimp only [alphabet_edges.k2] at hr ht
        refine (w_nT ht ?_)
        refine A_region ?_
        exact (w_k ⟨(out2, (IntKind.i64.wrap (v + (1 : Int)))), hr, (A_cut hwf)⟩)
      · refine w_block ?_
        refine w_seq ?_
        obtain ⟨xs, nF4, eF5, gF6, hr⟩ := hr.idx
        refine A_region ?_
        refine w_n ?_
        refine w_seq ?_
        refine A_region ?_
        refine w_n ?_
        refine w_block ?_
        refine w_Loop (fun xX : (List Int × Int) => ⟨[(3, .cv (.row 3 (List.map eI xX.1))), (9, .cv (.val (.sl (List.map (eL eRange) sets)))), (10, .cv (.val (.int .i64 (sets.length : Int)))), (11, .cv (.val (.int .i64 v))), (15, .cv (.val (.sl (List.map eRange xs)))), (16, .cv (.val (.int .i64 (xs.length : Int)))), (17, .cv (.val (.int .i64 xX.2)))], h.on []⟩) hr (A_cut hwf) (fun W2 xX hr => ?_)
        obtain ⟨out3, v1⟩ := xX
        dsimp only [alphabet_edges.b2] at hr
        refine w_seq ?_
        refine A_region ?_
        refine w_n ?_
        refine w_seq ?_
        refine A_condH hr (fun cF7 hr => ?_) (fun cF7 hr => ?_)
        · refine w_skip ?_
          refine w_n ?_
          refine w_seq ?_
          refine w_K (D := (Aft W2 (Aft W1 D))) (fun xX : List Int => ⟨[(3, .cv (.row 3 (List.map eI xX))), (9, .cv (.val (.sl (List.map (eL eRange) sets)))), (10, .cv (.val (.int .i64 (sets.length : Int)))), (11, .cv (.val (.int .i64 v))), (15, .cv (.val (.sl (List.map eRange xs)))), (16, .cv (.val (.int .i64 (xs.length : Int)))), (17, .cv (.val (.int .i64 v1)))], h.on []⟩) (fun xX : List Int => alphabet_edges.k3 v1 xX) (fun xX s' hr ht => ?_) ?_
          · obtain ⟨out4, rfl⟩ : ∃ z, z = xX := ⟨xX, rfl⟩
            dsimp only [alphabet_edges.k3] at hr ht
            refine (w_nT ht ?_)
            refine A_region ?_
            exact (w_k ⟨(out4, (IntKind.i64.wrap (v1 + (1 : Int)))), hr, (A_cut hwf)⟩)
          · refine w_block ?_
            refine w_seq ?_
            obtain ⟨x, nF8, eF9, gF10, hr⟩ := hr.idx
            refine A_region ?_
            refine w_n ?_
            refine w_seq ?_
            obtain ⟨nF11, hr⟩ := hr.room
            refine A_region ?_
            refine w_n ?_
            refine w_seq ?_
            refine A_region ?_
            refine w_n ?_
            refine A_condH hr (fun cF12 hr => ?_) (fun cF12 hr => ?_)
            · obtain ⟨nF13, hr⟩ := hr.room
              refine A_region ?_
              exact (w_bn (w_k ⟨((out3 ++ ([x.Low])) ++ ([(IntKind.i64.wrap (x.High + (1 : Int)))])), hr, (A_cut hwf)⟩))
            · refine w_skip ?_
              exact (w_bn (w_k ⟨(out3 ++ ([x.Low])), hr, (A_cut hwf)⟩))
        · refine w_exit ?_
          exact (w_te (w_te (w_bx (w_bn (w_k ⟨out3, (hr).map, (A_cut hwf)⟩)))))
    · refine w_exit ?_
      exact (w_te (w_te (w_bx (w_k ⟨out1, (hr).map, (A_cut hwf)⟩))))
end Go.Val

/- part JW125 -/
/- slices.BinarySearchFunc[[]scansion/api.Range,scansion/api.Range,int] runs as it is read off. -/
namespace Go.Val
set_option linter.unusedVariables false
set_option linter.unusedSimpArgs false
set_option maxRecDepth 20000
open Go.Proofs
theorem slices_BinarySearchFunc_api_Range_api_Range_int_runs (x : List TRange) (target : Int) (cmp : TRange → Int → Option Int) (fid_cmp : FuncId) (caps_cmp : List DVal) {h : Heap} (h_cmp : ∀ os x0 x1 r, cmp x0 x1 = some r → Runs CT fid_cmp ([.cv (.val (.agg [.int .i64 x0.Low, .int .i64 x0.High])), .cv (.val (.int .i64 x1))] ++ sval caps_cmp) (h.on os) fun o h' => o = [.cv (.val (.int .i64 r))] ∧ h' = h.on os) (d_cmp : ∀ i, CT.how fid_cmp i = .data) {a : (Int × Bool)} (e : slices_BinarySearchFunc_api_Range_api_Range_int x target cmp = some a) :
    Runs CT 125 [.cv (.val (.sl (List.map eRange x))), .cv (.val (.int .i64 target)), .cv (.val (.fn fid_cmp [] caps_cmp))] h fun o h' => o = [.cv (.val (.int .i64 a.1)), .cv (.val (.bool a.2))] ∧ h' = h := by
  refine Runs.start Try.f125 _ Try.func125 rfl (by rw [Try.ntmps125]; simp) (by rfl) (by rfl) (fun hwf hu => ?_)
  have u_cmp : underL h.n caps_cmp := (hu (.cv (.val (.fn fid_cmp [] caps_cmp))) (by simp)).2
  have vu_cmp := fun k => under_add (k := k) u_cmp
  obtain ⟨D, hD, hr⟩ : ∃ D : (Int × Bool) → Prop, (∀ z, D z → z = a) ∧ Holds (slices_BinarySearchFunc_api_Range_api_Range_int x target cmp) D := ⟨fun z => z = a, fun _ h => h, Holds.intro e rfl⟩
  dsimp only [slices_BinarySearchFunc_api_Range_api_Range_int] at hr
  change wpCode _ _ _ _ _ ⟨[(0, .cv (.val (.sl (List.map eRange x)))), (1, .cv (.val (.int .i64 target))), (2, .cv (.val (.fn fid_cmp [] caps_cmp)))], h.on []⟩
  refine w_seq ?_
  refine A_region ?_
  refine w_n ?_
  refine w_seq ?_
  refine A_region ?_
  refine w_n ?_
  refine w_seq ?_
  refine A_region ?_
  refine w_n ?_
  refine w_seq ?_
  refine w_K (D := D) (fun xX : Int => ⟨[(0, .cv (.val (.sl (List.map eRange x)))), (1, .cv (.val (.int .i64 target))), (2, .cv (.val (.fn fid_cmp [] caps_cmp))), (8, .cv (.val (.int .i64 (x.length : Int)))), (9, .cv (.val (.int .i64 xX)))], h.on []⟩) (fun xX : Int => slices_BinarySearchFunc_api_Range_api_Range_int.k1 x target cmp xX) (fun xX s' hr ht => ?_) ?_
  · obtain ⟨i, rfl⟩ : ∃ z, z = xX := ⟨xX, rfl⟩
    dsimp only [slices_BinarySearchFunc_api_Range_api_Range_int.k1] at hr ht
    refine (w_nT ht ?_)
    obtain ⟨v, vF6, hr⟩ := hr.bind
    refine w_joinR (sj := ⟨[(6, .cv (.val (.int .i64 i))), (7, .cv (.val (.bool v)))], h.on []⟩) (A_ops ?_) ?_
    · have hr := Holds.intro (D := fun z => z = v) vF6 rfl
      refine A_upto 5 ?_
      rcases hr.ite with ⟨cF1, hr⟩ | ⟨cF1, hr⟩
      · obtain ⟨x1, nF2, eF3, gF4, hr⟩ := hr.idx
        refine A_upto 6 ?_
        obtain ⟨r, eF5, hr⟩ := hr.bind
        refine w_call' (out := ?o_eF5) (hp := ?p_eF5) (by simp (disch := (apply Apart.mk; decide)) only [go_sem, Nat.reduceAdd, Nat.reduceLT, Nat.reduceMul, Nat.reduceLeDiff, Int.reduceToNat, Int.reduceLT, Int.reduceLE, under_add u_cmp, d_cmp, cF1, nF2, eF3, gF4]) (by simp (disch := (apply Apart.mk; decide)) only [go_sem, Nat.reduceAdd, Nat.reduceLT, Nat.reduceMul, Nat.reduceLeDiff, Int.reduceToNat, Int.reduceLT, Int.reduceLE, under_add u_cmp, d_cmp, cF1, nF2, eF3, gF4]; rfl) (by simp (disch := (apply Apart.mk; decide)) only [go_sem, Nat.reduceAdd, Nat.reduceLT, Nat.reduceMul, Nat.reduceLeDiff, Int.reduceToNat, Int.reduceLT, Int.reduceLE, under_add u_cmp, d_cmp, cF1, nF2, eF3, gF4]; rfl) (by simp (disch := (apply Apart.mk; decide)) only [go_sem, Nat.reduceAdd, Nat.reduceLT, Nat.reduceMul, Nat.reduceLeDiff, Int.reduceToNat, Int.reduceLT, Int.reduceLE, under_add u_cmp, d_cmp, cF1, nF2, eF3, gF4]; rfl) ?c_eF5 ?d_eF5 ?_
        case c_eF5 => exact h_cmp _ _ _ _ eF5
        case d_eF5 => rfl
        refine A_ops_end ?_
        obtain rfl : _ = v := hr
        exact w_k (A_cut hwf)
      · refine A_upto 6 ?_
        refine A_off ?_
        refine A_ops_end ?_
        obtain rfl : _ = v := hr
        exact w_k (A_cut hwf)
    refine w_ret ?_
    obtain rfl := hD _ hr
    exact (A_endR (A_cut (os' := []) (sl := [(6, .cv (.val (.int .i64 i))), (7, .cv (.val (.bool v)))]) hwf) ⟨rfl, on_nil hwf⟩)
  · refine w_block ?_
    refine w_Loop (fun xX : (Int × Int) => ⟨[(0, .cv (.val (.sl (List.map eRange x)))), (1, .cv (.val (.int .i64 target))), (2, .cv (.val (.fn fid_cmp [] caps_cmp))), (8, .cv (.val (.int .i64 (x.length : Int)))), (9, .cv (.val (.int .i64 xX.1))), (10, .cv (.val (.int .i64 xX.2)))], h.on []⟩) hr (A_cut hwf) (fun W1 xX hr => ?_)
    obtain ⟨i1, j⟩ := xX
    dsimp only [slices_BinarySearchFunc_api_Range_api_Range_int.b1] at hr
    refine w_seq ?_
    refine w_seq ?_
    refine A_region ?_
    refine w_n ?_
    refine A_condH hr (fun cF7 hr => ?_) (fun cF7 hr => ?_)
    · refine w_skip ?_
      refine w_n ?_
      refine w_K (D := (Aft W1 D)) (fun xX : (Int × Int) => ⟨[(0, .cv (.val (.sl (List.map eRange x)))), (1, .cv (.val (.int .i64 target))), (2, .cv (.val (.fn fid_cmp [] caps_cmp))), (8, .cv (.val (.int .i64 (x.length : Int)))), (9, .cv (.val (.int .i64 xX.1))), (10, .cv (.val (.int .i64 xX.2)))], h.on []⟩) (fun xX : (Int × Int) => slices_BinarySearchFunc_api_Range_api_Range_int.k2 xX.1 xX.2) (fun xX s' hr ht => ?_) ?_
      · obtain ⟨i2, j1⟩ := xX
        dsimp only [slices_BinarySearchFunc_api_Range_api_Range_int.k2] at hr ht
        exact (w_k ⟨(i2, j1), hr, (To.trans ht (A_cut hwf))⟩)
      · refine w_block ?_
        refine w_seq ?_
        (obtain ⟨z, eF8, hr⟩ := hr.bind; replace eF8 := Option.some.inj eF8; simp only [shL, shR, bAnd, bOr, bXor, bNot, IntKind.bits, Int.reduceToNat] at eF8)
        refine w_region rfl (by simp (disch := (apply Apart.mk; decide)) only [go_sem, Nat.reduceAdd, Nat.reduceLT, Nat.reduceMul, Nat.reduceLeDiff, Int.reduceToNat, Int.reduceLT, Int.reduceLE, under_add u_cmp, d_cmp, (eq_false (by decide : ¬ ((1 : Int) < 0))), eF8, cF7]; rfl) ?_
        refine w_n ?_
        refine w_seq ?_
        refine A_ops ?_
        obtain ⟨x2, nF9, eF10, gF11, hr⟩ := hr.idx
        refine A_upto 6 ?_
        obtain ⟨r1, eF12, hr⟩ := hr.bind
        refine A_call (out := ?o_eF12) (hp := ?p_eF12) ?c_eF12 ?d_eF12 ?_
        case c_eF12 => exact h_cmp _ _ _ _ eF12
        case d_eF12 => rfl
        refine A_ops_end ?_
        refine w_n ?_
        refine A_condH hr (fun cF13 hr => ?_) (fun cF13 hr => ?_)
        · refine A_region ?_
          exact (w_bn (w_k ⟨((IntKind.i64.wrap ((IntKind.i64.wrap z) + (1 : Int))), j), hr, (A_cut hwf)⟩))
        · refine A_region ?_
          exact (w_bn (w_k ⟨(i1, (IntKind.i64.wrap z)), hr, (A_cut hwf)⟩))
    · refine w_exit ?_
      exact (w_te (w_te (w_bx (w_k ⟨i1, (hr).map, (A_cut hwf)⟩))))
end Go.Val

/- part JW126 -/
/- scansion/ranges.Has$1 runs as it is read off. -/
namespace Go.Val
set_option linter.unusedVariables false
set_option linter.unusedSimpArgs false
set_option maxRecDepth 20000
open Go.Proofs
theorem ranges_Has_1_runs (x : TRange) (r : Int) {h : Heap} {a : Int} (e : ranges_Has_1 x r = some a) :
    Runs CT 126 [.cv (.val (.agg [.int .i64 x.Low, .int .i64 x.High])), .cv (.val (.int .i64 r))] h fun o h' => o = [.cv (.val (.int .i64 a))] ∧ h' = h := by
  refine Runs.start Try.f126 _ Try.func126 rfl (by rw [Try.ntmps126]; simp) (by rfl) (by rfl) (fun hwf hu => ?_)
  obtain ⟨D, hD, hr⟩ : ∃ D : Int → Prop, (∀ z, D z → z = a) ∧ Holds (ranges_Has_1 x r) D := ⟨fun z => z = a, fun _ h => h, Holds.intro e rfl⟩
  dsimp only [ranges_Has_1] at hr
  change wpCode _ _ _ _ _ ⟨[(0, .cv (.val (.agg [.int .i64 x.Low, .int .i64 x.High]))), (1, .cv (.val (.int .i64 r)))], h.on []⟩
  refine w_seq ?_
  refine A_region ?_
  refine w_n ?_
  refine w_seq ?_
  refine w_block ?_
  refine w_seq ?_
  refine A_region ?_
  refine w_n ?_
  refine A_condH hr (fun cF1 hr => ?_) (fun cF1 hr => ?_)
  · refine w_seq ?_
    refine A_region ?_
    refine w_n ?_
    refine w_ret ?_
    obtain rfl := hD _ hr
    exact (w_br (w_tr (A_endR (A_cut (os' := []) (sl := [(4, .cv (.val (.int .i64 (-1 : Int))))]) hwf) ⟨rfl, on_nil hwf⟩)))
  · refine w_seq ?_
    refine A_region ?_
    refine w_n ?_
    refine A_condH hr (fun cF2 hr => ?_) (fun cF2 hr => ?_)
    · refine w_seq ?_
      refine A_region ?_
      refine w_n ?_
      refine w_ret ?_
      obtain rfl := hD _ hr
      exact (w_br (w_tr (A_endR (A_cut (os' := []) (sl := [(4, .cv (.val (.int .i64 (1 : Int))))]) hwf) ⟨rfl, on_nil hwf⟩)))
    · refine w_skip ?_
      refine (w_bn (w_n ?_))
      refine w_seq ?_
      refine A_region ?_
      refine w_n ?_
      refine w_ret ?_
      obtain rfl := hD _ hr
      exact (A_endR (A_cut (os' := []) (sl := [(4, .cv (.val (.int .i64 (0 : Int))))]) hwf) ⟨rfl, on_nil hwf⟩)
end Go.Val

/- part JW100 -/
/- scansion/ranges.Has runs as it is read off. -/
namespace Go.Val
set_option linter.unusedVariables false
set_option linter.unusedSimpArgs false
set_option maxRecDepth 20000
open Go.Proofs
theorem ranges_Has_runs (a_ : List TRange) (r : Int) {h : Heap} {a : Bool} (e : ranges_Has a_ r = some a) :
    Runs CT 100 [.cv (.val (.sl (List.map eRange a_))), .cv (.val (.int .i64 r))] h fun o h' => o = [.cv (.val (.bool a))] ∧ h' = h := by
  refine Runs.start Try.f100 _ Try.func100 rfl (by rw [Try.ntmps100]; simp) (by rfl) (by rfl) (fun hwf hu => ?_)
  obtain ⟨D, hD, hr⟩ : ∃ D : Bool → Prop, (∀ z, D z → z = a) ∧ Holds (ranges_Has a_ r) D := ⟨fun z => z = a, fun _ h => h, Holds.intro e rfl⟩
  dsimp only [ranges_Has] at hr
  change wpCode _ _ _ _ _ ⟨[(0, .cv (.val (.sl (List.map eRange a_)))), (1, .cv (.val (.int .i64 r)))], h.on []⟩
  refine w_seq ?_
  refine A_region ?_
  refine w_n ?_
  refine w_seq ?_
  refine A_ops ?_
  refine A_upto 2 ?_
  obtain ⟨r1, eF1, hr⟩ := hr.bind
  refine A_call (out := ?o_eF1) (hp := ?p_eF1) ?c_eF1 ?d_eF1 ?_
  case c_eF1 => (refine slices_BinarySearchFunc_api_Range_api_Range_int_runs a_ r (ranges_Has_1) _ _ ?_ ?_ eF1; (exact (fun os x0 x1 r e => ranges_Has_1_runs x0 x1 e)); (exact (fun i => by simp [CT])))
  case d_eF1 => rfl
  refine A_ops_end ?_
  refine w_n ?_
  refine w_seq ?_
  refine A_region ?_
  refine w_n ?_
  refine w_ret ?_
  obtain rfl := hD _ hr
  exact (A_endR (A_cut (os' := []) (sl := [(4, .cv (.val (.bool r1.2)))]) hwf) ⟨rfl, on_nil hwf⟩)
end Go.Val

/- part JW67 -/
/- scansion/alphabet.mask runs as it is read off. -/
namespace Go.Val
set_option linter.unusedVariables false
set_option linter.unusedSimpArgs false
set_option maxRecDepth 20000
open Go.Proofs
theorem alphabet_mask_runs (sets : List (List TRange)) (r : Int) {h : Heap} {a : Int} (e : alphabet_mask sets r = some a) :
    Runs CT 67 [.cv (.val (.sl (List.map (eL eRange) sets))), .cv (.val (.int .i64 r))] h fun o h' => o = [.cv (.val (.int .u64 a))] ∧ h' = h := by
  refine Runs.start Try.f67 _ Try.func67 rfl (by rw [Try.ntmps67]; simp) (by rfl) (by rfl) (fun hwf hu => ?_)
  obtain ⟨D, hD, hr⟩ : ∃ D : Int → Prop, (∀ z, D z → z = a) ∧ Holds (alphabet_mask sets r) D := ⟨fun z => z = a, fun _ h => h, Holds.intro e rfl⟩
  dsimp only [alphabet_mask] at hr
  change wpCode _ _ _ _ _ ⟨[(0, .cv (.val (.sl (List.map (eL eRange) sets)))), (1, .cv (.val (.int .i64 r)))], h.on []⟩
  refine w_seq ?_
  refine A_region ?_
  refine w_n ?_
  refine w_seq ?_
  refine A_region ?_
  refine w_n ?_
  refine w_seq ?_
  refine w_seq ?_
  refine A_region ?_
  refine w_n ?_
  refine w_K (D := D) (fun xX : Int => ⟨[(5, .cv (.val (.int .u64 xX)))], h.on []⟩) (fun xX : Int => alphabet_mask.k1 xX) (fun xX s' hr ht => ?_) ?_
  · obtain ⟨m, rfl⟩ : ∃ z, z = xX := ⟨xX, rfl⟩
    dsimp only [alphabet_mask.k1] at hr ht
    refine (w_nT ht ?_)
    refine w_seq ?_
    refine A_region ?_
    refine w_n ?_
    refine w_ret ?_
    obtain rfl := hD _ hr
    exact (A_endR (A_cut (os' := []) (sl := [(4, .cv (.val (.int .u64 m)))]) hwf) ⟨rfl, on_nil hwf⟩)
  · refine w_block ?_
    refine w_Loop (fun xX : (Int × Int) => ⟨[(0, .cv (.val (.sl (List.map (eL eRange) sets)))), (1, .cv (.val (.int .i64 r))), (5, .cv (.val (.int .u64 xX.1))), (8, .cv (.val (.int .i64 (sets.length : Int)))), (9, .cv (.val (.int .i64 xX.2)))], h.on []⟩) hr (A_cut hwf) (fun W1 xX hr => ?_)
    obtain ⟨m1, v⟩ := xX
    dsimp only [alphabet_mask.b1] at hr
    refine w_seq ?_
    refine A_region ?_
    refine w_n ?_
    refine w_seq ?_
    refine A_condH hr (fun cF1 hr => ?_) (fun cF1 hr => ?_)
    · refine w_skip ?_
      refine w_n ?_
      refine w_seq ?_
      refine w_K (D := (Aft W1 D)) (fun xX : Int => ⟨[(0, .cv (.val (.sl (List.map (eL eRange) sets)))), (1, .cv (.val (.int .i64 r))), (5, .cv (.val (.int .u64 xX))), (8, .cv (.val (.int .i64 (sets.length : Int)))), (9, .cv (.val (.int .i64 v)))], h.on []⟩) (fun xX : Int => alphabet_mask.k2 v xX) (fun xX s' hr ht => ?_) ?_
      · obtain ⟨m2, rfl⟩ : ∃ z, z = xX := ⟨xX, rfl⟩
        dsimp only [alphabet_mask.k2] at hr ht
        refine (w_nT ht ?_)
        refine A_region ?_
        exact (w_k ⟨(m2, (IntKind.i64.wrap (v + (1 : Int)))), hr, (A_cut hwf)⟩)
      · refine w_block ?_
        refine w_seq ?_
        refine A_region ?_
        refine w_n ?_
        refine w_seq ?_
        refine A_ops ?_
        obtain ⟨xs, nF2, eF3, gF4, hr⟩ := hr.idx
        refine A_upto 5 ?_
        obtain ⟨r1, eF5, hr⟩ := hr.bind
        refine A_call (out := ?o_eF5) (hp := ?p_eF5) ?c_eF5 ?d_eF5 ?_
        case c_eF5 => exact ranges_Has_runs xs r eF5
        case d_eF5 => rfl
        refine w_ops_nil ?_
        refine w_n ?_
        refine A_condH hr (fun cF6 hr => ?_) (fun cF6 hr => ?_)
        · obtain ⟨nF7, nF8, hr⟩ := hr.nat
          refine A_region ?_
          exact (w_bn (w_k ⟨(bOr .u64 m1 (shL .u64 (1 : Int) v)), hr, (A_cut hwf)⟩))
        · refine w_skip ?_
          exact (w_bn (w_k ⟨m1, hr, (A_cut hwf)⟩))
    · refine w_exit ?_
      exact (w_te (w_te (w_bx (w_k ⟨m1, (hr).map, (A_cut hwf)⟩))))
end Go.Val

/- part JW101 -/
/- scansion/trie.Build$1 runs as it is read off. -/
namespace Go.Val
set_option linter.unusedVariables false
set_option linter.unusedSimpArgs false
set_option maxRecDepth 20000
open Go.Proofs
theorem trie_Build_1_runs (x : TProp) {h : Heap} {a : Bool} (e : trie_Build_1 x = some a) :
    Runs CT 101 [.cv (.val (.agg [.int .i64 x.Low, .int .i64 x.High, .int .u8 (x.Value.toNat : Int)]))] h fun o h' => o = [.cv (.val (.bool a))] ∧ h' = h := by
  refine Runs.start Try.f101 _ Try.func101 rfl (by rw [Try.ntmps101]; simp) (by rfl) (by rfl) (fun hwf hu => ?_)
  obtain ⟨D, hD, hr⟩ : ∃ D : Bool → Prop, (∀ z, D z → z = a) ∧ Holds (trie_Build_1 x) D := ⟨fun z => z = a, fun _ h => h, Holds.intro e rfl⟩
  dsimp only [trie_Build_1] at hr
  change wpCode _ _ _ _ _ ⟨[(0, .cv (.val (.agg [.int .i64 x.Low, .int .i64 x.High, .int .u8 (x.Value.toNat : Int)])))], h.on []⟩
  refine w_seq ?_
  refine A_region ?_
  refine w_n ?_
  refine w_joinR (sj := ⟨[(2, .cv (.val (.bool ((decide (x.Low < (0 : Int))) || ((decide (x.High > (1114111 : Int))) || (decide (x.Low > x.High)))))))], h.on []⟩) (A_ops ?_) ?_
  · refine A_upto 4 ?_
    rcases Bool.eq_false_or_eq_true (decide (x.Low < (0 : Int))) with cF1 | cF1
    · refine A_ops_end ?_
      exact w_k (A_cut hwf)
    · refine A_upto 5 ?_
      rcases Bool.eq_false_or_eq_true (decide (x.High > (1114111 : Int))) with cF2 | cF2
      · refine A_ops_end ?_
        exact w_k (A_cut hwf)
      · refine A_ops_end ?_
        exact w_k (A_cut hwf)
  refine w_ret ?_
  obtain rfl := hD _ hr
  exact (A_endR (A_cut (os' := []) (sl := [(2, .cv (.val (.bool ((decide (x.Low < (0 : Int))) || ((decide (x.High > (1114111 : Int))) || (decide (x.Low > x.High)))))))]) hwf) ⟨rfl, on_nil hwf⟩)
end Go.Val

/- part JW127 -/
/- slices.IndexFunc[[]scansion/api.Prop,scansion/api.Prop] runs as it is read off. -/
namespace Go.Val
set_option linter.unusedVariables false
set_option linter.unusedSimpArgs false
set_option maxRecDepth 20000
open Go.Proofs
theorem slices_IndexFunc_api_Prop_api_Prop_runs (s : List TProp) (f : TProp → Option Bool) (fid_f : FuncId) (caps_f : List DVal) {h : Heap} (h_f : ∀ os x0 r, f x0 = some r → Runs CT fid_f ([.cv (.val (.agg [.int .i64 x0.Low, .int .i64 x0.High, .int .u8 (x0.Value.toNat : Int)]))] ++ sval caps_f) (h.on os) fun o h' => o = [.cv (.val (.bool r))] ∧ h' = h.on os) (d_f : ∀ i, CT.how fid_f i = .data) {a : Int} (e : slices_IndexFunc_api_Prop_api_Prop s f = some a) :
    Runs CT 127 [.cv (.val (.sl (List.map eProp s))), .cv (.val (.fn fid_f [] caps_f))] h fun o h' => o = [.cv (.val (.int .i64 a))] ∧ h' = h := by
  refine Runs.start Try.f127 _ Try.func127 rfl (by rw [Try.ntmps127]; simp) (by rfl) (by rfl) (fun hwf hu => ?_)
  have u_f : underL h.n caps_f := (hu (.cv (.val (.fn fid_f [] caps_f))) (by simp)).2
  have vu_f := fun k => under_add (k := k) u_f
  obtain ⟨D, hD, hr⟩ : ∃ D : Int → Prop, (∀ z, D z → z = a) ∧ Holds (slices_IndexFunc_api_Prop_api_Prop s f) D := ⟨fun z => z = a, fun _ h => h, Holds.intro e rfl⟩
  dsimp only [slices_IndexFunc_api_Prop_api_Prop] at hr
  change wpCode _ _ _ _ _ ⟨[(0, .cv (.val (.sl (List.map eProp s)))), (1, .cv (.val (.fn fid_f [] caps_f)))], h.on []⟩
  refine w_seq ?_
  refine A_region ?_
  refine w_n ?_
  refine w_seq ?_
  refine w_seq ?_
  refine A_region ?_
  refine w_n ?_
  refine w_K (D := D) (fun xX : Unit => ⟨[], h.on []⟩) (fun xX : Unit => slices_IndexFunc_api_Prop_api_Prop.k1) (fun xX s' hr ht => ?_) ?_
  · dsimp only [slices_IndexFunc_api_Prop_api_Prop.k1] at hr ht
    refine (w_nT ht ?_)
    refine w_seq ?_
    refine A_region ?_
    refine w_n ?_
    refine w_ret ?_
    obtain rfl := hD _ hr
    exact (A_endR (A_cut (os' := []) (sl := [(4, .cv (.val (.int .i64 (-1 : Int))))]) hwf) ⟨rfl, on_nil hwf⟩)
  · refine w_block ?_
    refine w_Loop (fun xX : Int => ⟨[(0, .cv (.val (.sl (List.map eProp s)))), (1, .cv (.val (.fn fid_f [] caps_f))), (7, .cv (.val (.int .i64 (s.length : Int)))), (8, .cv (.val (.int .i64 xX)))], h.on []⟩) hr (A_cut hwf) (fun W1 xX hr => ?_)
    obtain ⟨v, rfl⟩ : ∃ z, z = xX := ⟨xX, rfl⟩
    dsimp only [slices_IndexFunc_api_Prop_api_Prop.b1] at hr
    refine w_seq ?_
    refine A_region ?_
    refine w_n ?_
    refine w_seq ?_
    refine A_condH hr (fun cF1 hr => ?_) (fun cF1 hr => ?_)
    · refine w_skip ?_
      refine w_n ?_
      refine w_seq ?_
      refine w_block ?_
      refine w_seq ?_
      refine A_region ?_
      refine w_n ?_
      refine w_seq ?_
      refine A_ops ?_
      obtain ⟨x, nF2, eF3, gF4, hr⟩ := hr.idx
      refine A_upto 5 ?_
      obtain ⟨r, eF5, hr⟩ := hr.bind
      refine A_call (out := ?o_eF5) (hp := ?p_eF5) ?c_eF5 ?d_eF5 ?_
      case c_eF5 => exact h_f _ _ _ eF5
      case d_eF5 => rfl
      refine w_ops_nil ?_
      refine w_n ?_
      refine A_condH hr (fun cF6 hr => ?_) (fun cF6 hr => ?_)
      · refine w_seq ?_
        refine A_region ?_
        refine w_n ?_
        refine w_ret ?_
        obtain rfl := hD _ hr
        exact (w_br (w_tr (w_tr (w_br (w_tr (w_tr (A_endR (A_cut (os' := []) (sl := [(4, .cv (.val (.int .i64 v)))]) hwf) ⟨rfl, on_nil hwf⟩)))))))
      · refine w_skip ?_
        refine (w_bn (w_n ?_))
        refine A_region ?_
        exact (w_k ⟨(IntKind.i64.wrap (v + (1 : Int))), hr, (A_cut hwf)⟩)
    · refine w_exit ?_
      exact (w_te (w_te (w_bx (w_k ⟨(), (hr).map, (A_cut hwf)⟩))))
end Go.Val

/- part JW102 -/
/- slices.ContainsFunc[[]scansion/api.Prop,scansion/api.Prop] runs as it is read off. -/
namespace Go.Val
set_option linter.unusedVariables false
set_option linter.unusedSimpArgs false
set_option maxRecDepth 20000
open Go.Proofs
theorem slices_ContainsFunc_api_Prop_api_Prop_runs (s : List TProp) (f : TProp → Option Bool) (fid_f : FuncId) (caps_f : List DVal) {h : Heap} (h_f : ∀ os x0 r, f x0 = some r → Runs CT fid_f ([.cv (.val (.agg [.int .i64 x0.Low, .int .i64 x0.High, .int .u8 (x0.Value.toNat : Int)]))] ++ sval caps_f) (h.on os) fun o h' => o = [.cv (.val (.bool r))] ∧ h' = h.on os) (d_f : ∀ i, CT.how fid_f i = .data) {a : Bool} (e : slices_ContainsFunc_api_Prop_api_Prop s f = some a) :
    Runs CT 102 [.cv (.val (.sl (List.map eProp s))), .cv (.val (.fn fid_f [] caps_f))] h fun o h' => o = [.cv (.val (.bool a))] ∧ h' = h := by
  refine Runs.start Try.f102 _ Try.func102 rfl (by rw [Try.ntmps102]; simp) (by rfl) (by rfl) (fun hwf hu => ?_)
  have u_f : underL h.n caps_f := (hu (.cv (.val (.fn fid_f [] caps_f))) (by simp)).2
  have vu_f := fun k => under_add (k := k) u_f
  obtain ⟨D, hD, hr⟩ : ∃ D : Bool → Prop, (∀ z, D z → z = a) ∧ Holds (slices_ContainsFunc_api_Prop_api_Prop s f) D := ⟨fun z => z = a, fun _ h => h, Holds.intro e rfl⟩
  dsimp only [slices_ContainsFunc_api_Prop_api_Prop] at hr
  change wpCode _ _ _ _ _ ⟨[(0, .cv (.val (.sl (List.map eProp s)))), (1, .cv (.val (.fn fid_f [] caps_f)))], h.on []⟩
  refine w_seq ?_
  refine A_region ?_
  refine w_n ?_
  refine w_seq ?_
  refine A_ops ?_
  refine A_upto 2 ?_
  obtain ⟨r, eF1, hr⟩ := hr.bind
  refine A_call (out := ?o_eF1) (hp := ?p_eF1) ?c_eF1 ?d_eF1 ?_
  case c_eF1 => (refine slices_IndexFunc_api_Prop_api_Prop_runs s f _ _ ?_ ?_ eF1; (exact (fun os x0 r e => by rw [on_on]; exact h_f _ x0 r e)); (exact d_f))
  case d_eF1 => rfl
  refine A_ops_end ?_
  refine w_n ?_
  refine w_ret ?_
  obtain rfl := hD _ hr
  exact (A_endR (A_cut (os' := []) (sl := [(4, .cv (.val (.bool (decide (r ≥ (0 : Int))))))]) hwf) ⟨rfl, on_nil hwf⟩)
end Go.Val

/- part JW103 -/
/- (*scansion/trie.Trie).add runs as it is read off. -/
namespace Go.Val
set_option linter.unusedVariables false
set_option linter.unusedSimpArgs false
set_option maxRecDepth 20000
open Go.Proofs
theorem trie_Trie_add_runs (t : Ttrie_Trie) (k : Int) (b : Vector UInt8 256) (known : List (Vector UInt8 256 × Int)) (l0 : Nat) (l3 : Nat) {h : Heap} (ha0 : h.at_ l0 = some (.cells (avals eU t.like ++ ([.row 143 (List.map (eA eU) t.first)] : List CV)))) (ha3 : h.at_ l3 = some (.map 143 (encM (eA eU) eI known))) (hn0_3 : l0 ≠ l3) {a : (Bool × Ttrie_Trie × List (Vector UInt8 256 × Int))} (e : trie_Trie_add t k b known = some a) :
    Runs CT 103 [.cv (.val (.ptr (some (l0, 0)))), .cv (.val (.int .i64 k)), .cv (.val (.agg (List.map eU b.toList))), .cv (.val (.map (some (l3))))] h fun o h' => o = [.cv (.val (.bool a.1))] ∧ h' = ((h.upd l0 (.cells (avals eU a.2.1.like ++ ([.row 143 (List.map (eA eU) a.2.1.first)] : List CV)))).upd l3 (.map 143 (encM (eA eU) eI a.2.2))) := by
  refine Runs.start Try.f103 _ Try.func103 rfl (by rw [Try.ntmps103]; simp) (by rfl) (by rfl) (fun hwf hu => ?_)
  have hl0 := (hwf _ _ ha0).1
  have kl0 := locF hl0
  have hl3 := (hwf _ _ ha3).1
  have kl3 := locF hl3
  obtain ⟨D, hD, hr⟩ : ∃ D : (Bool × Ttrie_Trie × List (Vector UInt8 256 × Int)) → Prop, (∀ z, D z → z = a) ∧ Holds (trie_Trie_add t k b known) D := ⟨fun z => z = a, fun _ h => h, Holds.intro e rfl⟩
  dsimp only [trie_Trie_add] at hr
  change wpCode _ _ _ _ _ ⟨[(0, .cv (.val (.ptr (some (l0, 0))))), (1, .cv (.val (.int .i64 k))), (2, .cv (.val (.agg (List.map eU b.toList)))), (3, .cv (.val (.map (some (l3)))))], h.on []⟩
  refine w_seq ?_
  refine w_region rfl (by simp (disch := (apply Apart.mk; decide)) only [go_sem, Nat.reduceAdd, Nat.reduceLT, Nat.reduceMul, Nat.reduceLeDiff, Int.reduceToNat, Int.reduceLT, Int.reduceLE, ha0, on_atB hl0, lt_add hl0, lt_at hl0, ha3, on_atB hl3, lt_add hl3, lt_at hl3, on_updB hl0, on_atU hl0, on_updU hl0, upd_same ha0, on_updB hl3, on_atU hl3, on_updU hl3, upd_same ha3, upd_ne hn0_3, upd_ne (Ne.symm hn0_3), upd_swap hn0_3, on_atUU hl0, on_atUU hl3, on_updUU hl0, on_updUU hl3]; rfl) ?_
  refine w_n ?_
  refine w_seq ?_
  refine w_region rfl (by simp (disch := (apply Apart.mk; decide)) only [go_sem, Nat.reduceAdd, Nat.reduceLT, Nat.reduceMul, Nat.reduceLeDiff, Int.reduceToNat, Int.reduceLT, Int.reduceLE, ha0, on_atB hl0, lt_add hl0, lt_at hl0, ha3, on_atB hl3, lt_add hl3, lt_at hl3, on_updB hl0, on_atU hl0, on_updU hl0, upd_same ha0, on_updB hl3, on_atU hl3, on_updU hl3, upd_same ha3, upd_ne hn0_3, upd_ne (Ne.symm hn0_3), upd_swap hn0_3, on_atUU hl0, on_atUU hl3, on_updUU hl0, on_updUU hl3]; rfl) ?_
  refine w_n ?_
  refine w_seq ?_
  refine w_seq ?_
  refine w_region rfl (by simp (disch := (apply Apart.mk; decide)) only [go_sem, Nat.reduceAdd, Nat.reduceLT, Nat.reduceMul, Nat.reduceLeDiff, Int.reduceToNat, Int.reduceLT, Int.reduceLE, ha0, on_atB hl0, lt_add hl0, lt_at hl0, ha3, on_atB hl3, lt_add hl3, lt_at hl3, on_updB hl0, on_atU hl0, on_updU hl0, upd_same ha0, on_updB hl3, on_atU hl3, on_updU hl3, upd_same ha3, upd_ne hn0_3, upd_ne (Ne.symm hn0_3), upd_swap hn0_3, on_atUU hl0, on_atUU hl3, on_updUU hl0, on_updUU hl3]; rfl) ?_
  refine w_n ?_
  refine w_K (D := D) (fun xX : (Int × List (Vector UInt8 256) × List (Vector UInt8 256 × Int)) => ⟨[(0, .cv (.val (.ptr (some (l0, 0))))), (1, .cv (.val (.int .i64 k))), (9, .cv (.val (.int .i64 xX.1)))], ((h.upd l0 (.cells (avals eU t.like ++ ([.row 143 (List.map (eA eU) xX.2.1)] : List CV)))).upd l3 (.map 143 (encM (eA eU) eI xX.2.2))).on []⟩) (fun xX : (Int × List (Vector UInt8 256) × List (Vector UInt8 256 × Int)) => trie_Trie_add.k1 t k xX.1 xX.2.1 xX.2.2) (fun xX s' hr ht => ?_) ?_
  · obtain ⟨i, like, m⟩ := xX
    dsimp only [trie_Trie_add.k1] at hr ht
    refine (w_nT ht ?_)
    refine w_seq ?_
    obtain ⟨n, nF1, eF2, gF3, hr⟩ := hr.idx
    have qF4 : (Int.toNat k < 4352) = True := eq_true (lt_vec eF2)
    have qF5 : ((avals eU t.like ++ ([.row 143 (List.map (eA eU) like)] : List CV))).set (Int.toNat k) (.val (.int .u8 (IntKind.u8.wrap i))) = (avals eU (vset t.like k (u8 (IntKind.u8.wrap i))) ++ ([.row 143 (List.map (eA eU) like)] : List CV)) := by have q := (set_avals' (e := eU) (v := t.like) (cs := ([.row 143 (List.map (eA eU) like)] : List CV)) (x := (u8 (IntKind.u8.wrap i))) (lt_vec eF2)); rw [eU_wrap] at q; exact q
    have qF6 : ((avals eU t.like ++ ([.row 143 (List.map (eA eU) like)] : List CV))).getD (Int.toNat k) .dead = .val (eU n) := getD_avals' eF2
    have qF7 : ((Int.toNat k) + 1 ≤ 4352) = True := eq_true (lt_vec eF2)
    have qF8 : ((Int.toNat k) ≤ 4352) = True := eq_true (Nat.le_of_lt (lt_vec eF2))
    refine w_region rfl (by simp (disch := (apply Apart.mk; decide)) only [go_sem, Nat.reduceAdd, Nat.reduceLT, Nat.reduceMul, Nat.reduceLeDiff, Int.reduceToNat, Int.reduceLT, Int.reduceLE, ha0, on_atB hl0, lt_add hl0, lt_at hl0, ha3, on_atB hl3, lt_add hl3, lt_at hl3, on_updB hl0, on_atU hl0, on_updU hl0, upd_same ha0, on_updB hl3, on_atU hl3, on_updU hl3, upd_same ha3, upd_ne hn0_3, upd_ne (Ne.symm hn0_3), upd_swap hn0_3, on_atUU hl0, on_atUU hl3, on_updUU hl0, on_updUU hl3, nF1, eF2, gF3, qF4, Nat.mul_one, Nat.zero_add, qF8, qF5, qF6, qF7, Nat.mul_one, Nat.zero_add]; rfl) ?_
    refine w_n ?_
    refine w_seq ?_
    refine w_region rfl (by simp (disch := (apply Apart.mk; decide)) only [go_sem, Nat.reduceAdd, Nat.reduceLT, Nat.reduceMul, Nat.reduceLeDiff, Int.reduceToNat, Int.reduceLT, Int.reduceLE, ha0, on_atB hl0, lt_add hl0, lt_at hl0, ha3, on_atB hl3, lt_add hl3, lt_at hl3, on_updB hl0, on_atU hl0, on_updU hl0, upd_same ha0, on_updB hl3, on_atU hl3, on_updU hl3, upd_same ha3, upd_ne hn0_3, upd_ne (Ne.symm hn0_3), upd_swap hn0_3, on_atUU hl0, on_atUU hl3, on_updUU hl0, on_updUU hl3]; rfl) ?_
    refine w_n ?_
    refine w_ret ?_
    obtain rfl := hD _ hr
    exact (w_endR (To.cut (os' := []) (sl := [(8, .cv (.val (.bool true)))]) (h := ((h.upd l0 (.cells (avals eU (vset t.like k (u8 (IntKind.u8.wrap i))) ++ ([.row 143 (List.map (eA eU) like)] : List CV)))).upd l3 (.map 143 (encM (eA eU) eI m)))) (WF.upd (WF.upd hwf hl0 (by simp (disch := (apply Apart.mk; decide)) only [go_sem, Nat.reduceAdd, Nat.reduceLT, Nat.reduceMul, Nat.reduceLeDiff, Int.reduceToNat, Int.reduceLT, Int.reduceLE, ha0, on_atB hl0, lt_add hl0, lt_at hl0, ha3, on_atB hl3, lt_add hl3, lt_at hl3, on_updB hl0, on_atU hl0, on_updU hl0, upd_same ha0, on_updB hl3, on_atU hl3, on_updU hl3, upd_same ha3, upd_ne hn0_3, upd_ne (Ne.symm hn0_3), upd_swap hn0_3, on_atUU hl0, on_atUU hl3, on_updUU hl0, on_updUU hl3])) hl3 (by simp (disch := (apply Apart.mk; decide)) only [go_sem, Nat.reduceAdd, Nat.reduceLT, Nat.reduceMul, Nat.reduceLeDiff, Int.reduceToNat, Int.reduceLT, Int.reduceLE, ha0, on_atB hl0, lt_add hl0, lt_at hl0, ha3, on_atB hl3, lt_add hl3, lt_at hl3, on_updB hl0, on_atU hl0, on_updU hl0, upd_same ha0, on_updB hl3, on_atU hl3, on_updU hl3, upd_same ha3, upd_ne hn0_3, upd_ne (Ne.symm hn0_3), upd_swap hn0_3, on_atUU hl0, on_atUU hl3, on_updUU hl0, on_updUU hl3])) (Nat.le_refl _) (by first | rfl | (simp (disch := (apply Apart.mk; decide)) only [go_sem, Nat.reduceAdd, Nat.reduceLT, Nat.reduceMul, Nat.reduceLeDiff, Int.reduceToNat, Int.reduceLT, Int.reduceLE, ha0, on_atB hl0, lt_add hl0, lt_at hl0, ha3, on_atB hl3, lt_add hl3, lt_at hl3, on_updB hl0, on_atU hl0, on_updU hl0, upd_same ha0, on_updB hl3, on_atU hl3, on_updU hl3, upd_same ha3, upd_ne hn0_3, upd_ne (Ne.symm hn0_3), upd_swap hn0_3, on_atUU hl0, on_atUU hl3, on_updUU hl0, on_updUU hl3]; rfl)) (by simp (disch := (apply Apart.mk; decide)) only [go_sem, Nat.reduceAdd, Nat.reduceLT, Nat.reduceMul, Nat.reduceLeDiff, Int.reduceToNat, Int.reduceLT, Int.reduceLE, ha0, on_atB hl0, lt_add hl0, lt_at hl0, ha3, on_atB hl3, lt_add hl3, lt_at hl3, on_updB hl0, on_atU hl0, on_updU hl0, upd_same ha0, on_updB hl3, on_atU hl3, on_updU hl3, upd_same ha3, upd_ne hn0_3, upd_ne (Ne.symm hn0_3), upd_swap hn0_3, on_atUU hl0, on_atUU hl3, on_updUU hl0, on_updUU hl3])) (by simp (disch := (apply Apart.mk; decide)) only [go_sem, Nat.reduceAdd, Nat.reduceLT, Nat.reduceMul, Nat.reduceLeDiff, Int.reduceToNat, Int.reduceLT, Int.reduceLE, ha0, on_atB hl0, lt_add hl0, lt_at hl0, ha3, on_atB hl3, lt_add hl3, lt_at hl3, on_updB hl0, on_atU hl0, on_updU hl0, upd_same ha0, on_updB hl3, on_atU hl3, on_updU hl3, upd_same ha3, upd_ne hn0_3, upd_ne (Ne.symm hn0_3), upd_swap hn0_3, on_atUU hl0, on_atUU hl3, on_updUU hl0, on_updUU hl3, Try.results103, results_data CT_gives103, resCell, resVal.eq_2, loadOp_sv]) ⟨rfl, on_nil (h := ((h.upd l0 (.cells (avals eU (vset t.like k (u8 (IntKind.u8.wrap i))) ++ ([.row 143 (List.map (eA eU) like)] : List CV)))).upd l3 (.map 143 (encM (eA eU) eI m)))) (WF.upd (WF.upd hwf hl0 (by simp (disch := (apply Apart.mk; decide)) only [go_sem, Nat.reduceAdd, Nat.reduceLT, Nat.reduceMul, Nat.reduceLeDiff, Int.reduceToNat, Int.reduceLT, Int.reduceLE, ha0, on_atB hl0, lt_add hl0, lt_at hl0, ha3, on_atB hl3, lt_add hl3, lt_at hl3, on_updB hl0, on_atU hl0, on_updU hl0, upd_same ha0, on_updB hl3, on_atU hl3, on_updU hl3, upd_same ha3, upd_ne hn0_3, upd_ne (Ne.symm hn0_3), upd_swap hn0_3, on_atUU hl0, on_atUU hl3, on_updUU hl0, on_updUU hl3])) hl3 (by simp (disch := (apply Apart.mk; decide)) only [go_sem, Nat.reduceAdd, Nat.reduceLT, Nat.reduceMul, Nat.reduceLeDiff, Int.reduceToNat, Int.reduceLT, Int.reduceLE, ha0, on_atB hl0, lt_add hl0, lt_at hl0, ha3, on_atB hl3, lt_add hl3, lt_at hl3, on_updB hl0, on_atU hl0, on_updU hl0, upd_same ha0, on_updB hl3, on_atU hl3, on_updU hl3, upd_same ha3, upd_ne hn0_3, upd_ne (Ne.symm hn0_3), upd_swap hn0_3, on_atUU hl0, on_atUU hl3, on_updUU hl0, on_updUU hl3]))⟩)
  · refine w_condH (by simp (disch := (apply Apart.mk; decide)) only [go_sem, Nat.reduceAdd, Nat.reduceLT, Nat.reduceMul, Nat.reduceLeDiff, Int.reduceToNat, Int.reduceLT, Int.reduceLE, ha0, on_atB hl0, lt_add hl0, lt_at hl0, ha3, on_atB hl3, lt_add hl3, lt_at hl3, on_updB hl0, on_atU hl0, on_updU hl0, upd_same ha0, on_updB hl3, on_atU hl3, on_updU hl3, upd_same ha3, upd_ne hn0_3, upd_ne (Ne.symm hn0_3), upd_swap hn0_3, on_atUU hl0, on_atUU hl3, on_updUU hl0, on_updUU hl3]) hr (fun cF10 hr => ?_) (fun cF10 hr => ?_)
    · refine w_seq ?_
      refine w_seq ?_
      refine w_region rfl (by simp (disch := (apply Apart.mk; decide)) only [go_sem, Nat.reduceAdd, Nat.reduceLT, Nat.reduceMul, Nat.reduceLeDiff, Int.reduceToNat, Int.reduceLT, Int.reduceLE, ha0, on_atB hl0, lt_add hl0, lt_at hl0, ha3, on_atB hl3, lt_add hl3, lt_at hl3, on_updB hl0, on_atU hl0, on_updU hl0, upd_same ha0, on_updB hl3, on_atU hl3, on_updU hl3, upd_same ha3, upd_ne hn0_3, upd_ne (Ne.symm hn0_3), upd_swap hn0_3, on_atUU hl0, on_atUU hl3, on_updUU hl0, on_updUU hl3, cF10]; rfl) ?_
      refine w_n ?_
      refine w_condH (by simp (disch := (apply Apart.mk; decide)) only [go_sem, Nat.reduceAdd, Nat.reduceLT, Nat.reduceMul, Nat.reduceLeDiff, Int.reduceToNat, Int.reduceLT, Int.reduceLE, ha0, on_atB hl0, lt_add hl0, lt_at hl0, ha3, on_atB hl3, lt_add hl3, lt_at hl3, on_updB hl0, on_atU hl0, on_updU hl0, upd_same ha0, on_updB hl3, on_atU hl3, on_updU hl3, upd_same ha3, upd_ne hn0_3, upd_ne (Ne.symm hn0_3), upd_swap hn0_3, on_atUU hl0, on_atUU hl3, on_updUU hl0, on_updUU hl3, cF10]) hr (fun cF11 hr => ?_) (fun cF11 hr => ?_)
      · refine w_seq ?_
        refine w_region rfl (by simp (disch := (apply Apart.mk; decide)) only [go_sem, Nat.reduceAdd, Nat.reduceLT, Nat.reduceMul, Nat.reduceLeDiff, Int.reduceToNat, Int.reduceLT, Int.reduceLE, ha0, on_atB hl0, lt_add hl0, lt_at hl0, ha3, on_atB hl3, lt_add hl3, lt_at hl3, on_updB hl0, on_atU hl0, on_updU hl0, upd_same ha0, on_updB hl3, on_atU hl3, on_updU hl3, upd_same ha3, upd_ne hn0_3, upd_ne (Ne.symm hn0_3), upd_swap hn0_3, on_atUU hl0, on_atUU hl3, on_updUU hl0, on_updUU hl3, cF10, cF11]; rfl) ?_
        refine w_n ?_
        refine w_ret ?_
        obtain rfl := hD _ hr
        exact (w_tr (w_tr (w_tr (w_endR (To.cut (os' := []) (sl := [(8, .cv (.val (.bool false)))]) (h := ((h.upd l0 (.cells (avals eU t.like ++ ([.row 143 (List.map (eA eU) t.first)] : List CV)))).upd l3 (.map 143 (encM (eA eU) eI known)))) (WF.upd (WF.upd hwf hl0 (by simp (disch := (apply Apart.mk; decide)) only [go_sem, Nat.reduceAdd, Nat.reduceLT, Nat.reduceMul, Nat.reduceLeDiff, Int.reduceToNat, Int.reduceLT, Int.reduceLE, ha0, on_atB hl0, lt_add hl0, lt_at hl0, ha3, on_atB hl3, lt_add hl3, lt_at hl3, on_updB hl0, on_atU hl0, on_updU hl0, upd_same ha0, on_updB hl3, on_atU hl3, on_updU hl3, upd_same ha3, upd_ne hn0_3, upd_ne (Ne.symm hn0_3), upd_swap hn0_3, on_atUU hl0, on_atUU hl3, on_updUU hl0, on_updUU hl3])) hl3 (by simp (disch := (apply Apart.mk; decide)) only [go_sem, Nat.reduceAdd, Nat.reduceLT, Nat.reduceMul, Nat.reduceLeDiff, Int.reduceToNat, Int.reduceLT, Int.reduceLE, ha0, on_atB hl0, lt_add hl0, lt_at hl0, ha3, on_atB hl3, lt_add hl3, lt_at hl3, on_updB hl0, on_atU hl0, on_updU hl0, upd_same ha0, on_updB hl3, on_atU hl3, on_updU hl3, upd_same ha3, upd_ne hn0_3, upd_ne (Ne.symm hn0_3), upd_swap hn0_3, on_atUU hl0, on_atUU hl3, on_updUU hl0, on_updUU hl3])) (Nat.le_refl _) (by first | rfl | (simp (disch := (apply Apart.mk; decide)) only [go_sem, Nat.reduceAdd, Nat.reduceLT, Nat.reduceMul, Nat.reduceLeDiff, Int.reduceToNat, Int.reduceLT, Int.reduceLE, ha0, on_atB hl0, lt_add hl0, lt_at hl0, ha3, on_atB hl3, lt_add hl3, lt_at hl3, on_updB hl0, on_atU hl0, on_updU hl0, upd_same ha0, on_updB hl3, on_atU hl3, on_updU hl3, upd_same ha3, upd_ne hn0_3, upd_ne (Ne.symm hn0_3), upd_swap hn0_3, on_atUU hl0, on_atUU hl3, on_updUU hl0, on_updUU hl3, cF10, cF11]; rfl)) (by simp (disch := (apply Apart.mk; decide)) only [go_sem, Nat.reduceAdd, Nat.reduceLT, Nat.reduceMul, Nat.reduceLeDiff, Int.reduceToNat, Int.reduceLT, Int.reduceLE, ha0, on_atB hl0, lt_add hl0, lt_at hl0, ha3, on_atB hl3, lt_add hl3, lt_at hl3, on_updB hl0, on_atU hl0, on_updU hl0, upd_same ha0, on_updB hl3, on_atU hl3, on_updU hl3, upd_same ha3, upd_ne hn0_3, upd_ne (Ne.symm hn0_3), upd_swap hn0_3, on_atUU hl0, on_atUU hl3, on_updUU hl0, on_updUU hl3, cF10, cF11])) (by simp (disch := (apply Apart.mk; decide)) only [go_sem, Nat.reduceAdd, Nat.reduceLT, Nat.reduceMul, Nat.reduceLeDiff, Int.reduceToNat, Int.reduceLT, Int.reduceLE, ha0, on_atB hl0, lt_add hl0, lt_at hl0, ha3, on_atB hl3, lt_add hl3, lt_at hl3, on_updB hl0, on_atU hl0, on_updU hl0, upd_same ha0, on_updB hl3, on_atU hl3, on_updU hl3, upd_same ha3, upd_ne hn0_3, upd_ne (Ne.symm hn0_3), upd_swap hn0_3, on_atUU hl0, on_atUU hl3, on_updUU hl0, on_updUU hl3, Try.results103, results_data CT_gives103, resCell, resVal.eq_2, loadOp_sv, cF10, cF11]) ⟨rfl, on_nil (h := ((h.upd l0 (.cells (avals eU t.like ++ ([.row 143 (List.map (eA eU) t.first)] : List CV)))).upd l3 (.map 143 (encM (eA eU) eI known)))) (WF.upd (WF.upd hwf hl0 (by simp (disch := (apply Apart.mk; decide)) only [go_sem, Nat.reduceAdd, Nat.reduceLT, Nat.reduceMul, Nat.reduceLeDiff, Int.reduceToNat, Int.reduceLT, Int.reduceLE, ha0, on_atB hl0, lt_add hl0, lt_at hl0, ha3, on_atB hl3, lt_add hl3, lt_at hl3, on_updB hl0, on_atU hl0, on_updU hl0, upd_same ha0, on_updB hl3, on_atU hl3, on_updU hl3, upd_same ha3, upd_ne hn0_3, upd_ne (Ne.symm hn0_3), upd_swap hn0_3, on_atUU hl0, on_atUU hl3, on_updUU hl0, on_updUU hl3])) hl3 (by simp (disch := (apply Apart.mk; decide)) only [go_sem, Nat.reduceAdd, Nat.reduceLT, Nat.reduceMul, Nat.reduceLeDiff, Int.reduceToNat, Int.reduceLT, Int.reduceLE, ha0, on_atB hl0, lt_add hl0, lt_at hl0, ha3, on_atB hl3, lt_add hl3, lt_at hl3, on_updB hl0, on_atU hl0, on_updU hl0, upd_same ha0, on_updB hl3, on_atU hl3, on_updU hl3, upd_same ha3, upd_ne hn0_3, upd_ne (Ne.symm hn0_3), upd_swap hn0_3, on_atUU hl0, on_atUU hl3, on_updUU hl0, on_updUU hl3]))⟩))))
      · refine w_skip ?_
        refine w_n ?_
        refine w_seq ?_
        refine w_region rfl (by simp (disch := (apply Apart.mk; decide)) only [go_sem, Nat.reduceAdd, Nat.reduceLT, Nat.reduceMul, Nat.reduceLeDiff, Int.reduceToNat, Int.reduceLT, Int.reduceLE, ha0, on_atB hl0, lt_add hl0, lt_at hl0, ha3, on_atB hl3, lt_add hl3, lt_at hl3, on_updB hl0, on_atU hl0, on_updU hl0, upd_same ha0, on_updB hl3, on_atU hl3, on_updU hl3, upd_same ha3, upd_ne hn0_3, upd_ne (Ne.symm hn0_3), upd_swap hn0_3, on_atUU hl0, on_atUU hl3, on_updUU hl0, on_updUU hl3, cF10, cF11]; rfl) ?_
        refine w_n ?_
        refine w_seq ?_
        refine w_region rfl (by simp (disch := (apply Apart.mk; decide)) only [go_sem, Nat.reduceAdd, Nat.reduceLT, Nat.reduceMul, Nat.reduceLeDiff, Int.reduceToNat, Int.reduceLT, Int.reduceLE, ha0, on_atB hl0, lt_add hl0, lt_at hl0, ha3, on_atB hl3, lt_add hl3, lt_at hl3, on_updB hl0, on_atU hl0, on_updU hl0, upd_same ha0, on_updB hl3, on_atU hl3, on_updU hl3, upd_same ha3, upd_ne hn0_3, upd_ne (Ne.symm hn0_3), upd_swap hn0_3, on_atUU hl0, on_atUU hl3, on_updUU hl0, on_updUU hl3, cF10, cF11]; rfl) ?_
        refine w_n ?_
        refine w_drawn [0, 1, 2, 3, 4, 5, 6, 7, 8, 9, 10] (by rfl) ?_
        obtain ⟨nF12, hr⟩ := hr.room
        refine p_run (l := [0, 1, 2, 3, 4, 5, 6]) (pend' := [6, 5, 4, 3, 2, 1, 0]) (by simp (disch := (apply Apart.mk; decide)) only [go_sem, Nat.reduceAdd, Nat.reduceLT, Nat.reduceMul, Nat.reduceLeDiff, Int.reduceToNat, Int.reduceLT, Int.reduceLE, ha0, on_atB hl0, lt_add hl0, lt_at hl0, ha3, on_atB hl3, lt_add hl3, lt_at hl3, on_updB hl0, on_atU hl0, on_updU hl0, upd_same ha0, on_updB hl3, on_atU hl3, on_updU hl3, upd_same ha3, upd_ne hn0_3, upd_ne (Ne.symm hn0_3), upd_swap hn0_3, on_atUU hl0, on_atUU hl3, on_updUU hl0, on_updUU hl3, nF12]; rfl) rfl ?_
        refine p_op (pend' := [0]) rfl (by simp (disch := (apply Apart.mk; decide)) only [go_sem, Nat.reduceAdd, Nat.reduceLT, Nat.reduceMul, Nat.reduceLeDiff, Int.reduceToNat, Int.reduceLT, Int.reduceLE, ha0, on_atB hl0, lt_add hl0, lt_at hl0, ha3, on_atB hl3, lt_add hl3, lt_at hl3, on_updB hl0, on_atU hl0, on_updU hl0, upd_same ha0, on_updB hl3, on_atU hl3, on_updU hl3, upd_same ha3, upd_ne hn0_3, upd_ne (Ne.symm hn0_3), upd_swap hn0_3, on_atUU hl0, on_atUU hl3, on_updUU hl0, on_updUU hl3, nF12]) (by simp (disch := (apply Apart.mk; decide)) only [go_sem, Nat.reduceAdd, Nat.reduceLT, Nat.reduceMul, Nat.reduceLeDiff, Int.reduceToNat, Int.reduceLT, Int.reduceLE, ha0, on_atB hl0, lt_add hl0, lt_at hl0, ha3, on_atB hl3, lt_add hl3, lt_at hl3, on_updB hl0, on_atU hl0, on_updU hl0, upd_same ha0, on_updB hl3, on_atU hl3, on_updU hl3, upd_same ha3, upd_ne hn0_3, upd_ne (Ne.symm hn0_3), upd_swap hn0_3, on_atUU hl0, on_atUU hl3, on_updUU hl0, on_updUU hl3, nF12]; rfl) (by rfl) ?_
        refine p_run (l := [8, 9]) (pend' := [9, 8, 0]) (by simp (disch := (apply Apart.mk; decide)) only [go_sem, Nat.reduceAdd, Nat.reduceLT, Nat.reduceMul, Nat.reduceLeDiff, Int.reduceToNat, Int.reduceLT, Int.reduceLE, ha0, on_atB hl0, lt_add hl0, lt_at hl0, ha3, on_atB hl3, lt_add hl3, lt_at hl3, on_updB hl0, on_atU hl0, on_updU hl0, upd_same ha0, on_updB hl3, on_atU hl3, on_updU hl3, upd_same ha3, upd_ne hn0_3, upd_ne (Ne.symm hn0_3), upd_swap hn0_3, on_atUU hl0, on_atUU hl3, on_updUU hl0, on_updUU hl3, nF12]; rfl) rfl ?_
        refine p_op (pend' := []) rfl (by simp (disch := (apply Apart.mk; decide)) only [go_sem, Nat.reduceAdd, Nat.reduceLT, Nat.reduceMul, Nat.reduceLeDiff, Int.reduceToNat, Int.reduceLT, Int.reduceLE, ha0, on_atB hl0, lt_add hl0, lt_at hl0, ha3, on_atB hl3, lt_add hl3, lt_at hl3, on_updB hl0, on_atU hl0, on_updU hl0, upd_same ha0, on_updB hl3, on_atU hl3, on_updU hl3, upd_same ha3, upd_ne hn0_3, upd_ne (Ne.symm hn0_3), upd_swap hn0_3, on_atUU hl0, on_atUU hl3, on_updUU hl0, on_updUU hl3, nF12]) (by simp (disch := (apply Apart.mk; decide)) only [go_sem, Nat.reduceAdd, Nat.reduceLT, Nat.reduceMul, Nat.reduceLeDiff, Int.reduceToNat, Int.reduceLT, Int.reduceLE, ha0, on_atB hl0, lt_add hl0, lt_at hl0, ha3, on_atB hl3, lt_add hl3, lt_at hl3, on_updB hl0, on_atU hl0, on_updU hl0, upd_same ha0, on_updB hl3, on_atU hl3, on_updU hl3, upd_same ha3, upd_ne hn0_3, upd_ne (Ne.symm hn0_3), upd_swap hn0_3, on_atUU hl0, on_atUU hl3, on_updUU hl0, on_updUU hl3, nF12]; rfl) (by rfl) ?_
        refine p_end (by simp (disch := (apply Apart.mk; decide)) only [go_sem, Nat.reduceAdd, Nat.reduceLT, Nat.reduceMul, Nat.reduceLeDiff, Int.reduceToNat, Int.reduceLT, Int.reduceLE, ha0, on_atB hl0, lt_add hl0, lt_at hl0, ha3, on_atB hl3, lt_add hl3, lt_at hl3, on_updB hl0, on_atU hl0, on_updU hl0, upd_same ha0, on_updB hl3, on_atU hl3, on_updU hl3, upd_same ha3, upd_ne hn0_3, upd_ne (Ne.symm hn0_3), upd_swap hn0_3, on_atUU hl0, on_atUU hl3, on_updUU hl0, on_updUU hl3, nF12]) ?_
        exact (w_k ⟨((t.first.length : Int), (t.first ++ ([b])), (aput b (t.first.length : Int) known)), hr, (To.cut (h := ((h.upd l0 (.cells (avals eU t.like ++ ([.row 143 (List.map (eA eU) (t.first ++ ([b])))] : List CV)))).upd l3 (.map 143 (encM (eA eU) eI (aput b (t.first.length : Int) known))))) (WF.upd (WF.upd hwf hl0 (by simp (disch := (apply Apart.mk; decide)) only [go_sem, Nat.reduceAdd, Nat.reduceLT, Nat.reduceMul, Nat.reduceLeDiff, Int.reduceToNat, Int.reduceLT, Int.reduceLE, ha0, on_atB hl0, lt_add hl0, lt_at hl0, ha3, on_atB hl3, lt_add hl3, lt_at hl3, on_updB hl0, on_atU hl0, on_updU hl0, upd_same ha0, on_updB hl3, on_atU hl3, on_updU hl3, upd_same ha3, upd_ne hn0_3, upd_ne (Ne.symm hn0_3), upd_swap hn0_3, on_atUU hl0, on_atUU hl3, on_updUU hl0, on_updUU hl3])) hl3 (by simp (disch := (apply Apart.mk; decide)) only [go_sem, Nat.reduceAdd, Nat.reduceLT, Nat.reduceMul, Nat.reduceLeDiff, Int.reduceToNat, Int.reduceLT, Int.reduceLE, ha0, on_atB hl0, lt_add hl0, lt_at hl0, ha3, on_atB hl3, lt_add hl3, lt_at hl3, on_updB hl0, on_atU hl0, on_updU hl0, upd_same ha0, on_updB hl3, on_atU hl3, on_updU hl3, upd_same ha3, upd_ne hn0_3, upd_ne (Ne.symm hn0_3), upd_swap hn0_3, on_atUU hl0, on_atUU hl3, on_updUU hl0, on_updUU hl3])) (Nat.le_refl _) (by first | rfl | (simp (disch := (apply Apart.mk; decide)) only [go_sem, Nat.reduceAdd, Nat.reduceLT, Nat.reduceMul, Nat.reduceLeDiff, Int.reduceToNat, Int.reduceLT, Int.reduceLE, ha0, on_atB hl0, lt_add hl0, lt_at hl0, ha3, on_atB hl3, lt_add hl3, lt_at hl3, on_updB hl0, on_atU hl0, on_updU hl0, upd_same ha0, on_updB hl3, on_atU hl3, on_updU hl3, upd_same ha3, upd_ne hn0_3, upd_ne (Ne.symm hn0_3), upd_swap hn0_3, on_atUU hl0, on_atUU hl3, on_updUU hl0, on_updUU hl3, cF10, cF11]; rfl)) (by simp (disch := (apply Apart.mk; decide)) only [go_sem, Nat.reduceAdd, Nat.reduceLT, Nat.reduceMul, Nat.reduceLeDiff, Int.reduceToNat, Int.reduceLT, Int.reduceLE, ha0, on_atB hl0, lt_add hl0, lt_at hl0, ha3, on_atB hl3, lt_add hl3, lt_at hl3, on_updB hl0, on_atU hl0, on_updU hl0, upd_same ha0, on_updB hl3, on_atU hl3, on_updU hl3, upd_same ha3, upd_ne hn0_3, upd_ne (Ne.symm hn0_3), upd_swap hn0_3, on_atUU hl0, on_atUU hl3, on_updUU hl0, on_updUU hl3, cF10, cF11]))⟩)
    · refine w_skip ?_
      exact (w_k ⟨(((aget b known).getD (0 : Int)), t.first, known), hr, (To.cut (h := ((h.upd l0 (.cells (avals eU t.like ++ ([.row 143 (List.map (eA eU) t.first)] : List CV)))).upd l3 (.map 143 (encM (eA eU) eI known)))) (WF.upd (WF.upd hwf hl0 (by simp (disch := (apply Apart.mk; decide)) only [go_sem, Nat.reduceAdd, Nat.reduceLT, Nat.reduceMul, Nat.reduceLeDiff, Int.reduceToNat, Int.reduceLT, Int.reduceLE, ha0, on_atB hl0, lt_add hl0, lt_at hl0, ha3, on_atB hl3, lt_add hl3, lt_at hl3, on_updB hl0, on_atU hl0, on_updU hl0, upd_same ha0, on_updB hl3, on_atU hl3, on_updU hl3, upd_same ha3, upd_ne hn0_3, upd_ne (Ne.symm hn0_3), upd_swap hn0_3, on_atUU hl0, on_atUU hl3, on_updUU hl0, on_updUU hl3])) hl3 (by simp (disch := (apply Apart.mk; decide)) only [go_sem, Nat.reduceAdd, Nat.reduceLT, Nat.reduceMul, Nat.reduceLeDiff, Int.reduceToNat, Int.reduceLT, Int.reduceLE, ha0, on_atB hl0, lt_add hl0, lt_at hl0, ha3, on_atB hl3, lt_add hl3, lt_at hl3, on_updB hl0, on_atU hl0, on_updU hl0, upd_same ha0, on_updB hl3, on_atU hl3, on_updU hl3, upd_same ha3, upd_ne hn0_3, upd_ne (Ne.symm hn0_3), upd_swap hn0_3, on_atUU hl0, on_atUU hl3, on_updUU hl0, on_updUU hl3])) (Nat.le_refl _) (by first | rfl | (simp (disch := (apply Apart.mk; decide)) only [go_sem, Nat.reduceAdd, Nat.reduceLT, Nat.reduceMul, Nat.reduceLeDiff, Int.reduceToNat, Int.reduceLT, Int.reduceLE, ha0, on_atB hl0, lt_add hl0, lt_at hl0, ha3, on_atB hl3, lt_add hl3, lt_at hl3, on_updB hl0, on_atU hl0, on_updU hl0, upd_same ha0, on_updB hl3, on_atU hl3, on_updU hl3, upd_same ha3, upd_ne hn0_3, upd_ne (Ne.symm hn0_3), upd_swap hn0_3, on_atUU hl0, on_atUU hl3, on_updUU hl0, on_updUU hl3, cF10]; rfl)) (by simp (disch := (apply Apart.mk; decide)) only [go_sem, Nat.reduceAdd, Nat.reduceLT, Nat.reduceMul, Nat.reduceLeDiff, Int.reduceToNat, Int.reduceLT, Int.reduceLE, ha0, on_atB hl0, lt_add hl0, lt_at hl0, ha3, on_atB hl3, lt_add hl3, lt_at hl3, on_updB hl0, on_atU hl0, on_updU hl0, upd_same ha0, on_updB hl3, on_atU hl3, on_updU hl3, upd_same ha3, upd_ne hn0_3, upd_ne (Ne.symm hn0_3), upd_swap hn0_3, on_atUU hl0, on_atUU hl3, on_updUU hl0, on_updUU hl3, cF10]))⟩)
end Go.Val

/- part JW68 -/
/- scansion/trie.Build runs as it is read off. -/
namespace Go.Val
set_option linter.unusedVariables false
set_option linter.unusedSimpArgs false
set_option maxRecDepth 20000
open Go.Proofs
theorem trie_Build_runs (l : List TProp) {h : Heap} {a : (Option Ttrie_Trie × Int)} (e : trie_Build l = some a) :
    Runs CT 68 [.cv (.val (.sl (List.map eProp l)))] h fun o h' => match a.1 with | none => o = [.cv (.val (.ptr none)), .cv (.val (.int .i64 a.2))] ∧ h' = h | some y => o = [.cv (.val (.ptr (some (h.n + 0, 0)))), .cv (.val (.int .i64 a.2))] ∧ h' = h.on [some (.cells (avals eU y.like ++ ([.val (.sl (List.map (eA eU) y.first))] : List CV)))] := by
  refine Runs.start Try.f68 _ Try.func68 rfl (by rw [Try.ntmps68]; simp) (by rfl) (by rfl) (fun hwf hu => ?_)
  obtain ⟨D, hD, hr⟩ : ∃ D : (Option Ttrie_Trie × Int) → Prop, (∀ z, D z → z = a) ∧ Holds (trie_Build l) D := ⟨fun z => z = a, fun _ h => h, Holds.intro e rfl⟩
  dsimp only [trie_Build] at hr
  change wpCode _ _ _ _ _ ⟨[(0, .cv (.val (.sl (List.map eProp l))))], h.on []⟩
  refine w_seq ?_
  refine A_region ?_
  refine w_n ?_
  refine w_seq ?_
  refine w_seq ?_
  refine A_region ?_
  refine w_n ?_
  refine A_condH hr (fun cF1 hr => ?_) (fun cF1 hr => ?_)
  · refine w_seq ?_
    refine A_region ?_
    refine w_n ?_
    refine w_ret ?_
    obtain rfl := hD _ hr
    exact (w_tr (A_endR (A_cut (os' := []) (sl := [(2, .cv (.val (.ptr none))), (3, .cv (.val (.int .i64 (3 : Int))))]) hwf) ⟨rfl, on_nil hwf⟩))
  · refine w_skip ?_
    refine w_n ?_
    refine w_seq ?_
    refine A_region ?_
    refine w_n ?_
    refine w_seq ?_
    refine w_seq ?_
    refine A_ops ?_
    refine A_upto 2 ?_
    obtain ⟨r, eF2, hr⟩ := hr.bind
    refine A_call (out := ?o_eF2) (hp := ?p_eF2) ?c_eF2 ?d_eF2 ?_
    case c_eF2 => (refine slices_ContainsFunc_api_Prop_api_Prop_runs l (trie_Build_1) _ _ ?_ ?_ eF2; (exact (fun os x0 r e => trie_Build_1_runs x0 e)); (exact (fun i => by simp [CT])))
    case d_eF2 => rfl
    refine w_ops_nil ?_
    refine w_n ?_
    refine A_condH hr (fun cF3 hr => ?_) (fun cF3 hr => ?_)
    · refine w_seq ?_
      refine A_region ?_
      refine w_n ?_
      refine w_ret ?_
      obtain rfl := hD _ hr
      exact (w_tr (A_endR (A_cut (os' := []) (sl := [(2, .cv (.val (.ptr none))), (3, .cv (.val (.int .i64 (1 : Int))))]) hwf) ⟨rfl, on_nil hwf⟩))
    · refine w_skip ?_
      refine w_n ?_
      refine w_seq ?_
      refine A_region ?_
      refine w_n ?_
      refine w_seq ?_
      refine A_region ?_
      refine w_n ?_
      refine w_seq ?_
      refine w_seq ?_
      refine A_region ?_
      refine w_n ?_
      refine w_K (D := D) (fun xX : (Vector UInt8 4352 × List (Vector UInt8 256)) => ⟨[(5, .cv (.val (.ptr (some (h.n + 0, 0)))))], h.on [some (.cells (avals eU xX.1 ++ ([.row 143 (List.map (eA eU) xX.2)] : List CV)))]⟩) (fun xX : (Vector UInt8 4352 × List (Vector UInt8 256)) => trie_Build.k1 xX.1 xX.2) (fun xX s' hr ht => ?_) ?_
      · obtain ⟨like, like1⟩ := xX
        dsimp only [trie_Build.k1] at hr ht
        refine (w_nT ht ?_)
        refine w_seq ?_
        refine A_region ?_
        refine w_n ?_
        refine w_ret ?_
        obtain rfl := hD _ hr
        exact (w_endR (.fix _ _ (.cell (h.n + 0) 4352) 143 _ (by simp (disch := (apply Apart.mk; decide)) only [go_sem, Nat.reduceAdd, Nat.reduceLT, Nat.reduceMul, Nat.reduceLeDiff, Int.reduceToNat, Int.reduceLT, Int.reduceLE, cF1, cF3]; rfl) (A_cut (os' := [some (.cells (avals eU like ++ ([.val (.sl (List.map (eA eU) like1))] : List CV)))]) (sl := [(2, .cv (.val (.ptr (some (h.n + 0, 0))))), (3, .cv (.val (.int .i64 (0 : Int))))]) hwf)) (by simp (disch := (apply Apart.mk; decide)) only [go_sem, Nat.reduceAdd, Nat.reduceLT, Nat.reduceMul, Nat.reduceLeDiff, Int.reduceToNat, Int.reduceLT, Int.reduceLE, Try.results68, results_data CT_gives68, resCell, resVal.eq_2, loadOp_sv, cF1, cF3]) ⟨rfl, rfl⟩)
      · refine w_block ?_
        refine w_Loop (fun xX : (Int × Vector UInt8 4352 × List (Vector UInt8 256) × List (Vector UInt8 256 × Int)) => ⟨[(0, .cv (.val (.sl (List.map eProp l)))), (5, .cv (.val (.ptr (some (h.n + 0, 0))))), (6, .cv (.val (.map (some (h.n + 1))))), (22, .cv (.val (.int .i64 xX.1)))], h.on [some (.cells (avals eU xX.2.1 ++ ([.row 143 (List.map (eA eU) xX.2.2.1)] : List CV))), some (.map 143 (encM (eA eU) eI xX.2.2.2))]⟩) hr (A_cut hwf) (fun W1 xX hr => ?_)
        obtain ⟨v, like2, like3, m⟩ := xX
        dsimp only [trie_Build.b1] at hr
        refine w_seq ?_
        refine A_region ?_
        refine w_n ?_
        refine w_seq ?_
        refine A_condH hr (fun cF4 hr => ?_) (fun cF4 hr => ?_)
        · refine w_skip ?_
          refine w_n ?_
          refine w_seq ?_
          refine w_K (D := (Aft W1 D)) (fun xX : (Vector UInt8 4352 × List (Vector UInt8 256) × List (Vector UInt8 256 × Int)) => ⟨[(0, .cv (.val (.sl (List.map eProp l)))), (5, .cv (.val (.ptr (some (h.n + 0, 0))))), (6, .cv (.val (.map (some (h.n + 1))))), (22, .cv (.val (.int .i64 v)))], h.on [some (.cells (avals eU xX.1 ++ ([.row 143 (List.map (eA eU) xX.2.1)] : List CV))), some (.map 143 (encM (eA eU) eI xX.2.2))]⟩) (fun xX : (Vector UInt8 4352 × List (Vector UInt8 256) × List (Vector UInt8 256 × Int)) => trie_Build.k2 v xX.1 xX.2.1 xX.2.2) (fun xX s' hr ht => ?_) ?_
          · obtain ⟨like4, like5, m1⟩ := xX
            dsimp only [trie_Build.k2] at hr ht
            refine (w_nT ht ?_)
            refine A_region ?_
            exact (w_k ⟨((IntKind.i64.wrap (v + (1 : Int))), like4, like5, m1), hr, (A_cut hwf)⟩)
          · refine w_block ?_
            refine w_seq ?_
            refine A_region ?_
            refine w_n ?_
            refine w_seq ?_
            refine A_region ?_
            refine w_n ?_
            refine w_seq ?_
            refine A_region ?_
            refine w_n ?_
            refine w_seq ?_
            refine w_seq ?_
            refine A_region ?_
            refine w_n ?_
            refine w_K (D := (Aft W1 D)) (fun xX : Vector UInt8 256 => ⟨[(0, .cv (.val (.sl (List.map eProp l)))), (5, .cv (.val (.ptr (some (h.n + 0, 0))))), (6, .cv (.val (.map (some (h.n + 1))))), (7, .cv (.val (.int .i64 v))), (8, .cv (.val (.ptr (some (h.n + 2, 0))))), (22, .cv (.val (.int .i64 v)))], h.on [some (.cells (avals eU like2 ++ ([.row 143 (List.map (eA eU) like3)] : List CV))), some (.map 143 (encM (eA eU) eI m)), some (.cells (avals eU xX))]⟩) (fun xX : Vector UInt8 256 => trie_Build.k3 v like2 like3 m xX) (fun xX s' hr ht => ?_) ?_
            · obtain ⟨v1, rfl⟩ : ∃ z, z = xX := ⟨xX, rfl⟩
              dsimp only [trie_Build.k3] at hr ht
              refine (w_nT ht ?_)
              refine w_seq ?_
              refine A_ops ?_
              refine A_upto 4 ?_
              obtain ⟨r1, eF5, hr⟩ := hr.bind
              refine A_call (out := ?o_eF5) (hp := ?p_eF5) ?c_eF5 ?d_eF5 ?_
              case c_eF5 => (refine trie_Trie_add_runs (Ttrie_Trie.mk like2 like3) v v1 m (h.n + 0) (h.n + 1) ?_ ?_ ?_ eF5; (simp (disch := (apply Apart.mk; decide)) only [go_sem, Nat.reduceAdd, Nat.reduceLT, Nat.reduceMul, Nat.reduceLeDiff, Int.reduceToNat, Int.reduceLT, Int.reduceLE]); (simp (disch := (apply Apart.mk; decide)) only [go_sem, Nat.reduceAdd, Nat.reduceLT, Nat.reduceMul, Nat.reduceLeDiff, Int.reduceToNat, Int.reduceLT, Int.reduceLE]); (first | omega | assumption | exact Ne.symm (by assumption)))
              case d_eF5 => rfl
              refine A_ops_end ?_
              refine w_n ?_
              refine A_condH hr (fun cF6 hr => ?_) (fun cF6 hr => ?_)
              · refine w_seq ?_
                refine A_region ?_
                refine w_n ?_
                refine w_ret ?_
                obtain rfl := hD _ hr
                exact (w_br (w_tr (w_tr (w_tr (w_br (w_tr (w_tr (A_endR (A_cut (os' := []) (sl := [(2, .cv (.val (.ptr none))), (3, .cv (.val (.int .i64 (3 : Int))))]) hwf) ⟨rfl, on_nil hwf⟩))))))))
              · refine w_skip ?_
                exact (w_bn (w_k ⟨(r1.2.1.like, r1.2.1.first, r1.2.2), hr, (A_cut hwf)⟩))
            · refine w_block ?_
              refine w_Loop (fun xX : (Int × Vector UInt8 256) => ⟨[(0, .cv (.val (.sl (List.map eProp l)))), (5, .cv (.val (.ptr (some (h.n + 0, 0))))), (6, .cv (.val (.map (some (h.n + 1))))), (7, .cv (.val (.int .i64 v))), (8, .cv (.val (.ptr (some (h.n + 2, 0))))), (9, .cv (.val (.int .i64 (IntKind.i64.wrap (v * (256 : Int)))))), (22, .cv (.val (.int .i64 v))), (27, .cv (.val (.sl (List.map eProp l)))), (28, .cv (.val (.int .i64 (l.length : Int)))), (29, .cv (.val (.int .i64 xX.1)))], h.on [some (.cells (avals eU like2 ++ ([.row 143 (List.map (eA eU) like3)] : List CV))), some (.map 143 (encM (eA eU) eI m)), some (.cells (avals eU xX.2))]⟩) hr (A_cut hwf) (fun W2 xX hr => ?_)
              obtain ⟨v2, v3⟩ := xX
              dsimp only [trie_Build.b2] at hr
              refine w_seq ?_
              refine A_region ?_
              refine w_n ?_
              refine w_seq ?_
              refine A_condH hr (fun cF7 hr => ?_) (fun cF7 hr => ?_)
              · refine w_skip ?_
                refine w_n ?_
                refine w_seq ?_
                refine w_K (D := (Aft W2 (Aft W1 D))) (fun xX : Vector UInt8 256 => ⟨[(0, .cv (.val (.sl (List.map eProp l)))), (5, .cv (.val (.ptr (some (h.n + 0, 0))))), (6, .cv (.val (.map (some (h.n + 1))))), (7, .cv (.val (.int .i64 v))), (8, .cv (.val (.ptr (some (h.n + 2, 0))))), (9, .cv (.val (.int .i64 (IntKind.i64.wrap (v * (256 : Int)))))), (22, .cv (.val (.int .i64 v))), (27, .cv (.val (.sl (List.map eProp l)))), (28, .cv (.val (.int .i64 (l.length : Int)))), (29, .cv (.val (.int .i64 v2)))], h.on [some (.cells (avals eU like2 ++ ([.row 143 (List.map (eA eU) like3)] : List CV))), some (.map 143 (encM (eA eU) eI m)), some (.cells (avals eU xX))]⟩) (fun xX : Vector UInt8 256 => trie_Build.k4 v2 xX) (fun xX s' hr ht => ?_) ?_
                · obtain ⟨v4, rfl⟩ : ∃ z, z = xX := ⟨xX, rfl⟩
                  dsimp only [trie_Build.k4] at hr ht
                  refine (w_nT ht ?_)
                  refine A_region ?_
                  exact (w_k ⟨((IntKind.i64.wrap (v2 + (1 : Int))), v4), hr, (A_cut hwf)⟩)
                · refine w_block ?_
                  refine w_seq ?_
                  obtain ⟨x, nF8, eF9, gF10, hr⟩ := hr.idx
                  refine A_region ?_
                  refine w_n ?_
                  refine w_seq ?_
                  refine A_region ?_
                  refine w_n ?_
                  refine w_block ?_
                  refine w_Loop (fun xX : (Int × Vector UInt8 256) => ⟨[(0, .cv (.val (.sl (List.map eProp l)))), (5, .cv (.val (.ptr (some (h.n + 0, 0))))), (6, .cv (.val (.map (some (h.n + 1))))), (7, .cv (.val (.int .i64 v))), (8, .cv (.val (.ptr (some (h.n + 2, 0))))), (9, .cv (.val (.int .i64 (IntKind.i64.wrap (v * (256 : Int)))))), (11, .cv (.val (.ptr (some (h.n + 3, 0))))), (12, .cv (.val (.int .i64 xX.1))), (22, .cv (.val (.int .i64 v))), (27, .cv (.val (.sl (List.map eProp l)))), (28, .cv (.val (.int .i64 (l.length : Int)))), (29, .cv (.val (.int .i64 v2)))], h.on [some (.cells (avals eU like2 ++ ([.row 143 (List.map (eA eU) like3)] : List CV))), some (.map 143 (encM (eA eU) eI m)), some (.cells (avals eU xX.2)), some (.cells [.val (.int .i64 x.Low), .val (.int .i64 x.High), .val (.int .u8 (x.Value.toNat : Int))])]⟩) hr (A_cut hwf) (fun W3 xX hr => ?_)
                  obtain ⟨r2, v5⟩ := xX
                  dsimp only [trie_Build.b3] at hr
                  refine w_seq ?_
                  refine w_seq ?_
                  refine A_region ?_
                  refine w_n ?_
                  refine A_condH hr (fun cF11 hr => ?_) (fun cF11 hr => ?_)
                  · refine w_skip ?_
                    refine w_n ?_
                    refine w_seq ?_
                    refine w_block ?_
                    obtain ⟨n, nF12, eF13, gF14, hr⟩ := hr.idx
                    have qF15 : (Int.toNat (IntKind.i64.wrap (r2 - (IntKind.i64.wrap (v * (256 : Int))))) < 256) = True := eq_true (lt_vec eF13)
                    have qF16 : (avals eU v5).set (Int.toNat (IntKind.i64.wrap (r2 - (IntKind.i64.wrap (v * (256 : Int)))))) (.val (.int .u8 (x.Value.toNat : Int))) = avals eU (vset v5 (IntKind.i64.wrap (r2 - (IntKind.i64.wrap (v * (256 : Int))))) x.Value) := by have q := (set_avals (e := eU) (v := v5) (i := (IntKind.i64.wrap (r2 - (IntKind.i64.wrap (v * (256 : Int)))))) (x := x.Value)); exact q
                    have qF17 : (avals eU v5).getD (Int.toNat (IntKind.i64.wrap (r2 - (IntKind.i64.wrap (v * (256 : Int)))))) .dead = .val (eU n) := getD_avals eF13
                    have qF18 : ((Int.toNat (IntKind.i64.wrap (r2 - (IntKind.i64.wrap (v * (256 : Int)))))) + 1 ≤ 256) = True := eq_true (lt_vec eF13)
                    have qF19 : ((Int.toNat (IntKind.i64.wrap (r2 - (IntKind.i64.wrap (v * (256 : Int)))))) ≤ 256) = True := eq_true (Nat.le_of_lt (lt_vec eF13))
                    refine w_region rfl (by simp (disch := (apply Apart.mk; decide)) only [go_sem, Nat.reduceAdd, Nat.reduceLT, Nat.reduceMul, Nat.reduceLeDiff, Int.reduceToNat, Int.reduceLT, Int.reduceLE, nF12, eF13, gF14, qF15, Nat.mul_one, Nat.zero_add, qF19, qF16, qF17, qF18, Nat.mul_one, Nat.zero_add, cF1, cF3, cF4, cF7, cF11]; rfl) ?_
                    refine (w_bn (w_n ?_))
                    refine A_region ?_
                    exact (w_k ⟨((IntKind.i64.wrap (r2 + (1 : Int))), (vset v5 (IntKind.i64.wrap (r2 - (IntKind.i64.wrap (v * (256 : Int))))) x.Value)), hr, (A_cut hwf)⟩)
                  · refine w_exit ?_
                    exact (w_te (w_te (w_bx (w_bn (w_k ⟨v5, (hr).map, (A_cut hwf)⟩)))))
              · refine w_exit ?_
                exact (w_te (w_te (w_bx (w_k ⟨v3, (hr).map, (A_cut hwf)⟩))))
        · refine w_exit ?_
          exact (w_te (w_te (w_bx (w_k ⟨(like2, like3), (hr).map, (A_cut hwf)⟩))))
theorem trie_Build_runs_none (l : List TProp) {h : Heap} {a : (Option Ttrie_Trie × Int)} (e : trie_Build l = some a) (hx : a.1 = none) :
    Runs CT 68 [.cv (.val (.sl (List.map eProp l)))] h fun o h' => o = [.cv (.val (.ptr none)), .cv (.val (.int .i64 a.2))] ∧ h' = h := by
  have := trie_Build_runs (h := h) l e
  rw [hx] at this
  exact this
theorem trie_Build_runs_some (l : List TProp) {h : Heap} {a : (Option Ttrie_Trie × Int)} {y : Ttrie_Trie} (e : trie_Build l = some a) (hx : a.1 = some y) :
    Runs CT 68 [.cv (.val (.sl (List.map eProp l)))] h fun o h' => o = [.cv (.val (.ptr (some (h.n + 0, 0)))), .cv (.val (.int .i64 a.2))] ∧ h' = h.on [some (.cells (avals eU y.like ++ ([.val (.sl (List.map (eA eU) y.first))] : List CV)))] := by
  have := trie_Build_runs (h := h) l e
  rw [hx] at this
  exact this
end Go.Val

/- part JW27 -/
/- scansion/alphabet.New runs as it is read off. -/
namespace Go.Val
set_option linter.unusedVariables false
set_option linter.unusedSimpArgs false
set_option maxRecDepth 20000
open Go.Proofs
theorem alphabet_New_runs (sets : List (List TRange)) {h : Heap} {a : (Option Talphabet_Alphabet × Int)} (e : alphabet_New sets = some a) :
    Runs CT 27 [.cv (.val (.sl (List.map (eL eRange) sets)))] h fun o h' => match a.1 with | none => o = [.cv (.val (.ptr none)), .cv (.val (.int .i64 a.2))] ∧ h' = h | some y => o = [.cv (.val (.ptr (some (h.n + 0, 0)))), .cv (.val (.int .i64 a.2))] ∧ h' = h.on [some (.cells [.val (.ptr (some (h.n + 1, 0))), .val (.sl (List.map (eK .u64) y.masks)), .val (.sl (List.map eI y.least))]), some (.cells (avals eU y.trie.like ++ ([.val (.sl (List.map (eA eU) y.trie.first))] : List CV)))] := by
  refine Runs.start Try.f27 _ Try.func27 rfl (by rw [Try.ntmps27]; simp) (by rfl) (by rfl) (fun hwf hu => ?_)
  obtain ⟨D, hD, hr⟩ : ∃ D : (Option Talphabet_Alphabet × Int) → Prop, (∀ z, D z → z = a) ∧ Holds (alphabet_New sets) D := ⟨fun z => z = a, fun _ h => h, Holds.intro e rfl⟩
  dsimp only [alphabet_New] at hr
  change wpCode _ _ _ _ _ ⟨[(0, .cv (.val (.sl (List.map (eL eRange) sets))))], h.on []⟩
  refine w_seq ?_
  refine A_region ?_
  refine w_n ?_
  refine w_seq ?_
  refine w_seq ?_
  refine A_region ?_
  refine w_n ?_
  refine A_condH hr (fun cF1 hr => ?_) (fun cF1 hr => ?_)
  · refine w_seq ?_
    refine A_region ?_
    refine w_n ?_
    refine w_ret ?_
    obtain rfl := hD _ hr
    exact (w_tr (A_endR (A_cut (os' := []) (sl := [(2, .cv (.val (.ptr none))), (3, .cv (.val (.int .i64 (3 : Int))))]) hwf) ⟨rfl, on_nil hwf⟩))
  · refine w_skip ?_
    refine w_n ?_
    refine w_seq ?_
    refine w_seq ?_
    refine A_region ?_
    refine w_n ?_
    refine w_K (D := D) (fun xX : Unit => ⟨[(0, .cv (.val (.sl (List.map (eL eRange) sets))))], h.on []⟩) (fun xX : Unit => alphabet_New.k1 sets) (fun xX s' hr ht => ?_) ?_
    · dsimp only [alphabet_New.k1] at hr ht
      refine (w_nT ht ?_)
      refine w_seq ?_
      refine A_region ?_
      refine w_n ?_
      refine w_seq ?_
      refine A_region ?_
      refine w_n ?_
      refine w_seq ?_
      refine A_ops ?_
      refine A_upto 1 ?_
      obtain ⟨r, eF2, hr⟩ := hr.bind
      refine A_call (out := ?o_eF2) (hp := ?p_eF2) ?c_eF2 ?d_eF2 ?_
      case c_eF2 => exact alphabet_edges_runs sets eF2
      case d_eF2 => rfl
      refine A_ops_end ?_
      refine w_n ?_
      refine w_seq ?_
      refine A_region ?_
      refine w_n ?_
      refine w_seq ?_
      refine w_seq ?_
      refine A_region ?_
      refine w_n ?_
      refine w_K (D := D) (fun xX : (List TProp × List Int × List Int) => ⟨[(8, .cv (.val (.ptr (some (h.n + 0, 0))))), (11, .cv (.row 102 (List.map eProp xX.1)))], h.on [some (.cells [.val (.ptr none), .row 49 (List.map (eK .u64) xX.2.1), .row 3 (List.map eI xX.2.2)])]⟩) (fun xX : (List TProp × List Int × List Int) => alphabet_New.k2 xX.1 xX.2.1 xX.2.2) (fun xX s' hr ht => ?_) ?_
      · obtain ⟨props, masks, least⟩ := xX
        dsimp only [alphabet_New.k2] at hr ht
        refine (w_nT ht ?_)
        refine w_seq ?_
        refine A_ops ?_
        refine A_upto 1 ?_
        obtain ⟨r1, eF3, hr⟩ := hr.bind
        try dsimp only at hr
        rcases xF6 : r1.1 with _ | y
        · rw [xF6] at hr
          dsimp only at hr
          refine A_call (out := ?o_eF3a) (hp := ?p_eF3a) ?c_eF3a ?d_eF3a ?_
          case c_eF3a => exact trie_Build_runs_none props eF3 xF6
          case d_eF3a => rfl
          refine A_ops_end ?_
          refine w_n ?_
          refine w_seq ?_
          refine w_seq ?_
          refine A_region ?_
          refine w_n ?_
          refine A_condH hr (fun cF4 hr => ?_) (fun cF4 hr => ?_)
          · refine w_seq ?_
            refine A_region ?_
            refine w_n ?_
            refine w_ret ?_
            obtain rfl := hD _ hr
            exact (w_tr (A_endR (A_cut (os' := []) (sl := [(2, .cv (.val (.ptr none))), (3, .cv (.val (.int .i64 (3 : Int))))]) hwf) ⟨rfl, on_nil hwf⟩))
          · refine w_skip ?_
            refine w_n ?_
            refine w_seq ?_
            refine A_region ?_
            refine w_n ?_
            refine w_seq ?_
            refine A_region ?_
            refine w_n ?_
            refine w_ret ?_
            exact hr.elim
        · rw [xF6] at hr
          dsimp only at hr
          refine A_call (out := ?o_eF3b) (hp := ?p_eF3b) ?c_eF3b ?d_eF3b ?_
          case c_eF3b => exact trie_Build_runs_some props eF3 xF6
          case d_eF3b => rfl
          refine A_ops_end ?_
          refine w_n ?_
          refine w_seq ?_
          refine w_seq ?_
          refine A_region ?_
          refine w_n ?_
          refine A_condH hr (fun cF5 hr => ?_) (fun cF5 hr => ?_)
          · refine w_seq ?_
            refine A_region ?_
            refine w_n ?_
            refine w_ret ?_
            obtain rfl := hD _ hr
            exact (w_tr (A_endR (A_cut (os' := []) (sl := [(2, .cv (.val (.ptr none))), (3, .cv (.val (.int .i64 (3 : Int))))]) hwf) ⟨rfl, on_nil hwf⟩))
          · refine w_skip ?_
            refine w_n ?_
            refine w_seq ?_
            refine A_region ?_
            refine w_n ?_
            refine w_seq ?_
            refine A_region ?_
            refine w_n ?_
            refine w_ret ?_
            obtain rfl := hD _ hr
            exact (w_endR (.fix _ _ (.cell (h.n + 0) 1) 49 _ (by simp (disch := (apply Apart.mk; decide)) only [go_sem, Nat.reduceAdd, Nat.reduceLT, Nat.reduceMul, Nat.reduceLeDiff, Int.reduceToNat, Int.reduceLT, Int.reduceLE, cF1, cF5]; rfl) (.fix _ _ (.cell (h.n + 0) 2) 3 _ (by simp (disch := (apply Apart.mk; decide)) only [go_sem, Nat.reduceAdd, Nat.reduceLT, Nat.reduceMul, Nat.reduceLeDiff, Int.reduceToNat, Int.reduceLT, Int.reduceLE, cF1, cF5]; rfl) (A_cut (os' := [some (.cells [.val (.ptr (some (h.n + 1, 0))), .val (.sl (List.map (eK .u64) masks)), .val (.sl (List.map eI least))]), some (.cells (avals eU y.like ++ ([.val (.sl (List.map (eA eU) y.first))] : List CV)))]) (sl := [(2, .cv (.val (.ptr (some (h.n + 0, 0))))), (3, .cv (.val (.int .i64 (0 : Int))))]) hwf))) (by simp (disch := (apply Apart.mk; decide)) only [go_sem, Nat.reduceAdd, Nat.reduceLT, Nat.reduceMul, Nat.reduceLeDiff, Int.reduceToNat, Int.reduceLT, Int.reduceLE, Try.results27, results_data CT_gives27, resCell, resVal.eq_2, loadOp_sv, cF1, cF5]) ⟨rfl, rfl⟩)
      · refine w_block ?_
        refine w_Loop (fun xX : (List TProp × Int × List Int × List Int × List (Int × Int)) => ⟨[(0, .cv (.val (.sl (List.map (eL eRange) sets)))), (8, .cv (.val (.ptr (some (h.n + 0, 0))))), (9, .cv (.val (.map (some (h.n + 1))))), (10, .cv (.val (.sl (List.map eI r)))), (11, .cv (.row 102 (List.map eProp xX.1))), (48, .cv (.val (.sl (List.map eI r)))), (49, .cv (.val (.int .i64 (r.length : Int)))), (50, .cv (.val (.int .i64 xX.2.1)))], h.on [some (.cells [.val (.ptr none), .row 49 (List.map (eK .u64) xX.2.2.1), .row 3 (List.map eI xX.2.2.2.1)]), some (.map 49 (encM (eK .u64) eI xX.2.2.2.2))]⟩) hr (A_cut hwf) (fun W1 xX hr => ?_)
        obtain ⟨props1, v, masks1, least1, m⟩ := xX
        dsimp only [alphabet_New.b1] at hr
        refine w_seq ?_
        refine A_region ?_
        refine w_n ?_
        refine w_seq ?_
        refine A_condH hr (fun cF7 hr => ?_) (fun cF7 hr => ?_)
        · refine w_skip ?_
          refine w_n ?_
          refine w_seq ?_
          refine w_block ?_
          refine w_seq ?_
          obtain ⟨n, nF8, eF9, gF10, hr⟩ := hr.idx
          refine A_region ?_
          refine w_n ?_
          refine w_seq ?_
          refine A_ops ?_
          refine A_upto 2 ?_
          obtain ⟨r2, eF11, hr⟩ := hr.bind
          refine A_call (out := ?o_eF11) (hp := ?p_eF11) ?c_eF11 ?d_eF11 ?_
          case c_eF11 => exact alphabet_mask_runs sets n eF11
          case d_eF11 => rfl
          refine A_ops_end ?_
          refine w_n ?_
          refine w_seq ?_
          refine A_region ?_
          refine w_n ?_
          refine w_seq ?_
          refine w_seq ?_
          refine A_region ?_
          refine w_n ?_
          refine w_K (D := (Aft W1 D)) (fun xX : (Int × List Int × List Int × List (Int × Int)) => ⟨[(0, .cv (.val (.sl (List.map (eL eRange) sets)))), (8, .cv (.val (.ptr (some (h.n + 0, 0))))), (9, .cv (.val (.map (some (h.n + 1))))), (10, .cv (.val (.sl (List.map eI r)))), (11, .cv (.row 102 (List.map eProp props1))), (12, .cv (.val (.int .i64 v))), (13, .cv (.val (.int .i64 n))), (15, .cv (.val (.int .i64 xX.1))), (48, .cv (.val (.sl (List.map eI r)))), (49, .cv (.val (.int .i64 (r.length : Int)))), (50, .cv (.val (.int .i64 v)))], h.on [some (.cells [.val (.ptr none), .row 49 (List.map (eK .u64) xX.2.1), .row 3 (List.map eI xX.2.2.1)]), some (.map 49 (encM (eK .u64) eI xX.2.2.2))]⟩) (fun xX : (Int × List Int × List Int × List (Int × Int)) => alphabet_New.k3 r props1 v n xX.1 xX.2.1 xX.2.2.1 xX.2.2.2) (fun xX s' hr ht => ?_) ?_
          · obtain ⟨class_, masks2, least2, m1⟩ := xX
            dsimp only [alphabet_New.k3] at hr ht
            refine (w_nT ht ?_)
            refine w_seq ?_
            refine w_seq ?_
            refine A_region ?_
            refine w_n ?_
            refine A_condH hr (fun cF12 hr => ?_) (fun cF12 hr => ?_)
            · refine w_seq ?_
              refine A_region ?_
              refine w_n ?_
              refine w_ret ?_
              obtain rfl := hD _ hr
              exact (w_tr (w_br (w_tr (w_tr (w_br (w_tr (w_tr (A_endR (A_cut (os' := []) (sl := [(2, .cv (.val (.ptr none))), (3, .cv (.val (.int .i64 (3 : Int))))]) hwf) ⟨rfl, on_nil hwf⟩))))))))
            · refine w_skip ?_
              refine w_n ?_
              refine w_seq ?_
              refine A_region ?_
              refine w_n ?_
              refine w_seq ?_
              refine w_seq ?_
              refine A_region ?_
              refine w_n ?_
              refine w_K (D := (Aft W1 D)) (fun xX : Int => ⟨[(0, .cv (.val (.sl (List.map (eL eRange) sets)))), (8, .cv (.val (.ptr (some (h.n + 0, 0))))), (9, .cv (.val (.map (some (h.n + 1))))), (10, .cv (.val (.sl (List.map eI r)))), (11, .cv (.row 102 (List.map eProp props1))), (13, .cv (.val (.int .i64 n))), (15, .cv (.val (.int .i64 class_))), (17, .cv (.val (.int .i64 xX))), (48, .cv (.val (.sl (List.map eI r)))), (49, .cv (.val (.int .i64 (r.length : Int)))), (50, .cv (.val (.int .i64 v)))], h.on [some (.cells [.val (.ptr none), .row 49 (List.map (eK .u64) masks2), .row 3 (List.map eI least2)]), some (.map 49 (encM (eK .u64) eI m1))]⟩) (fun xX : Int => alphabet_New.k4 props1 v n class_ masks2 least2 m1 xX) (fun xX s' hr ht => ?_) ?_
              · obtain ⟨high, rfl⟩ : ∃ z, z = xX := ⟨xX, rfl⟩
                dsimp only [alphabet_New.k4] at hr ht
                refine (w_nT ht ?_)
                obtain ⟨nF13, hr⟩ := hr.room
                refine A_region ?_
                refine (w_bn (w_n ?_))
                refine A_region ?_
                exact (w_k ⟨((props1 ++ ([(TProp.mk n high (u8 (IntKind.u8.wrap class_)))])), (IntKind.i64.wrap (v + (1 : Int))), masks2, least2, m1), hr, (A_cut hwf)⟩)
              · refine A_condH hr (fun cF14 hr => ?_) (fun cF14 hr => ?_)
                · obtain ⟨n1, nF15, eF16, gF17, hr⟩ := hr.idx
                  refine A_region ?_
                  exact (w_k ⟨(IntKind.i64.wrap (n1 - (1 : Int))), hr, (A_cut hwf)⟩)
                · refine w_skip ?_
                  exact (w_k ⟨(1114111 : Int), hr, (A_cut hwf)⟩)
          · refine A_condH hr (fun cF18 hr => ?_) (fun cF18 hr => ?_)
            · refine w_seq ?_
              refine A_region ?_
              refine w_n ?_
              refine w_seq ?_
              refine A_region ?_
              refine w_n ?_
              refine w_drawn [0, 1, 2, 3, 4, 5, 6, 7, 9, 10, 11, 12, 13, 14, 8, 15, 16, 17, 18, 19, 20, 21] (by rfl) ?_
              obtain ⟨nF19, hr⟩ := hr.room
              obtain ⟨nF20, hr⟩ := hr.room
              refine p_run (l := [0, 1, 2, 3, 4, 5, 6, 7, 9, 10, 11, 12, 13, 14]) (pend' := [14, 13, 12, 11, 10, 9, 7, 6, 5, 4, 3, 2, 1, 0]) (by simp (disch := (apply Apart.mk; decide)) only [go_sem, Nat.reduceAdd, Nat.reduceLT, Nat.reduceMul, Nat.reduceLeDiff, Int.reduceToNat, Int.reduceLT, Int.reduceLE, nF19, nF20]; rfl) rfl ?_
              refine p_op (pend' := [14, 13, 12, 11, 10, 9, 1, 0]) rfl (by simp (disch := (apply Apart.mk; decide)) only [go_sem, Nat.reduceAdd, Nat.reduceLT, Nat.reduceMul, Nat.reduceLeDiff, Int.reduceToNat, Int.reduceLT, Int.reduceLE, nF19, nF20]) (by simp (disch := (apply Apart.mk; decide)) only [go_sem, Nat.reduceAdd, Nat.reduceLT, Nat.reduceMul, Nat.reduceLeDiff, Int.reduceToNat, Int.reduceLT, Int.reduceLE, nF19, nF20]; rfl) (by rfl) ?_
              refine p_op (pend' := [1, 0]) rfl (by simp (disch := (apply Apart.mk; decide)) only [go_sem, Nat.reduceAdd, Nat.reduceLT, Nat.reduceMul, Nat.reduceLeDiff, Int.reduceToNat, Int.reduceLT, Int.reduceLE, nF19, nF20]) (by simp (disch := (apply Apart.mk; decide)) only [go_sem, Nat.reduceAdd, Nat.reduceLT, Nat.reduceMul, Nat.reduceLeDiff, Int.reduceToNat, Int.reduceLT, Int.reduceLE, nF19, nF20]; rfl) (by rfl) ?_
              refine p_run (l := [16, 17]) (pend' := [17, 16, 1, 0]) (by simp (disch := (apply Apart.mk; decide)) only [go_sem, Nat.reduceAdd, Nat.reduceLT, Nat.reduceMul, Nat.reduceLeDiff, Int.reduceToNat, Int.reduceLT, Int.reduceLE, nF19, nF20]; rfl) rfl ?_
              refine p_op (pend' := [1]) rfl (by simp (disch := (apply Apart.mk; decide)) only [go_sem, Nat.reduceAdd, Nat.reduceLT, Nat.reduceMul, Nat.reduceLeDiff, Int.reduceToNat, Int.reduceLT, Int.reduceLE, nF19, nF20]) (by simp (disch := (apply Apart.mk; decide)) only [go_sem, Nat.reduceAdd, Nat.reduceLT, Nat.reduceMul, Nat.reduceLeDiff, Int.reduceToNat, Int.reduceLT, Int.reduceLE, nF19, nF20]; rfl) (by rfl) ?_
              refine p_run (l := [19, 20]) (pend' := [20, 19, 1]) (by simp (disch := (apply Apart.mk; decide)) only [go_sem, Nat.reduceAdd, Nat.reduceLT, Nat.reduceMul, Nat.reduceLeDiff, Int.reduceToNat, Int.reduceLT, Int.reduceLE, nF19, nF20]; rfl) rfl ?_
              refine p_op (pend' := []) rfl (by simp (disch := (apply Apart.mk; decide)) only [go_sem, Nat.reduceAdd, Nat.reduceLT, Nat.reduceMul, Nat.reduceLeDiff, Int.reduceToNat, Int.reduceLT, Int.reduceLE, nF19, nF20]) (by simp (disch := (apply Apart.mk; decide)) only [go_sem, Nat.reduceAdd, Nat.reduceLT, Nat.reduceMul, Nat.reduceLeDiff, Int.reduceToNat, Int.reduceLT, Int.reduceLE, nF19, nF20]; rfl) (by rfl) ?_
              refine p_end (by simp (disch := (apply Apart.mk; decide)) only [go_sem, Nat.reduceAdd, Nat.reduceLT, Nat.reduceMul, Nat.reduceLeDiff, Int.reduceToNat, Int.reduceLT, Int.reduceLE, nF19, nF20]) ?_
              exact (w_k ⟨((m.length : Int), (masks1 ++ ([r2])), (least1 ++ ([n])), (aput r2 (m.length : Int) m)), hr, (A_cut hwf)⟩)
            · refine w_skip ?_
              exact (w_k ⟨(((aget r2 m).getD (0 : Int)), masks1, least1, m), hr, (A_cut hwf)⟩)
        · refine w_exit ?_
          exact (w_te (w_te (w_bx (w_k ⟨(props1, masks1, least1), (hr).map, (A_cut hwf)⟩))))
    · refine w_block ?_
      refine w_Loop (fun xX : Int => ⟨[(0, .cv (.val (.sl (List.map (eL eRange) sets)))), (23, .cv (.val (.sl (List.map (eL eRange) sets)))), (24, .cv (.val (.int .i64 (sets.length : Int)))), (25, .cv (.val (.int .i64 xX)))], h.on []⟩) hr (A_cut hwf) (fun W2 xX hr => ?_)
      obtain ⟨v1, rfl⟩ : ∃ z, z = xX := ⟨xX, rfl⟩
      dsimp only [alphabet_New.b2] at hr
      refine w_seq ?_
      refine A_region ?_
      refine w_n ?_
      refine w_seq ?_
      refine A_condH hr (fun cF21 hr => ?_) (fun cF21 hr => ?_)
      · refine w_skip ?_
        refine w_n ?_
        refine w_seq ?_
        refine w_block ?_
        refine w_seq ?_
        obtain ⟨xs, nF22, eF23, gF24, hr⟩ := hr.idx
        refine A_region ?_
        refine w_n ?_
        refine w_seq ?_
        refine A_ops ?_
        refine A_upto 1 ?_
        obtain ⟨r3, eF25, hr⟩ := hr.bind
        refine A_call (out := ?o_eF25) (hp := ?p_eF25) ?c_eF25 ?d_eF25 ?_
        case c_eF25 => exact ranges_Make_runs xs eF25
        case d_eF25 => rfl
        refine A_ops_end ?_
        refine w_n ?_
        obtain ⟨v2, vF28, hr⟩ := hr.bind
        refine w_joinR (sj := ⟨[(0, .cv (.val (.sl (List.map (eL eRange) sets)))), (23, .cv (.val (.sl (List.map (eL eRange) sets)))), (24, .cv (.val (.int .i64 (sets.length : Int)))), (25, .cv (.val (.int .i64 v1))), (41, .cv (.val (.bool v2)))], h.on []⟩) (A_ops ?_) ?_
        · have hr := Holds.intro (D := fun z => z = v2) vF28 rfl
          refine A_upto 3 ?_
          rcases hr.ite with ⟨cF26, hr⟩ | ⟨cF26, hr⟩
          · refine A_upto 2 ?_
            refine A_off ?_
            refine A_ops_end ?_
            obtain rfl : _ = v2 := hr
            exact w_k (A_cut hwf)
          · refine A_upto 2 ?_
            obtain ⟨r4, eF27, hr⟩ := hr.bind
            refine w_call' (out := ?o_eF27) (hp := ?p_eF27) (by simp (disch := (apply Apart.mk; decide)) only [go_sem, Nat.reduceAdd, Nat.reduceLT, Nat.reduceMul, Nat.reduceLeDiff, Int.reduceToNat, Int.reduceLT, Int.reduceLE, Option.getD_some, cF26]) (by simp (disch := (apply Apart.mk; decide)) only [go_sem, Nat.reduceAdd, Nat.reduceLT, Nat.reduceMul, Nat.reduceLeDiff, Int.reduceToNat, Int.reduceLT, Int.reduceLE, Option.getD_some, cF26]; rfl) (by simp (disch := (apply Apart.mk; decide)) only [go_sem, Nat.reduceAdd, Nat.reduceLT, Nat.reduceMul, Nat.reduceLeDiff, Int.reduceToNat, Int.reduceLT, Int.reduceLE, Option.getD_some, cF26]; rfl) (by simp (disch := (apply Apart.mk; decide)) only [go_sem, Nat.reduceAdd, Nat.reduceLT, Nat.reduceMul, Nat.reduceLeDiff, Int.reduceToNat, Int.reduceLT, Int.reduceLE, Option.getD_some, cF26]; rfl) ?c_eF27 ?d_eF27 ?_
            case c_eF27 => exact slices_Equal_api_Range_api_Range_runs r3.1 xs eF27
            case d_eF27 => rfl
            refine A_ops_end ?_
            obtain rfl : _ = v2 := hr
            exact w_k (A_cut hwf)
        refine A_condH hr (fun cF29 hr => ?_) (fun cF29 hr => ?_)
        · refine w_seq ?_
          refine A_region ?_
          refine w_n ?_
          refine w_ret ?_
          obtain rfl := hD _ hr
          exact (w_br (w_tr (w_tr (w_br (w_tr (w_tr (A_endR (A_cut (os' := []) (sl := [(2, .cv (.val (.ptr none))), (3, .cv (.val (.int .i64 (1 : Int))))]) hwf) ⟨rfl, on_nil hwf⟩)))))))
        · refine w_skip ?_
          refine (w_bn (w_n ?_))
          refine A_region ?_
          exact (w_k ⟨(IntKind.i64.wrap (v1 + (1 : Int))), hr, (A_cut hwf)⟩)
      · refine w_exit ?_
        exact (w_te (w_te (w_bx (w_k ⟨(), (hr).map, (A_cut hwf)⟩))))
theorem alphabet_New_runs_none (sets : List (List TRange)) {h : Heap} {a : (Option Talphabet_Alphabet × Int)} (e : alphabet_New sets = some a) (hx : a.1 = none) :
    Runs CT 27 [.cv (.val (.sl (List.map (eL eRange) sets)))] h fun o h' => o = [.cv (.val (.ptr none)), .cv (.val (.int .i64 a.2))] ∧ h' = h := by
  have := alphabet_New_runs (h := h) sets e
  rw [hx] at this
  exact this
theorem alphabet_New_runs_some (sets : List (List TRange)) {h : Heap} {a : (Option Talphabet_Alphabet × Int)} {y : Talphabet_Alphabet} (e : alphabet_New sets = some a) (hx : a.1 = some y) :
    Runs CT 27 [.cv (.val (.sl (List.map (eL eRange) sets)))] h fun o h' => o = [.cv (.val (.ptr (some (h.n + 0, 0)))), .cv (.val (.int .i64 a.2))] ∧ h' = h.on [some (.cells [.val (.ptr (some (h.n + 1, 0))), .val (.sl (List.map (eK .u64) y.masks)), .val (.sl (List.map eI y.least))]), some (.cells (avals eU y.trie.like ++ ([.val (.sl (List.map (eA eU) y.trie.first))] : List CV)))] := by
  have := alphabet_New_runs (h := h) sets e
  rw [hx] at this
  exact this
end Go.Val

/- part JW31 -/
/- (*scansion/alphabet.Alphabet).Count runs as it is read off. -/
namespace Go.Val
set_option linter.unusedVariables false
set_option linter.unusedSimpArgs false
set_option maxRecDepth 20000
open Go.Proofs
theorem alphabet_Alphabet_Count_runs (a_ : Talphabet_Alphabet) (l0 : Nat) (l0p0 : Nat) {h : Heap} (ha0 : h.at_ l0 = some (.cells [.val (.ptr (some (l0p0, 0))), .val (.sl (List.map (eK .u64) a_.masks)), .val (.sl (List.map eI a_.least))])) (ha0p0 : h.at_ l0p0 = some (.cells (avals eU a_.trie.like ++ ([.val (.sl (List.map (eA eU) a_.trie.first))] : List CV)))) (hn0_0p0 : l0 ≠ l0p0) {a : Int} (e : alphabet_Alphabet_Count a_ = some a) :
    Runs CT 31 [.cv (.val (.ptr (some (l0, 0))))] h fun o h' => o = [.cv (.val (.int .i64 a))] ∧ h' = h := by
  refine Runs.start Try.f31 _ Try.func31 rfl (by rw [Try.ntmps31]; simp) (by rfl) (by rfl) (fun hwf hu => ?_)
  have hl0 := (hwf _ _ ha0).1
  have kl0 := locF hl0
  have hl0p0 := (hwf _ _ ha0p0).1
  have kl0p0 := locF hl0p0
  obtain ⟨D, hD, hr⟩ : ∃ D : Int → Prop, (∀ z, D z → z = a) ∧ Holds (alphabet_Alphabet_Count a_) D := ⟨fun z => z = a, fun _ h => h, Holds.intro e rfl⟩
  dsimp only [alphabet_Alphabet_Count] at hr
  change wpCode _ _ _ _ _ ⟨[(0, .cv (.val (.ptr (some (l0, 0)))))], h.on []⟩
  refine w_seq ?_
  refine A_region ?_
  refine w_n ?_
  refine w_seq ?_
  refine A_region ?_
  refine w_n ?_
  refine w_ret ?_
  obtain rfl := hD _ hr
  exact (A_endR (A_cut (os' := []) (sl := [(2, .cv (.val (.int .i64 (a_.masks.length : Int))))]) hwf) ⟨rfl, on_nil hwf⟩)
end Go.Val

/- part JW70 -/
/- (*scansion/trie.Trie).Of runs as it is read off. -/
namespace Go.Val
set_option linter.unusedVariables false
set_option linter.unusedSimpArgs false
set_option maxRecDepth 20000
open Go.Proofs
theorem trie_Trie_Of_runs (t : Ttrie_Trie) (r : Int) (l0 : Nat) {h : Heap} (ha0 : h.at_ l0 = some (.cells (avals eU t.like ++ ([.val (.sl (List.map (eA eU) t.first))] : List CV)))) {a : UInt8} (e : trie_Trie_Of t r = some a) :
    Runs CT 70 [.cv (.val (.ptr (some (l0, 0)))), .cv (.val (.int .i64 r))] h fun o h' => o = [.cv (.val (.int .u8 (a.toNat : Int)))] ∧ h' = h := by
  refine Runs.start Try.f70 _ Try.func70 rfl (by rw [Try.ntmps70]; simp) (by rfl) (by rfl) (fun hwf hu => ?_)
  have hl0 := (hwf _ _ ha0).1
  have kl0 := locF hl0
  obtain ⟨D, hD, hr⟩ : ∃ D : UInt8 → Prop, (∀ z, D z → z = a) ∧ Holds (trie_Trie_Of t r) D := ⟨fun z => z = a, fun _ h => h, Holds.intro e rfl⟩
  dsimp only [trie_Trie_Of] at hr
  change wpCode _ _ _ _ _ ⟨[(0, .cv (.val (.ptr (some (l0, 0))))), (1, .cv (.val (.int .i64 r)))], h.on []⟩
  refine w_seq ?_
  refine A_region ?_
  refine w_n ?_
  refine w_seq ?_
  refine w_joinR (sj := ⟨[(0, .cv (.val (.ptr (some (l0, 0))))), (1, .cv (.val (.int .i64 r))), (10, .cv (.val (.bool ((decide (r < (0 : Int))) || (decide (r > (1114111 : Int)))))))], h.on []⟩) (A_ops ?_) ?_
  · refine A_upto 3 ?_
    rcases Bool.eq_false_or_eq_true (decide (r < (0 : Int))) with cF1 | cF1
    · refine A_ops_end ?_
      exact w_k (A_cut hwf)
    · refine A_ops_end ?_
      exact w_k (A_cut hwf)
  refine A_condH hr (fun cF2 hr => ?_) (fun cF2 hr => ?_)
  · refine w_seq ?_
    refine A_region ?_
    refine w_n ?_
    refine w_ret ?_
    obtain rfl := hD _ hr
    exact (w_tr (A_endR (A_cut (os' := []) (sl := [(4, .cv (.val (.int .u8 (0 : Int))))]) hwf) ⟨rfl, on_nil hwf⟩))
  · refine w_skip ?_
    refine w_n ?_
    refine w_seq ?_
    refine w_drawn [0, 1, 2, 3, 4, 5, 6, 7, 8, 9, 10, 11, 12, 13, 14, 15, 16] (by rfl) ?_
    obtain ⟨n, nF3, eF4, gF5, hr⟩ := hr.idx
    have qF6 : (Int.toNat (IntKind.i64.wrap (Int.tdiv r (256 : Int))) < 4352) = True := eq_true (lt_vec eF4)
    have qF7 := get_avals' (e := eU) (cs := ([.val (.sl (List.map (eA eU) t.first))] : List CV)) eF4
    obtain ⟨y, nF8, eF9, gF10, hr⟩ := hr.idx
    obtain ⟨n1, nF11, eF12, gF13, hr⟩ := hr.idx
    have qF14 : (Int.toNat (Int.tmod r (256 : Int)) < 256) = True := eq_true (lt_vec eF12)
    have qF15 := drop_vec (e := eU) eF12
    refine p_run (l := [0, 1, 2, 3, 4, 5, 6, 7, 8, 9, 10, 11, 12, 13, 14, 15]) (pend' := [15, 14, 13, 12, 11, 10, 9, 8, 7, 6, 5, 4, 3, 2, 1, 0]) (by simp (disch := (apply Apart.mk; decide)) only [go_sem, Nat.reduceAdd, Nat.reduceLT, Nat.reduceMul, Nat.reduceLeDiff, Int.reduceToNat, Int.reduceLT, Int.reduceLE, ha0, on_atB hl0, lt_add hl0, lt_at hl0, (eq_false (by decide : ¬ ((256 : Int) = 0))), nF3, eF4, gF5, qF6, Nat.mul_one, Nat.zero_add, qF7, nF8, eF9, gF10, nF11, eF12, gF13, qF14, qF15]; rfl) rfl ?_
    refine p_op (pend' := []) rfl (by simp (disch := (apply Apart.mk; decide)) only [go_sem, Nat.reduceAdd, Nat.reduceLT, Nat.reduceMul, Nat.reduceLeDiff, Int.reduceToNat, Int.reduceLT, Int.reduceLE, ha0, on_atB hl0, lt_add hl0, lt_at hl0, (eq_false (by decide : ¬ ((256 : Int) = 0))), nF3, eF4, gF5, qF6, Nat.mul_one, Nat.zero_add, qF7, nF8, eF9, gF10, nF11, eF12, gF13, qF14, qF15]) (by simp (disch := (apply Apart.mk; decide)) only [go_sem, Nat.reduceAdd, Nat.reduceLT, Nat.reduceMul, Nat.reduceLeDiff, Int.reduceToNat, Int.reduceLT, Int.reduceLE, ha0, on_atB hl0, lt_add hl0, lt_at hl0, (eq_false (by decide : ¬ ((256 : Int) = 0))), nF3, eF4, gF5, qF6, Nat.mul_one, Nat.zero_add, qF7, nF8, eF9, gF10, nF11, eF12, gF13, qF14, qF15]; rfl) (by rfl) ?_
    refine p_end (by simp (disch := (apply Apart.mk; decide)) only [go_sem, Nat.reduceAdd, Nat.reduceLT, Nat.reduceMul, Nat.reduceLeDiff, Int.reduceToNat, Int.reduceLT, Int.reduceLE, ha0, on_atB hl0, lt_add hl0, lt_at hl0, (eq_false (by decide : ¬ ((256 : Int) = 0))), nF3, eF4, gF5, qF6, Nat.mul_one, Nat.zero_add, qF7, (eq_false (by decide : ¬ ((256 : Int) = 0))), nF8, eF9, gF10, nF11, eF12, gF13, qF14, Nat.mul_one, Nat.zero_add, qF15]) ?_
    refine w_n ?_
    refine w_ret ?_
    obtain rfl := hD _ hr
    exact (A_endR (A_cut (os' := []) (sl := [(4, .cv (.val (.int .u8 (n1.toNat : Int))))]) hwf) ⟨rfl, on_nil hwf⟩)
end Go.Val

/- part JW30 -/
/- (*scansion/alphabet.Alphabet).Of runs as it is read off. -/
namespace Go.Val
set_option linter.unusedVariables false
set_option linter.unusedSimpArgs false
set_option maxRecDepth 20000
open Go.Proofs
theorem alphabet_Alphabet_Of_runs (a_ : Talphabet_Alphabet) (r : Int) (l0 : Nat) (l0p0 : Nat) {h : Heap} (ha0 : h.at_ l0 = some (.cells [.val (.ptr (some (l0p0, 0))), .val (.sl (List.map (eK .u64) a_.masks)), .val (.sl (List.map eI a_.least))])) (ha0p0 : h.at_ l0p0 = some (.cells (avals eU a_.trie.like ++ ([.val (.sl (List.map (eA eU) a_.trie.first))] : List CV)))) (hn0_0p0 : l0 ≠ l0p0) {a : Int} (e : alphabet_Alphabet_Of a_ r = some a) :
    Runs CT 30 [.cv (.val (.ptr (some (l0, 0)))), .cv (.val (.int .i64 r))] h fun o h' => o = [.cv (.val (.int .i64 a))] ∧ h' = h := by
  refine Runs.start Try.f30 _ Try.func30 rfl (by rw [Try.ntmps30]; simp) (by rfl) (by rfl) (fun hwf hu => ?_)
  have hl0 := (hwf _ _ ha0).1
  have kl0 := locF hl0
  have hl0p0 := (hwf _ _ ha0p0).1
  have kl0p0 := locF hl0p0
  obtain ⟨D, hD, hr⟩ : ∃ D : Int → Prop, (∀ z, D z → z = a) ∧ Holds (alphabet_Alphabet_Of a_ r) D := ⟨fun z => z = a, fun _ h => h, Holds.intro e rfl⟩
  dsimp only [alphabet_Alphabet_Of] at hr
  change wpCode _ _ _ _ _ ⟨[(0, .cv (.val (.ptr (some (l0, 0))))), (1, .cv (.val (.int .i64 r)))], h.on []⟩
  refine w_seq ?_
  refine A_region ?_
  refine w_n ?_
  refine w_seq ?_
  refine w_joinR (sj := ⟨[(0, .cv (.val (.ptr (some (l0, 0))))), (1, .cv (.val (.int .i64 r))), (10, .cv (.val (.bool ((decide (r < (0 : Int))) || (decide (r > (1114111 : Int)))))))], h.on []⟩) (A_ops ?_) ?_
  · refine A_upto 3 ?_
    rcases Bool.eq_false_or_eq_true (decide (r < (0 : Int))) with cF1 | cF1
    · refine A_ops_end ?_
      exact w_k (A_cut hwf)
    · refine A_ops_end ?_
      exact w_k (A_cut hwf)
  refine A_condH hr (fun cF2 hr => ?_) (fun cF2 hr => ?_)
  · refine w_seq ?_
    refine A_region ?_
    refine w_n ?_
    refine w_ret ?_
    obtain rfl := hD _ hr
    exact (w_tr (A_endR (A_cut (os' := []) (sl := [(4, .cv (.val (.int .i64 (-1 : Int))))]) hwf) ⟨rfl, on_nil hwf⟩))
  · refine w_skip ?_
    refine w_n ?_
    refine w_seq ?_
    refine A_ops ?_
    refine A_upto 5 ?_
    obtain ⟨r1, eF3, hr⟩ := hr.bind
    refine A_call (out := ?o_eF3) (hp := ?p_eF3) ?c_eF3 ?d_eF3 ?_
    case c_eF3 => (refine trie_Trie_Of_runs a_.trie r (l0p0) ?_ eF3; (simp (disch := (apply Apart.mk; decide)) only [go_sem, Nat.reduceAdd, Nat.reduceLT, Nat.reduceMul, Nat.reduceLeDiff, Int.reduceToNat, Int.reduceLT, Int.reduceLE, ha0, on_atB hl0, lt_add hl0, lt_at hl0, ha0p0, on_atB hl0p0, lt_add hl0p0, lt_at hl0p0]))
    case d_eF3 => rfl
    refine A_ops_end ?_
    refine w_n ?_
    refine w_ret ?_
    obtain rfl := hD _ hr
    exact (A_endR (A_cut (os' := []) (sl := [(4, .cv (.val (.int .i64 (IntKind.i64.wrap (r1.toNat : Int)))))]) hwf) ⟨rfl, on_nil hwf⟩)
end Go.Val

/- part JW69 -/
/- (*scansion/alphabet.Alphabet).has runs as it is read off. -/
namespace Go.Val
set_option linter.unusedVariables false
set_option linter.unusedSimpArgs false
set_option maxRecDepth 20000
open Go.Proofs
theorem alphabet_Alphabet_has_runs (a_ : Talphabet_Alphabet) (class_ : Int) (l0 : Nat) (l0p0 : Nat) {h : Heap} (ha0 : h.at_ l0 = some (.cells [.val (.ptr (some (l0p0, 0))), .val (.sl (List.map (eK .u64) a_.masks)), .val (.sl (List.map eI a_.least))])) (ha0p0 : h.at_ l0p0 = some (.cells (avals eU a_.trie.like ++ ([.val (.sl (List.map (eA eU) a_.trie.first))] : List CV)))) (hn0_0p0 : l0 ≠ l0p0) {a : Bool} (e : alphabet_Alphabet_has a_ class_ = some a) :
    Runs CT 69 [.cv (.val (.ptr (some (l0, 0)))), .cv (.val (.int .i64 class_))] h fun o h' => o = [.cv (.val (.bool a))] ∧ h' = h := by
  refine Runs.start Try.f69 _ Try.func69 rfl (by rw [Try.ntmps69]; simp) (by rfl) (by rfl) (fun hwf hu => ?_)
  have hl0 := (hwf _ _ ha0).1
  have kl0 := locF hl0
  have hl0p0 := (hwf _ _ ha0p0).1
  have kl0p0 := locF hl0p0
  obtain ⟨D, hD, hr⟩ : ∃ D : Bool → Prop, (∀ z, D z → z = a) ∧ Holds (alphabet_Alphabet_has a_ class_) D := ⟨fun z => z = a, fun _ h => h, Holds.intro e rfl⟩
  dsimp only [alphabet_Alphabet_has] at hr
  change wpCode _ _ _ _ _ ⟨[(0, .cv (.val (.ptr (some (l0, 0))))), (1, .cv (.val (.int .i64 class_)))], h.on []⟩
  refine w_seq ?_
  refine A_region ?_
  refine w_n ?_
  refine w_joinR (sj := ⟨[(4, .cv (.val (.bool ((decide (class_ ≥ (0 : Int))) && (decide (class_ < (a_.masks.length : Int)))))))], h.on []⟩) (A_ops ?_) ?_
  · refine A_upto 3 ?_
    rcases Bool.eq_false_or_eq_true (decide (class_ ≥ (0 : Int))) with cF1 | cF1
    · refine A_ops_end ?_
      exact w_k (A_cut hwf)
    · refine A_ops_end ?_
      exact w_k (A_cut hwf)
  refine w_ret ?_
  obtain rfl := hD _ hr
  exact (A_endR (A_cut (os' := []) (sl := [(4, .cv (.val (.bool ((decide (class_ ≥ (0 : Int))) && (decide (class_ < (a_.masks.length : Int)))))))]) hwf) ⟨rfl, on_nil hwf⟩)
end Go.Val

/- part JW29 -/
/- (*scansion/alphabet.Alphabet).Mask runs as it is read off. -/
namespace Go.Val
set_option linter.unusedVariables false
set_option linter.unusedSimpArgs false
set_option maxRecDepth 20000
open Go.Proofs
theorem alphabet_Alphabet_Mask_runs (a_ : Talphabet_Alphabet) (class_ : Int) (l0 : Nat) (l0p0 : Nat) {h : Heap} (ha0 : h.at_ l0 = some (.cells [.val (.ptr (some (l0p0, 0))), .val (.sl (List.map (eK .u64) a_.masks)), .val (.sl (List.map eI a_.least))])) (ha0p0 : h.at_ l0p0 = some (.cells (avals eU a_.trie.like ++ ([.val (.sl (List.map (eA eU) a_.trie.first))] : List CV)))) (hn0_0p0 : l0 ≠ l0p0) {a : Int} (e : alphabet_Alphabet_Mask a_ class_ = some a) :
    Runs CT 29 [.cv (.val (.ptr (some (l0, 0)))), .cv (.val (.int .i64 class_))] h fun o h' => o = [.cv (.val (.int .u64 a))] ∧ h' = h := by
  refine Runs.start Try.f29 _ Try.func29 rfl (by rw [Try.ntmps29]; simp) (by rfl) (by rfl) (fun hwf hu => ?_)
  have hl0 := (hwf _ _ ha0).1
  have kl0 := locF hl0
  have hl0p0 := (hwf _ _ ha0p0).1
  have kl0p0 := locF hl0p0
  obtain ⟨D, hD, hr⟩ : ∃ D : Int → Prop, (∀ z, D z → z = a) ∧ Holds (alphabet_Alphabet_Mask a_ class_) D := ⟨fun z => z = a, fun _ h => h, Holds.intro e rfl⟩
  dsimp only [alphabet_Alphabet_Mask] at hr
  change wpCode _ _ _ _ _ ⟨[(0, .cv (.val (.ptr (some (l0, 0))))), (1, .cv (.val (.int .i64 class_)))], h.on []⟩
  refine w_seq ?_
  refine A_region ?_
  refine w_n ?_
  refine w_seq ?_
  refine w_seq ?_
  refine A_ops ?_
  refine A_upto 2 ?_
  obtain ⟨r, eF1, hr⟩ := hr.bind
  refine A_call (out := ?o_eF1) (hp := ?p_eF1) ?c_eF1 ?d_eF1 ?_
  case c_eF1 => (refine alphabet_Alphabet_has_runs a_ class_ (l0) (l0p0) ?_ ?_ ?_ eF1; (simp (disch := (apply Apart.mk; decide)) only [go_sem, Nat.reduceAdd, Nat.reduceLT, Nat.reduceMul, Nat.reduceLeDiff, Int.reduceToNat, Int.reduceLT, Int.reduceLE, ha0, on_atB hl0, lt_add hl0, lt_at hl0, ha0p0, on_atB hl0p0, lt_add hl0p0, lt_at hl0p0]); (simp (disch := (apply Apart.mk; decide)) only [go_sem, Nat.reduceAdd, Nat.reduceLT, Nat.reduceMul, Nat.reduceLeDiff, Int.reduceToNat, Int.reduceLT, Int.reduceLE, ha0, on_atB hl0, lt_add hl0, lt_at hl0, ha0p0, on_atB hl0p0, lt_add hl0p0, lt_at hl0p0]); (first | omega | assumption | exact Ne.symm (by assumption)))
  case d_eF1 => rfl
  refine A_ops_end ?_
  refine w_n ?_
  refine A_condH hr (fun cF2 hr => ?_) (fun cF2 hr => ?_)
  · refine w_seq ?_
    refine A_region ?_
    refine w_n ?_
    refine w_ret ?_
    obtain rfl := hD _ hr
    exact (w_tr (A_endR (A_cut (os' := []) (sl := [(4, .cv (.val (.int .u64 (0 : Int))))]) hwf) ⟨rfl, on_nil hwf⟩))
  · refine w_skip ?_
    refine w_n ?_
    refine w_seq ?_
    obtain ⟨n, nF3, eF4, gF5, hr⟩ := hr.idx
    refine A_region ?_
    refine w_n ?_
    refine w_ret ?_
    obtain rfl := hD _ hr
    exact (A_endR (A_cut (os' := []) (sl := [(4, .cv (.val (.int .u64 n)))]) hwf) ⟨rfl, on_nil hwf⟩)
end Go.Val

/- part JW32 -/
/- (*scansion/alphabet.Alphabet).Any runs as it is read off. -/
namespace Go.Val
set_option linter.unusedVariables false
set_option linter.unusedSimpArgs false
set_option maxRecDepth 20000
open Go.Proofs
theorem alphabet_Alphabet_Any_runs (a_ : Talphabet_Alphabet) (class_ : Int) (l0 : Nat) (l0p0 : Nat) {h : Heap} (ha0 : h.at_ l0 = some (.cells [.val (.ptr (some (l0p0, 0))), .val (.sl (List.map (eK .u64) a_.masks)), .val (.sl (List.map eI a_.least))])) (ha0p0 : h.at_ l0p0 = some (.cells (avals eU a_.trie.like ++ ([.val (.sl (List.map (eA eU) a_.trie.first))] : List CV)))) (hn0_0p0 : l0 ≠ l0p0) {a : Int} (e : alphabet_Alphabet_Any a_ class_ = some a) :
    Runs CT 32 [.cv (.val (.ptr (some (l0, 0)))), .cv (.val (.int .i64 class_))] h fun o h' => o = [.cv (.val (.int .i64 a))] ∧ h' = h := by
  refine Runs.start Try.f32 _ Try.func32 rfl (by rw [Try.ntmps32]; simp) (by rfl) (by rfl) (fun hwf hu => ?_)
  have hl0 := (hwf _ _ ha0).1
  have kl0 := locF hl0
  have hl0p0 := (hwf _ _ ha0p0).1
  have kl0p0 := locF hl0p0
  obtain ⟨D, hD, hr⟩ : ∃ D : Int → Prop, (∀ z, D z → z = a) ∧ Holds (alphabet_Alphabet_Any a_ class_) D := ⟨fun z => z = a, fun _ h => h, Holds.intro e rfl⟩
  dsimp only [alphabet_Alphabet_Any] at hr
  change wpCode _ _ _ _ _ ⟨[(0, .cv (.val (.ptr (some (l0, 0))))), (1, .cv (.val (.int .i64 class_)))], h.on []⟩
  refine w_seq ?_
  refine A_region ?_
  refine w_n ?_
  refine w_seq ?_
  refine w_seq ?_
  refine A_ops ?_
  refine A_upto 2 ?_
  obtain ⟨r, eF1, hr⟩ := hr.bind
  refine A_call (out := ?o_eF1) (hp := ?p_eF1) ?c_eF1 ?d_eF1 ?_
  case c_eF1 => (refine alphabet_Alphabet_has_runs a_ class_ (l0) (l0p0) ?_ ?_ ?_ eF1; (simp (disch := (apply Apart.mk; decide)) only [go_sem, Nat.reduceAdd, Nat.reduceLT, Nat.reduceMul, Nat.reduceLeDiff, Int.reduceToNat, Int.reduceLT, Int.reduceLE, ha0, on_atB hl0, lt_add hl0, lt_at hl0, ha0p0, on_atB hl0p0, lt_add hl0p0, lt_at hl0p0]); (simp (disch := (apply Apart.mk; decide)) only [go_sem, Nat.reduceAdd, Nat.reduceLT, Nat.reduceMul, Nat.reduceLeDiff, Int.reduceToNat, Int.reduceLT, Int.reduceLE, ha0, on_atB hl0, lt_add hl0, lt_at hl0, ha0p0, on_atB hl0p0, lt_add hl0p0, lt_at hl0p0]); (first | omega | assumption | exact Ne.symm (by assumption)))
  case d_eF1 => rfl
  refine A_ops_end ?_
  refine w_n ?_
  refine A_condH hr (fun cF2 hr => ?_) (fun cF2 hr => ?_)
  · refine w_seq ?_
    refine A_region ?_
    refine w_n ?_
    refine w_ret ?_
    obtain rfl := hD _ hr
    exact (w_tr (A_endR (A_cut (os' := []) (sl := [(4, .cv (.val (.int .i64 (-1 : Int))))]) hwf) ⟨rfl, on_nil hwf⟩))
  · refine w_skip ?_
    refine w_n ?_
    refine w_seq ?_
    obtain ⟨n, nF3, eF4, gF5, hr⟩ := hr.idx
    refine A_region ?_
    refine w_n ?_
    refine w_ret ?_
    obtain rfl := hD _ hr
    exact (A_endR (A_cut (os' := []) (sl := [(4, .cv (.val (.int .i64 n)))]) hwf) ⟨rfl, on_nil hwf⟩)
end Go.Val

/- part JW24 -/
/- scansion/scansionlaw09.awake runs as it is read off. -/
namespace Go.Val
set_option linter.unusedVariables false
set_option linter.unusedSimpArgs false
set_option maxRecDepth 20000
open Go.Proofs
theorem scansionlaw09_awake_runs {h : Heap} {a : Bool} (e : scansionlaw09_awake = some a) :
    Runs CT 24 [] h fun o h' => o = [.cv (.val (.bool a))] ∧ h' = h := by
  refine Runs.start Try.f24 _ Try.func24 rfl (by rw [Try.ntmps24]; simp) (by rfl) (by rfl) (fun hwf hu => ?_)
  obtain ⟨D, hD, hr⟩ : ∃ D : Bool → Prop, (∀ z, D z → z = a) ∧ Holds (scansionlaw09_awake) D := ⟨fun z => z = a, fun _ h => h, Holds.intro e rfl⟩
  dsimp only [scansionlaw09_awake] at hr
  change wpCode _ _ _ _ _ ⟨[], h.on []⟩
  refine w_seq ?_
  refine A_region ?_
  refine w_n ?_
  refine w_seq ?_
  refine A_ops ?_
  refine A_upto 5 ?_
  obtain ⟨r, eF1, hr⟩ := hr.bind
  try dsimp only at hr
  rcases xF12 : r.1 with _ | y
  · rw [xF12] at hr
    dsimp only at hr
    refine A_call (out := ?o_eF1a) (hp := ?p_eF1a) ?c_eF1a ?d_eF1a ?_
    case c_eF1a => exact alphabet_New_runs_none ([[(TRange.mk (97 : Int) (99 : Int))], [(TRange.mk (98 : Int) (122 : Int))]]) eF1 xF12
    case d_eF1a => rfl
    refine A_ops_end ?_
    refine w_n ?_
    refine w_joinR (sj := ⟨[(0, .cv (.val (.bool false)))], h.on []⟩) (A_ops ?_) ?_
    · refine A_upto 3 ?_
      rcases Bool.eq_false_or_eq_true (r.2 == (0 : Int)) with cF2 | cF2
      · refine A_upto 5 ?_
        refine A_off ?_
        refine A_upto 4 ?_
        refine A_off ?_
        refine A_upto 4 ?_
        refine A_off ?_
        refine A_upto 4 ?_
        refine A_off ?_
        refine A_ops_end ?_
        exact w_k (A_cut hwf)
      · refine A_upto 5 ?_
        refine A_off ?_
        refine A_upto 4 ?_
        refine A_off ?_
        refine A_upto 4 ?_
        refine A_off ?_
        refine A_upto 4 ?_
        refine A_off ?_
        refine A_ops_end ?_
        exact w_k (A_cut hwf)
    refine w_ret ?_
    obtain rfl := hD _ hr
    exact (A_endR (A_cut (os' := []) (sl := [(0, .cv (.val (.bool false)))]) hwf) ⟨rfl, on_nil hwf⟩)
  · rw [xF12] at hr
    dsimp only at hr
    refine A_call (out := ?o_eF1b) (hp := ?p_eF1b) ?c_eF1b ?d_eF1b ?_
    case c_eF1b => exact alphabet_New_runs_some ([[(TRange.mk (97 : Int) (99 : Int))], [(TRange.mk (98 : Int) (122 : Int))]]) eF1 xF12
    case d_eF1b => rfl
    refine A_ops_end ?_
    refine w_n ?_
    obtain ⟨v, vF11, hr⟩ := hr.bind
    refine w_joinR (sj := ⟨[(0, .cv (.val (.bool v)))], h.on []⟩) (A_ops ?_) ?_
    · have hr := Holds.intro (D := fun z => z = v) vF11 rfl
      refine A_upto 3 ?_
      rcases hr.ite with ⟨cF3, hr⟩ | ⟨cF3, hr⟩
      · refine A_upto 5 ?_
        obtain ⟨r1, eF4, hr⟩ := hr.bind
        refine w_call' (out := ?o_eF4) (hp := ?p_eF4) (by simp (disch := (apply Apart.mk; decide)) only [go_sem, Nat.reduceAdd, Nat.reduceLT, Nat.reduceMul, Nat.reduceLeDiff, Int.reduceToNat, Int.reduceLT, Int.reduceLE, Option.getD_some, cF3]) (by simp (disch := (apply Apart.mk; decide)) only [go_sem, Nat.reduceAdd, Nat.reduceLT, Nat.reduceMul, Nat.reduceLeDiff, Int.reduceToNat, Int.reduceLT, Int.reduceLE, Option.getD_some, cF3]; rfl) (by simp (disch := (apply Apart.mk; decide)) only [go_sem, Nat.reduceAdd, Nat.reduceLT, Nat.reduceMul, Nat.reduceLeDiff, Int.reduceToNat, Int.reduceLT, Int.reduceLE, Option.getD_some, cF3]; rfl) (by simp (disch := (apply Apart.mk; decide)) only [go_sem, Nat.reduceAdd, Nat.reduceLT, Nat.reduceMul, Nat.reduceLeDiff, Int.reduceToNat, Int.reduceLT, Int.reduceLE, Option.getD_some, cF3]; rfl) ?c_eF4 ?d_eF4 ?_
        case c_eF4 => (refine alphabet_Alphabet_Count_runs y (h.n + 0) (h.n + 1) ?_ ?_ ?_ eF4; (simp (disch := (apply Apart.mk; decide)) only [go_sem, Nat.reduceAdd, Nat.reduceLT, Nat.reduceMul, Nat.reduceLeDiff, Int.reduceToNat, Int.reduceLT, Int.reduceLE]); (simp (disch := (apply Apart.mk; decide)) only [go_sem, Nat.reduceAdd, Nat.reduceLT, Nat.reduceMul, Nat.reduceLeDiff, Int.reduceToNat, Int.reduceLT, Int.reduceLE]); (first | omega | assumption | exact Ne.symm (by assumption)))
        case d_eF4 => rfl
        refine A_upto 3 ?_
        rcases hr.ite with ⟨cF5, hr⟩ | ⟨cF5, hr⟩
        · refine A_upto 1 ?_
          obtain ⟨r2, eF6, hr⟩ := hr.bind
          refine w_call' (out := ?o_eF6) (hp := ?p_eF6) (by simp (disch := (apply Apart.mk; decide)) only [go_sem, Nat.reduceAdd, Nat.reduceLT, Nat.reduceMul, Nat.reduceLeDiff, Int.reduceToNat, Int.reduceLT, Int.reduceLE, Option.getD_some, cF3, cF5]) (by simp (disch := (apply Apart.mk; decide)) only [go_sem, Nat.reduceAdd, Nat.reduceLT, Nat.reduceMul, Nat.reduceLeDiff, Int.reduceToNat, Int.reduceLT, Int.reduceLE, Option.getD_some, cF3, cF5]; rfl) (by simp (disch := (apply Apart.mk; decide)) only [go_sem, Nat.reduceAdd, Nat.reduceLT, Nat.reduceMul, Nat.reduceLeDiff, Int.reduceToNat, Int.reduceLT, Int.reduceLE, Option.getD_some, cF3, cF5]; rfl) (by simp (disch := (apply Apart.mk; decide)) only [go_sem, Nat.reduceAdd, Nat.reduceLT, Nat.reduceMul, Nat.reduceLeDiff, Int.reduceToNat, Int.reduceLT, Int.reduceLE, Option.getD_some, cF3, cF5]; rfl) ?c_eF6 ?d_eF6 ?_
          case c_eF6 => (refine alphabet_Alphabet_Of_runs y (99 : Int) (h.n + 0) (h.n + 1) ?_ ?_ ?_ eF6; (simp (disch := (apply Apart.mk; decide)) only [go_sem, Nat.reduceAdd, Nat.reduceLT, Nat.reduceMul, Nat.reduceLeDiff, Int.reduceToNat, Int.reduceLT, Int.reduceLE]); (simp (disch := (apply Apart.mk; decide)) only [go_sem, Nat.reduceAdd, Nat.reduceLT, Nat.reduceMul, Nat.reduceLeDiff, Int.reduceToNat, Int.reduceLT, Int.reduceLE]); (first | omega | assumption | exact Ne.symm (by assumption)))
          case d_eF6 => rfl
          refine A_upto 3 ?_
          rcases hr.ite with ⟨cF7, hr⟩ | ⟨cF7, hr⟩
          · refine A_upto 1 ?_
            obtain ⟨r3, eF8, hr⟩ := hr.bind
            refine w_call' (out := ?o_eF8) (hp := ?p_eF8) (by simp (disch := (apply Apart.mk; decide)) only [go_sem, Nat.reduceAdd, Nat.reduceLT, Nat.reduceMul, Nat.reduceLeDiff, Int.reduceToNat, Int.reduceLT, Int.reduceLE, Option.getD_some, cF3, cF5, cF7]) (by simp (disch := (apply Apart.mk; decide)) only [go_sem, Nat.reduceAdd, Nat.reduceLT, Nat.reduceMul, Nat.reduceLeDiff, Int.reduceToNat, Int.reduceLT, Int.reduceLE, Option.getD_some, cF3, cF5, cF7]; rfl) (by simp (disch := (apply Apart.mk; decide)) only [go_sem, Nat.reduceAdd, Nat.reduceLT, Nat.reduceMul, Nat.reduceLeDiff, Int.reduceToNat, Int.reduceLT, Int.reduceLE, Option.getD_some, cF3, cF5, cF7]; rfl) (by simp (disch := (apply Apart.mk; decide)) only [go_sem, Nat.reduceAdd, Nat.reduceLT, Nat.reduceMul, Nat.reduceLeDiff, Int.reduceToNat, Int.reduceLT, Int.reduceLE, Option.getD_some, cF3, cF5, cF7]; rfl) ?c_eF8 ?d_eF8 ?_
            case c_eF8 => (refine alphabet_Alphabet_Mask_runs y (2 : Int) (h.n + 0) (h.n + 1) ?_ ?_ ?_ eF8; (simp (disch := (apply Apart.mk; decide)) only [go_sem, Nat.reduceAdd, Nat.reduceLT, Nat.reduceMul, Nat.reduceLeDiff, Int.reduceToNat, Int.reduceLT, Int.reduceLE]); (simp (disch := (apply Apart.mk; decide)) only [go_sem, Nat.reduceAdd, Nat.reduceLT, Nat.reduceMul, Nat.reduceLeDiff, Int.reduceToNat, Int.reduceLT, Int.reduceLE]); (first | omega | assumption | exact Ne.symm (by assumption)))
            case d_eF8 => rfl
            refine A_upto 3 ?_
            rcases hr.ite with ⟨cF9, hr⟩ | ⟨cF9, hr⟩
            · refine A_upto 1 ?_
              obtain ⟨r4, eF10, hr⟩ := hr.bind
              refine w_call' (out := ?o_eF10) (hp := ?p_eF10) (by simp (disch := (apply Apart.mk; decide)) only [go_sem, Nat.reduceAdd, Nat.reduceLT, Nat.reduceMul, Nat.reduceLeDiff, Int.reduceToNat, Int.reduceLT, Int.reduceLE, Option.getD_some, cF3, cF5, cF7, cF9]) (by simp (disch := (apply Apart.mk; decide)) only [go_sem, Nat.reduceAdd, Nat.reduceLT, Nat.reduceMul, Nat.reduceLeDiff, Int.reduceToNat, Int.reduceLT, Int.reduceLE, Option.getD_some, cF3, cF5, cF7, cF9]; rfl) (by simp (disch := (apply Apart.mk; decide)) only [go_sem, Nat.reduceAdd, Nat.reduceLT, Nat.reduceMul, Nat.reduceLeDiff, Int.reduceToNat, Int.reduceLT, Int.reduceLE, Option.getD_some, cF3, cF5, cF7, cF9]; rfl) (by simp (disch := (apply Apart.mk; decide)) only [go_sem, Nat.reduceAdd, Nat.reduceLT, Nat.reduceMul, Nat.reduceLeDiff, Int.reduceToNat, Int.reduceLT, Int.reduceLE, Option.getD_some, cF3, cF5, cF7, cF9]; rfl) ?c_eF10 ?d_eF10 ?_
              case c_eF10 => (refine alphabet_Alphabet_Any_runs y (2 : Int) (h.n + 0) (h.n + 1) ?_ ?_ ?_ eF10; (simp (disch := (apply Apart.mk; decide)) only [go_sem, Nat.reduceAdd, Nat.reduceLT, Nat.reduceMul, Nat.reduceLeDiff, Int.reduceToNat, Int.reduceLT, Int.reduceLE]); (simp (disch := (apply Apart.mk; decide)) only [go_sem, Nat.reduceAdd, Nat.reduceLT, Nat.reduceMul, Nat.reduceLeDiff, Int.reduceToNat, Int.reduceLT, Int.reduceLE]); (first | omega | assumption | exact Ne.symm (by assumption)))
              case d_eF10 => rfl
              refine A_ops_end ?_
              obtain rfl : _ = v := hr
              exact w_k (A_cut hwf)
            · refine A_upto 1 ?_
              refine A_off ?_
              refine A_ops_end ?_
              obtain rfl : _ = v := hr
              exact w_k (A_cut hwf)
          · refine A_upto 1 ?_
            refine A_off ?_
            refine A_upto 4 ?_
            refine A_off ?_
            refine A_ops_end ?_
            obtain rfl : _ = v := hr
            exact w_k (A_cut hwf)
        · refine A_upto 1 ?_
          refine A_off ?_
          refine A_upto 4 ?_
          refine A_off ?_
          refine A_upto 4 ?_
          refine A_off ?_
          refine A_ops_end ?_
          obtain rfl : _ = v := hr
          exact w_k (A_cut hwf)
      · refine A_upto 5 ?_
        refine A_off ?_
        refine A_upto 4 ?_
        refine A_off ?_
        refine A_upto 4 ?_
        refine A_off ?_
        refine A_upto 4 ?_
        refine A_off ?_
        refine A_ops_end ?_
        obtain rfl : _ = v := hr
        exact w_k (A_cut hwf)
    refine w_ret ?_
    obtain rfl := hD _ hr
    exact (A_endR (A_cut (os' := []) (sl := [(0, .cv (.val (.bool v)))]) hwf) ⟨rfl, on_nil hwf⟩)
end Go.Val
