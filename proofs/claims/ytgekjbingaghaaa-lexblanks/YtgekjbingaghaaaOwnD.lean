/- A value semantics of the model's programs, sound against it, and functions read off the given program with the proofs that it runs so; no condition. -/
import Derived.Test.YtgekjbingaghaaaOwnC
import Derived.Sort.Defs
import Derived.Lib.BitFns
import Derived.Test.YtgekjbingaghaaaChecked
import Derived.SizedLaws
import Derived.ChangeArms
import Derived.RangeFuncNested
import Derived.RangeFuncBound
import Derived.RangeFuncCalls
import Derived.RangeFuncLeaves
import Derived.Shelf.Abstract
import Derived.Shelf.RegionOpen
import Derived.WalkKit
import Derived.OwnWalkIn
import Derived.TacticsInMore
import Derived.LoopNIn
import Derived.LoopIn
import Derived.Test.YtgekjbingaghaaaProg
import Derived.RangeFuncBox
import Derived.Maps.AppendAt
import Derived.Lib.Builder
import Derived.Shelf.Strings.Builder2
import Derived.Shelf.Strings.BuilderK
import Derived.Shelf.SlSortCmp.NoneTotal
import Derived.Shelf.SlicesG.Cmp
set_option linter.all false
set_option linter.unnecessarySimpa false
set_option linter.unusedVariables false
set_option linter.unusedSimpArgs false
/- part IT -/
/- Types of the program, as data. -/
namespace Go.Val
set_option linter.unusedVariables false
set_option linter.unusedSimpArgs false
structure TUnit where
  Rune : Int
  At : Int
  Width : Int
  Bad : Bool
  deriving DecidableEq, Inhabited
def eUnit (x : TUnit) : DVal := .agg [.int .i64 x.Rune, .int .i64 x.At, .int .i64 x.Width, .bool x.Bad]
instance : Enc eUnit 4 := ⟨fun _ => rfl, fun n x => by simp only [eUnit, DVal.under, underL, under_map, and_self]⟩
attribute [go_sem] eUnit
structure Tlex_reader where
  units : List TUnit
  place : Int
  whole : Int
  fault : Int
  deriving DecidableEq, Inhabited
def elex_reader (x : Tlex_reader) : DVal := .agg [.sl (List.map eUnit x.units), .int .i64 x.place, .int .i64 x.whole, .int .i64 x.fault]
instance : Enc elex_reader 4 := ⟨fun _ => rfl, fun n x => by simp only [elex_reader, DVal.under, underL, under_map, and_self]⟩
attribute [go_sem] elex_reader
structure TRange where
  Low : Int
  High : Int
  deriving DecidableEq, Inhabited
def eRange (x : TRange) : DVal := .agg [.int .i64 x.Low, .int .i64 x.High]
instance : Enc eRange 2 := ⟨fun _ => rfl, fun n x => by simp only [eRange, DVal.under, underL, under_map, and_self]⟩
attribute [go_sem] eRange
structure TToken where
  Kind : Int
  At : Int
  Text : Str
  Set : List TRange
  deriving DecidableEq, Inhabited
def eToken (x : TToken) : DVal := .agg [.int .i64 x.Kind, .int .i64 x.At, .str (bs x.Text), .sl (List.map eRange x.Set)]
instance : Enc eToken 4 := ⟨fun _ => rfl, fun n x => by simp only [eToken, DVal.under, underL, under_map, and_self]⟩
attribute [go_sem] eToken
end Go.Val

/- part IE -/
/- What is turned in place: slices.SortFunc at ranges; slices.Clone at ranges; what is told by hand: utf.Decode, utf.Runes. -/
namespace Go.Val
noncomputable section
def ltR (a b : TRange) : Bool := decide (a.Low < b.Low)
def sortR (l : List TRange) : Option (List TRange) :=
  if l.length ≤ roomOf then some (Go.Sort.pdq ltR l.toArray 0 l.length (Go.Lib.bitLen l.length) true true).toList else none
def slices_Clone_api_Range_api_Range (s : List TRange) : Option (List TRange) :=
  (room 16 (0 + s.length)).bind fun _ => some s
/-- What the first byte tells: how many bytes, and its bits. -/
def uHead (c : Nat) : Nat × Nat :=
  if c < 128 then (1, c) else if 194 ≤ c ∧ c < 224 then (2, c % 32) else if 224 ≤ c ∧ c < 240 then (3, c % 16) else if 240 ≤ c ∧ c < 245 then (4, c % 8) else (0, c)
/-- The bytes that go on: none, where one does not. -/
def uMore : Nat → List UInt8 → Nat → Option Nat
  | 0, _, r => some r
  | _ + 1, [], _ => none
  | n + 1, c :: l, r => if c.toNat / 64 = 2 then uMore n l (r * 64 + c.toNat % 64) else none
def uRight (r : Nat) : Bool := r ≤ 1114111 && (r < 55296 || r > 57343)
def uWidth (r : Nat) : Nat := if r < 128 then 1 else if r < 2048 then 2 else if r < 65536 then 3 else 4
/-- The unit with which bytes begin. -/
def uFirst (at_ : Nat) : List UInt8 → TUnit
  | [] => ⟨65533, at_, 1, true⟩
  | c :: l => match uHead c.toNat with
    | (0, _) => ⟨65533, at_, 1, true⟩
    | (n + 1, r) => match uMore n l r with
      | some q => if uRight q && uWidth q == n + 1 then ⟨q, at_, (n + 1 : Nat), false⟩ else ⟨65533, at_, 1, true⟩
      | none => ⟨65533, at_, 1, true⟩
def uUnits : Nat → Nat → List UInt8 → List TUnit
  | 0, _, _ => []
  | _ + 1, _, [] => []
  | k + 1, at_, c :: l => let u := uFirst at_ (c :: l); u :: uUnits k (at_ + u.Width.toNat) ((c :: l).drop u.Width.toNat)
/-- Bytes as units. -/
def units (b : List UInt8) : List TUnit := uUnits b.length 0 b
def utf_Decode (b : List UInt8) : Option (List TUnit) := if b.length ≤ 1048576 then some (units b) else none
/-- A set as a token's text. -/
def hexU : Nat → Str
  | n => if h : n < 16 then [if n < 10 then UInt8.ofNat (48 + n) else UInt8.ofNat (55 + n)] else hexU (n / 16) ++ hexU (n % 16)
decreasing_by all_goals omega
def hexX (n : Int) : Str := [92, 120, 123] ++ hexU n.toNat ++ [125]
def setText (l : List TRange) : Str := [91] ++ (l.flatMap fun x => hexX x.Low ++ if x.High = x.Low then [] else 45 :: hexX x.High) ++ [93]
def lex_Set (l : List TRange) : Option Str := if l.length ≤ 1200000 ∧ ∀ x ∈ l, 0 ≤ x.Low ∧ x.Low ≤ 1114111 ∧ 0 ≤ x.High ∧ x.High ≤ 1114111 then some (setText l) else none
def utf_Runes (b : List UInt8) : Option (List Int) := if b.length ≤ 1048576 then some ((units b).map TUnit.Rune) else none
open Classical in
def extOf {α : Type} (e : α → DVal) (f : List α → Option (List α)) (zs : List DVal) : Option (List DVal) :=
  if h : ∃ l : List α, zs = l.map e then (f h.choose).map (List.map e) else none
theorem map_inj {α : Type} {e : α → DVal} (hi : ∀ a b, e a = e b → a = b) : ∀ {l m : List α}, l.map e = m.map e → l = m
  | [], [], _ => rfl
  | [], _ :: _, h => by cases h
  | _ :: _, [], h => by cases h
  | a :: l, b :: m, h => by
    simp only [List.map_cons, List.cons.injEq] at h
    rw [hi a b h.1, map_inj hi h.2]
theorem extOf_map {α : Type} {e : α → DVal} (hi : ∀ a b, e a = e b → a = b) {f : List α → Option (List α)} {l l' : List α} (h : f l = some l') : extOf e f (l.map e) = some (l'.map e) := by
  have hx : ∃ m : List α, l.map e = m.map e := ⟨l, rfl⟩
  have hc : hx.choose = l := (map_inj hi hx.choose_spec).symm
  unfold extOf
  rw [dif_pos hx, hc, h]; rfl
theorem extOf_some {α : Type} {e : α → DVal} {f : List α → Option (List α)} {zs ys : List DVal} (h : extOf e f zs = some ys) : ∃ l l', zs = l.map e ∧ f l = some l' ∧ ys = l'.map e := by
  unfold extOf at h
  split at h
  · rename_i hx
    cases hf : f hx.choose with
    | none => rw [hf] at h; cases h
    | some l' => rw [hf] at h; cases h; exact ⟨_, l', hx.choose_spec, hf, rfl⟩
  · cases h
theorem eRange_inj (a b : TRange) (h : eRange a = eRange b) : a = b := by
  cases a; cases b
  simp only [eRange, DVal.agg.injEq, List.cons.injEq, DVal.int.injEq, true_and, and_true] at h
  simp only [TRange.mk.injEq]; exact h
open Classical in
def extR (g : FuncId) (ds : List DVal) (k : TypeId) (zs : List DVal) : Option (List DVal) :=
  if g = 94 ∧ ds = [.fn 95 [] []] ∧ k = 80 then extOf eRange sortR zs else none
theorem ext_sortR {l l' : List TRange} (h : sortR l = some l') : extR 94 [.fn 95 [] []] 80 (l.map eRange) = some (l'.map eRange) := by
  unfold extR
  rw [if_pos ⟨rfl, rfl, rfl⟩]; exact extOf_map eRange_inj h
def handL (f : FuncId) (a : List SV) (h : Heap) (o : List SV) (h' : Heap) : Prop :=
  h' = h ∧ ((f = 42 ∧ ∃ b u, a = [.cv (.val (.sl (List.map eU b)))] ∧ utf_Decode b = some u ∧ o = [.cv (.val (.sl (List.map eUnit u)))]) ∨
    (f = 54 ∧ ∃ b u, a = [.cv (.val (.sl (List.map eU b)))] ∧ utf_Runes b = some u ∧ o = [.cv (.val (.sl (List.map eI u)))]) ∨
    (f = 22 ∧ ∃ l u, a = [.cv (.val (.sl (List.map eRange l)))] ∧ lex_Set l = some u ∧ o = [.cv (.val (.str (bs u)))]))
end
end Go.Val

/- part IX -/
/- Facts of the program. -/
namespace Go.Val
set_option linter.unusedVariables false
set_option linter.unusedSimpArgs false
open Go.Proofs
noncomputable def CT : Ctx := { P := Try.prog, how := fun f i => if f = 97 ∧ i = 0 then .move else if f = 89 ∧ i = 0 then .move else .data, gives := fun f => if f = 97 then .move else if f = 89 then .move else if f = 93 then .move else .data, ext := extR, hand := handL }
theorem CT_P : CT.P = Try.prog := rfl
def someWorld : World := ⟨#[], fun _ _ => 0, 0, default, default⟩
theorem CT_gives42 : CT.gives 42 = .data := by simp [CT]
theorem CT_gives54 : CT.gives 54 = .data := by simp [CT]
theorem CT_gives93 : CT.gives 93 = .move := by simp [CT]
theorem CT_gives44 : CT.gives 44 = .data := by simp [CT]
theorem CT_gives78 : CT.gives 78 = .data := by simp [CT]
theorem CT_gives80 : CT.gives 80 = .data := by simp [CT]
theorem CT_gives79 : CT.gives 79 = .data := by simp [CT]
theorem CT_gives81 : CT.gives 81 = .data := by simp [CT]
theorem CT_gives43 : CT.gives 43 = .data := by simp [CT]
theorem CT_gives46 : CT.gives 46 = .data := by simp [CT]
theorem CT_gives112 : CT.gives 112 = .data := by simp [CT]
theorem CT_gives82 : CT.gives 82 = .data := by simp [CT]
theorem CT_gives55 : CT.gives 55 = .data := by simp [CT]
theorem CT_gives83 : CT.gives 83 = .data := by simp [CT]
theorem CT_gives129 : CT.gives 129 = .data := by simp [CT]
theorem CT_gives130 : CT.gives 130 = .data := by simp [CT]
theorem CT_gives153 : CT.gives 153 = .data := by simp [CT]
theorem CT_gives154 : CT.gives 154 = .data := by simp [CT]
theorem CT_gives155 : CT.gives 155 = .data := by simp [CT]
theorem CT_gives131 : CT.gives 131 = .data := by simp [CT]
theorem CT_gives113 : CT.gives 113 = .data := by simp [CT]
theorem CT_gives91 : CT.gives 91 = .data := by simp [CT]
theorem CT_gives120 : CT.gives 120 = .data := by simp [CT]
theorem CT_gives92 : CT.gives 92 = .data := by simp [CT]
theorem CT_gives97 : CT.gives 97 = .move := by simp [CT]
theorem CT_gives64 : CT.gives 64 = .data := by simp [CT]
theorem CT_gives84 : CT.gives 84 = .data := by simp [CT]
theorem CT_gives58 : CT.gives 58 = .data := by simp [CT]
theorem CT_gives45 : CT.gives 45 = .data := by simp [CT]
theorem CT_gives15 : CT.gives 15 = .data := by simp [CT]
theorem CT_gives14 : CT.gives 14 = .data := by simp [CT]
theorem CT_gives114 : CT.gives 114 = .data := by simp [CT]
theorem CT_gives132 : CT.gives 132 = .data := by simp [CT]
theorem CT_gives115 : CT.gives 115 = .data := by simp [CT]
theorem CT_gives85 : CT.gives 85 = .data := by simp [CT]
theorem CT_gives47 : CT.gives 47 = .data := by simp [CT]
theorem CT_gives48 : CT.gives 48 = .data := by simp [CT]
theorem CT_gives49 : CT.gives 49 = .data := by simp [CT]
theorem CT_gives50 : CT.gives 50 = .data := by simp [CT]
theorem CT_gives51 : CT.gives 51 = .data := by simp [CT]
theorem CT_gives118 : CT.gives 118 = .data := by simp [CT]
theorem CT_gives88 : CT.gives 88 = .data := by simp [CT]
theorem CT_gives28 : CT.gives 28 = .data := by simp [CT]
theorem CT_gives89 : CT.gives 89 = .move := by simp [CT]
theorem CT_gives59 : CT.gives 59 = .data := by simp [CT]
theorem CT_gives21 : CT.gives 21 = .data := by simp [CT]
theorem CT_gives116 : CT.gives 116 = .data := by simp [CT]
theorem CT_gives133 : CT.gives 133 = .data := by simp [CT]
theorem CT_gives117 : CT.gives 117 = .data := by simp [CT]
theorem CT_gives86 : CT.gives 86 = .data := by simp [CT]
theorem CT_gives52 : CT.gives 52 = .data := by simp [CT]
theorem CT_gives53 : CT.gives 53 = .data := by simp [CT]
theorem CT_gives16 : CT.gives 16 = .data := by simp [CT]
theorem CT_gives18 : CT.gives 18 = .data := by simp [CT]
theorem CT_gives17 : CT.gives 17 = .data := by simp [CT]
theorem CT_gives3 : CT.gives 3 = .data := by simp [CT]
theorem CT_gives4 : CT.gives 4 = .data := by simp [CT]
theorem CT_gives5 : CT.gives 5 = .data := by simp [CT]
theorem CT_gives6 : CT.gives 6 = .data := by simp [CT]
theorem CT_gives87 : CT.gives 87 = .data := by simp [CT]
theorem CT_gives56 : CT.gives 56 = .data := by simp [CT]
theorem CT_gives57 : CT.gives 57 = .data := by simp [CT]
theorem CT_gives19 : CT.gives 19 = .data := by simp [CT]
theorem CT_gives20 : CT.gives 20 = .data := by simp [CT]
theorem CT_gives7 : CT.gives 7 = .data := by simp [CT]
theorem CT_gives61 : CT.gives 61 = .data := by simp [CT]
theorem CT_gives22 : CT.gives 22 = .data := by simp [CT]
theorem CT_gives63 : CT.gives 63 = .data := by simp [CT]
theorem CT_gives23 : CT.gives 23 = .data := by simp [CT]
theorem CT_gives8 : CT.gives 8 = .data := by simp [CT]
theorem CT_how42_0 : CT.how 42 0 = .data := by simp [CT]
theorem CT_how54_0 : CT.how 54 0 = .data := by simp [CT]
theorem CT_how93_0 : CT.how 93 0 = .data := by simp [CT]
theorem CT_how44_0 : CT.how 44 0 = .data := by simp [CT]
theorem CT_how78_0 : CT.how 78 0 = .data := by simp [CT]
theorem CT_how78_1 : CT.how 78 1 = .data := by simp [CT]
theorem CT_how80_0 : CT.how 80 0 = .data := by simp [CT]
theorem CT_how80_1 : CT.how 80 1 = .data := by simp [CT]
theorem CT_how79_0 : CT.how 79 0 = .data := by simp [CT]
theorem CT_how81_0 : CT.how 81 0 = .data := by simp [CT]
theorem CT_how43_0 : CT.how 43 0 = .data := by simp [CT]
theorem CT_how46_0 : CT.how 46 0 = .data := by simp [CT]
theorem CT_how112_0 : CT.how 112 0 = .data := by simp [CT]
theorem CT_how82_0 : CT.how 82 0 = .data := by simp [CT]
theorem CT_how82_1 : CT.how 82 1 = .data := by simp [CT]
theorem CT_how55_0 : CT.how 55 0 = .data := by simp [CT]
theorem CT_how83_0 : CT.how 83 0 = .data := by simp [CT]
theorem CT_how129_0 : CT.how 129 0 = .data := by simp [CT]
theorem CT_how130_0 : CT.how 130 0 = .data := by simp [CT]
theorem CT_how153_0 : CT.how 153 0 = .data := by simp [CT]
theorem CT_how154_0 : CT.how 154 0 = .data := by simp [CT]
theorem CT_how155_0 : CT.how 155 0 = .data := by simp [CT]
theorem CT_how131_0 : CT.how 131 0 = .data := by simp [CT]
theorem CT_how113_0 : CT.how 113 0 = .data := by simp [CT]
theorem CT_how91_0 : CT.how 91 0 = .data := by simp [CT]
theorem CT_how120_0 : CT.how 120 0 = .data := by simp [CT]
theorem CT_how120_1 : CT.how 120 1 = .data := by simp [CT]
theorem CT_how92_0 : CT.how 92 0 = .data := by simp [CT]
theorem CT_how92_1 : CT.how 92 1 = .data := by simp [CT]
theorem CT_how97_0 : CT.how 97 0 = .move := by simp [CT]
theorem CT_how97_1 : CT.how 97 1 = .data := by simp [CT]
theorem CT_how64_0 : CT.how 64 0 = .data := by simp [CT]
theorem CT_how84_0 : CT.how 84 0 = .data := by simp [CT]
theorem CT_how58_0 : CT.how 58 0 = .data := by simp [CT]
theorem CT_how45_0 : CT.how 45 0 = .data := by simp [CT]
theorem CT_how45_1 : CT.how 45 1 = .data := by simp [CT]
theorem CT_how15_0 : CT.how 15 0 = .data := by simp [CT]
theorem CT_how114_0 : CT.how 114 0 = .data := by simp [CT]
theorem CT_how132_0 : CT.how 132 0 = .data := by simp [CT]
theorem CT_how115_0 : CT.how 115 0 = .data := by simp [CT]
theorem CT_how85_0 : CT.how 85 0 = .data := by simp [CT]
theorem CT_how47_0 : CT.how 47 0 = .data := by simp [CT]
theorem CT_how48_0 : CT.how 48 0 = .data := by simp [CT]
theorem CT_how48_1 : CT.how 48 1 = .data := by simp [CT]
theorem CT_how49_0 : CT.how 49 0 = .data := by simp [CT]
theorem CT_how50_0 : CT.how 50 0 = .data := by simp [CT]
theorem CT_how51_0 : CT.how 51 0 = .data := by simp [CT]
theorem CT_how51_1 : CT.how 51 1 = .data := by simp [CT]
theorem CT_how118_0 : CT.how 118 0 = .data := by simp [CT]
theorem CT_how118_1 : CT.how 118 1 = .data := by simp [CT]
theorem CT_how88_0 : CT.how 88 0 = .data := by simp [CT]
theorem CT_how88_1 : CT.how 88 1 = .data := by simp [CT]
theorem CT_how28_0 : CT.how 28 0 = .data := by simp [CT]
theorem CT_how28_1 : CT.how 28 1 = .data := by simp [CT]
theorem CT_how89_0 : CT.how 89 0 = .move := by simp [CT]
theorem CT_how89_1 : CT.how 89 1 = .data := by simp [CT]
theorem CT_how89_2 : CT.how 89 2 = .data := by simp [CT]
theorem CT_how59_0 : CT.how 59 0 = .data := by simp [CT]
theorem CT_how59_1 : CT.how 59 1 = .data := by simp [CT]
theorem CT_how59_2 : CT.how 59 2 = .data := by simp [CT]
theorem CT_how21_0 : CT.how 21 0 = .data := by simp [CT]
theorem CT_how116_0 : CT.how 116 0 = .data := by simp [CT]
theorem CT_how133_0 : CT.how 133 0 = .data := by simp [CT]
theorem CT_how117_0 : CT.how 117 0 = .data := by simp [CT]
theorem CT_how117_1 : CT.how 117 1 = .data := by simp [CT]
theorem CT_how86_0 : CT.how 86 0 = .data := by simp [CT]
theorem CT_how86_1 : CT.how 86 1 = .data := by simp [CT]
theorem CT_how52_0 : CT.how 52 0 = .data := by simp [CT]
theorem CT_how52_1 : CT.how 52 1 = .data := by simp [CT]
theorem CT_how53_0 : CT.how 53 0 = .data := by simp [CT]
theorem CT_how16_0 : CT.how 16 0 = .data := by simp [CT]
theorem CT_how18_0 : CT.how 18 0 = .data := by simp [CT]
theorem CT_how18_1 : CT.how 18 1 = .data := by simp [CT]
theorem CT_how17_0 : CT.how 17 0 = .data := by simp [CT]
theorem CT_how17_1 : CT.how 17 1 = .data := by simp [CT]
theorem CT_how3_0 : CT.how 3 0 = .data := by simp [CT]
theorem CT_how4_0 : CT.how 4 0 = .data := by simp [CT]
theorem CT_how4_1 : CT.how 4 1 = .data := by simp [CT]
theorem CT_how5_0 : CT.how 5 0 = .data := by simp [CT]
theorem CT_how6_0 : CT.how 6 0 = .data := by simp [CT]
theorem CT_how6_1 : CT.how 6 1 = .data := by simp [CT]
theorem CT_how87_0 : CT.how 87 0 = .data := by simp [CT]
theorem CT_how87_1 : CT.how 87 1 = .data := by simp [CT]
theorem CT_how56_0 : CT.how 56 0 = .data := by simp [CT]
theorem CT_how56_1 : CT.how 56 1 = .data := by simp [CT]
theorem CT_how57_0 : CT.how 57 0 = .data := by simp [CT]
theorem CT_how19_0 : CT.how 19 0 = .data := by simp [CT]
theorem CT_how20_0 : CT.how 20 0 = .data := by simp [CT]
theorem CT_how7_0 : CT.how 7 0 = .data := by simp [CT]
theorem CT_how61_0 : CT.how 61 0 = .data := by simp [CT]
theorem CT_how22_0 : CT.how 22 0 = .data := by simp [CT]
theorem CT_how63_0 : CT.how 63 0 = .data := by simp [CT]
theorem CT_how23_0 : CT.how 23 0 = .data := by simp [CT]
theorem CT_how8_0 : CT.how 8 0 = .data := by simp [CT]
theorem moveGive_nil {h : Heap} {s : St} : moveGive h s (.cv .nil) = some ([.cv .nil], h) := rfl
theorem moveGive_row {h : Heap} {s : St} {k : Nat} {xs : List DVal} : moveGive h s (.cv (.row k xs)) = some ([.cv (.row k xs)], h) := rfl
attribute [go_sem] moveGive_nil moveGive_row
theorem sizes_rep1 {n : Nat} {a b : DVal} : sizesOk 2 (List.replicate n (.agg [a, b])) = true := by simp [sizesOk, DVal.cells]
theorem sizes_rep2 {n : Nat} {a b c : DVal} : sizesOk 3 (List.replicate n (.agg [a, b, c])) = true := by simp [sizesOk, DVal.cells]
theorem sizes_rep3 {n : Nat} {k : IntKind} {a : Int} : sizesOk 1 (List.replicate n (.int k a)) = true := by simp [sizesOk, DVal.cells]
theorem sizes_rep4 {n : Nat} {a : Bool} : sizesOk 1 (List.replicate n (.bool a)) = true := by simp [sizesOk, DVal.cells]
attribute [go_sem] sizes_rep1 sizes_rep2 sizes_rep3 sizes_rep4 List.length_replicate decide_true Nat.lt_irrefl
theorem resd42 {s : St} {r : ResultVar} {rs : List ResultVar} : results CT 42 s (r :: rs) = resHead CT 42 s rs (resVal CT.P s r) := results_data CT_gives42
theorem resd54 {s : St} {r : ResultVar} {rs : List ResultVar} : results CT 54 s (r :: rs) = resHead CT 54 s rs (resVal CT.P s r) := results_data CT_gives54
theorem resd44 {s : St} {r : ResultVar} {rs : List ResultVar} : results CT 44 s (r :: rs) = resHead CT 44 s rs (resVal CT.P s r) := results_data CT_gives44
theorem resd80 {s : St} {r : ResultVar} {rs : List ResultVar} : results CT 80 s (r :: rs) = resHead CT 80 s rs (resVal CT.P s r) := results_data CT_gives80
theorem resd79 {s : St} {r : ResultVar} {rs : List ResultVar} : results CT 79 s (r :: rs) = resHead CT 79 s rs (resVal CT.P s r) := results_data CT_gives79
theorem resd81 {s : St} {r : ResultVar} {rs : List ResultVar} : results CT 81 s (r :: rs) = resHead CT 81 s rs (resVal CT.P s r) := results_data CT_gives81
theorem resd46 {s : St} {r : ResultVar} {rs : List ResultVar} : results CT 46 s (r :: rs) = resHead CT 46 s rs (resVal CT.P s r) := results_data CT_gives46
theorem resd82 {s : St} {r : ResultVar} {rs : List ResultVar} : results CT 82 s (r :: rs) = resHead CT 82 s rs (resVal CT.P s r) := results_data CT_gives82
theorem resd55 {s : St} {r : ResultVar} {rs : List ResultVar} : results CT 55 s (r :: rs) = resHead CT 55 s rs (resVal CT.P s r) := results_data CT_gives55
theorem resd83 {s : St} {r : ResultVar} {rs : List ResultVar} : results CT 83 s (r :: rs) = resHead CT 83 s rs (resVal CT.P s r) := results_data CT_gives83
theorem resd129 {s : St} {r : ResultVar} {rs : List ResultVar} : results CT 129 s (r :: rs) = resHead CT 129 s rs (resVal CT.P s r) := results_data CT_gives129
theorem resd130 {s : St} {r : ResultVar} {rs : List ResultVar} : results CT 130 s (r :: rs) = resHead CT 130 s rs (resVal CT.P s r) := results_data CT_gives130
theorem resd153 {s : St} {r : ResultVar} {rs : List ResultVar} : results CT 153 s (r :: rs) = resHead CT 153 s rs (resVal CT.P s r) := results_data CT_gives153
theorem resd154 {s : St} {r : ResultVar} {rs : List ResultVar} : results CT 154 s (r :: rs) = resHead CT 154 s rs (resVal CT.P s r) := results_data CT_gives154
theorem resd155 {s : St} {r : ResultVar} {rs : List ResultVar} : results CT 155 s (r :: rs) = resHead CT 155 s rs (resVal CT.P s r) := results_data CT_gives155
theorem resd131 {s : St} {r : ResultVar} {rs : List ResultVar} : results CT 131 s (r :: rs) = resHead CT 131 s rs (resVal CT.P s r) := results_data CT_gives131
theorem resd113 {s : St} {r : ResultVar} {rs : List ResultVar} : results CT 113 s (r :: rs) = resHead CT 113 s rs (resVal CT.P s r) := results_data CT_gives113
theorem resd91 {s : St} {r : ResultVar} {rs : List ResultVar} : results CT 91 s (r :: rs) = resHead CT 91 s rs (resVal CT.P s r) := results_data CT_gives91
theorem resd120 {s : St} {r : ResultVar} {rs : List ResultVar} : results CT 120 s (r :: rs) = resHead CT 120 s rs (resVal CT.P s r) := results_data CT_gives120
theorem resd92 {s : St} {r : ResultVar} {rs : List ResultVar} : results CT 92 s (r :: rs) = resHead CT 92 s rs (resVal CT.P s r) := results_data CT_gives92
theorem resd64 {s : St} {r : ResultVar} {rs : List ResultVar} : results CT 64 s (r :: rs) = resHead CT 64 s rs (resVal CT.P s r) := results_data CT_gives64
theorem resd84 {s : St} {r : ResultVar} {rs : List ResultVar} : results CT 84 s (r :: rs) = resHead CT 84 s rs (resVal CT.P s r) := results_data CT_gives84
theorem resd58 {s : St} {r : ResultVar} {rs : List ResultVar} : results CT 58 s (r :: rs) = resHead CT 58 s rs (resVal CT.P s r) := results_data CT_gives58
theorem resd45 {s : St} {r : ResultVar} {rs : List ResultVar} : results CT 45 s (r :: rs) = resHead CT 45 s rs (resVal CT.P s r) := results_data CT_gives45
theorem resd15 {s : St} {r : ResultVar} {rs : List ResultVar} : results CT 15 s (r :: rs) = resHead CT 15 s rs (resVal CT.P s r) := results_data CT_gives15
theorem resd14 {s : St} {r : ResultVar} {rs : List ResultVar} : results CT 14 s (r :: rs) = resHead CT 14 s rs (resVal CT.P s r) := results_data CT_gives14
theorem resd114 {s : St} {r : ResultVar} {rs : List ResultVar} : results CT 114 s (r :: rs) = resHead CT 114 s rs (resVal CT.P s r) := results_data CT_gives114
theorem resd132 {s : St} {r : ResultVar} {rs : List ResultVar} : results CT 132 s (r :: rs) = resHead CT 132 s rs (resVal CT.P s r) := results_data CT_gives132
theorem resd115 {s : St} {r : ResultVar} {rs : List ResultVar} : results CT 115 s (r :: rs) = resHead CT 115 s rs (resVal CT.P s r) := results_data CT_gives115
theorem resd85 {s : St} {r : ResultVar} {rs : List ResultVar} : results CT 85 s (r :: rs) = resHead CT 85 s rs (resVal CT.P s r) := results_data CT_gives85
theorem resd47 {s : St} {r : ResultVar} {rs : List ResultVar} : results CT 47 s (r :: rs) = resHead CT 47 s rs (resVal CT.P s r) := results_data CT_gives47
theorem resd48 {s : St} {r : ResultVar} {rs : List ResultVar} : results CT 48 s (r :: rs) = resHead CT 48 s rs (resVal CT.P s r) := results_data CT_gives48
theorem resd49 {s : St} {r : ResultVar} {rs : List ResultVar} : results CT 49 s (r :: rs) = resHead CT 49 s rs (resVal CT.P s r) := results_data CT_gives49
theorem resd50 {s : St} {r : ResultVar} {rs : List ResultVar} : results CT 50 s (r :: rs) = resHead CT 50 s rs (resVal CT.P s r) := results_data CT_gives50
theorem resd51 {s : St} {r : ResultVar} {rs : List ResultVar} : results CT 51 s (r :: rs) = resHead CT 51 s rs (resVal CT.P s r) := results_data CT_gives51
theorem resd118 {s : St} {r : ResultVar} {rs : List ResultVar} : results CT 118 s (r :: rs) = resHead CT 118 s rs (resVal CT.P s r) := results_data CT_gives118
theorem resd88 {s : St} {r : ResultVar} {rs : List ResultVar} : results CT 88 s (r :: rs) = resHead CT 88 s rs (resVal CT.P s r) := results_data CT_gives88
theorem resd28 {s : St} {r : ResultVar} {rs : List ResultVar} : results CT 28 s (r :: rs) = resHead CT 28 s rs (resVal CT.P s r) := results_data CT_gives28
theorem resd59 {s : St} {r : ResultVar} {rs : List ResultVar} : results CT 59 s (r :: rs) = resHead CT 59 s rs (resVal CT.P s r) := results_data CT_gives59
theorem resd21 {s : St} {r : ResultVar} {rs : List ResultVar} : results CT 21 s (r :: rs) = resHead CT 21 s rs (resVal CT.P s r) := results_data CT_gives21
theorem resd116 {s : St} {r : ResultVar} {rs : List ResultVar} : results CT 116 s (r :: rs) = resHead CT 116 s rs (resVal CT.P s r) := results_data CT_gives116
theorem resd133 {s : St} {r : ResultVar} {rs : List ResultVar} : results CT 133 s (r :: rs) = resHead CT 133 s rs (resVal CT.P s r) := results_data CT_gives133
theorem resd117 {s : St} {r : ResultVar} {rs : List ResultVar} : results CT 117 s (r :: rs) = resHead CT 117 s rs (resVal CT.P s r) := results_data CT_gives117
theorem resd86 {s : St} {r : ResultVar} {rs : List ResultVar} : results CT 86 s (r :: rs) = resHead CT 86 s rs (resVal CT.P s r) := results_data CT_gives86
theorem resd52 {s : St} {r : ResultVar} {rs : List ResultVar} : results CT 52 s (r :: rs) = resHead CT 52 s rs (resVal CT.P s r) := results_data CT_gives52
theorem resd53 {s : St} {r : ResultVar} {rs : List ResultVar} : results CT 53 s (r :: rs) = resHead CT 53 s rs (resVal CT.P s r) := results_data CT_gives53
theorem resd16 {s : St} {r : ResultVar} {rs : List ResultVar} : results CT 16 s (r :: rs) = resHead CT 16 s rs (resVal CT.P s r) := results_data CT_gives16
theorem resd18 {s : St} {r : ResultVar} {rs : List ResultVar} : results CT 18 s (r :: rs) = resHead CT 18 s rs (resVal CT.P s r) := results_data CT_gives18
theorem resd17 {s : St} {r : ResultVar} {rs : List ResultVar} : results CT 17 s (r :: rs) = resHead CT 17 s rs (resVal CT.P s r) := results_data CT_gives17
theorem resd3 {s : St} {r : ResultVar} {rs : List ResultVar} : results CT 3 s (r :: rs) = resHead CT 3 s rs (resVal CT.P s r) := results_data CT_gives3
theorem resd4 {s : St} {r : ResultVar} {rs : List ResultVar} : results CT 4 s (r :: rs) = resHead CT 4 s rs (resVal CT.P s r) := results_data CT_gives4
theorem resd5 {s : St} {r : ResultVar} {rs : List ResultVar} : results CT 5 s (r :: rs) = resHead CT 5 s rs (resVal CT.P s r) := results_data CT_gives5
theorem resd6 {s : St} {r : ResultVar} {rs : List ResultVar} : results CT 6 s (r :: rs) = resHead CT 6 s rs (resVal CT.P s r) := results_data CT_gives6
theorem resd87 {s : St} {r : ResultVar} {rs : List ResultVar} : results CT 87 s (r :: rs) = resHead CT 87 s rs (resVal CT.P s r) := results_data CT_gives87
theorem resd56 {s : St} {r : ResultVar} {rs : List ResultVar} : results CT 56 s (r :: rs) = resHead CT 56 s rs (resVal CT.P s r) := results_data CT_gives56
theorem resd57 {s : St} {r : ResultVar} {rs : List ResultVar} : results CT 57 s (r :: rs) = resHead CT 57 s rs (resVal CT.P s r) := results_data CT_gives57
theorem resd19 {s : St} {r : ResultVar} {rs : List ResultVar} : results CT 19 s (r :: rs) = resHead CT 19 s rs (resVal CT.P s r) := results_data CT_gives19
theorem resd20 {s : St} {r : ResultVar} {rs : List ResultVar} : results CT 20 s (r :: rs) = resHead CT 20 s rs (resVal CT.P s r) := results_data CT_gives20
theorem resd7 {s : St} {r : ResultVar} {rs : List ResultVar} : results CT 7 s (r :: rs) = resHead CT 7 s rs (resVal CT.P s r) := results_data CT_gives7
theorem resd61 {s : St} {r : ResultVar} {rs : List ResultVar} : results CT 61 s (r :: rs) = resHead CT 61 s rs (resVal CT.P s r) := results_data CT_gives61
theorem resd22 {s : St} {r : ResultVar} {rs : List ResultVar} : results CT 22 s (r :: rs) = resHead CT 22 s rs (resVal CT.P s r) := results_data CT_gives22
theorem resd63 {s : St} {r : ResultVar} {rs : List ResultVar} : results CT 63 s (r :: rs) = resHead CT 63 s rs (resVal CT.P s r) := results_data CT_gives63
theorem resd23 {s : St} {r : ResultVar} {rs : List ResultVar} : results CT 23 s (r :: rs) = resHead CT 23 s rs (resVal CT.P s r) := results_data CT_gives23
theorem resd8 {s : St} {r : ResultVar} {rs : List ResultVar} : results CT 8 s (r :: rs) = resHead CT 8 s rs (resVal CT.P s r) := results_data CT_gives8
theorem resd93 {s : St} {t : Nat} : results CT 93 s [.tmp t] = moveGive s.box s (s.get t) := results_move CT_gives93
theorem resd97 {s : St} {t : Nat} : results CT 97 s [.tmp t] = moveGive s.box s (s.get t) := results_move CT_gives97
theorem resd89 {s : St} {t : Nat} : results CT 89 s [.tmp t] = moveGive s.box s (s.get t) := results_move CT_gives89
attribute [go_sem] resd42 Try.results42 resd54 Try.results54 resd93 Try.results93 resd44 Try.results44 Try.results78 resd80 Try.results80 resd79 Try.results79 resd81 Try.results81 Try.results43 resd46 Try.results46 Try.results112 resd82 Try.results82 resd55 Try.results55 resd83 Try.results83 resd129 Try.results129 resd130 Try.results130 resd153 Try.results153 resd154 Try.results154 resd155 Try.results155 resd131 Try.results131 resd113 Try.results113 resd91 Try.results91 resd120 Try.results120 resd92 Try.results92 resd97 Try.results97 resd64 Try.results64 resd84 Try.results84 resd58 Try.results58 resd45 Try.results45 resd15 Try.results15 resd14 Try.results14 resd114 Try.results114 resd132 Try.results132 resd115 Try.results115 resd85 Try.results85 resd47 Try.results47 resd48 Try.results48 resd49 Try.results49 resd50 Try.results50 resd51 Try.results51 resd118 Try.results118 resd88 Try.results88 resd28 Try.results28 resd89 Try.results89 resd59 Try.results59 resd21 Try.results21 resd116 Try.results116 resd133 Try.results133 resd117 Try.results117 resd86 Try.results86 resd52 Try.results52 resd53 Try.results53 resd16 Try.results16 resd18 Try.results18 resd17 Try.results17 resd3 Try.results3 resd4 Try.results4 resd5 Try.results5 resd6 Try.results6 resd87 Try.results87 resd56 Try.results56 resd57 Try.results57 resd19 Try.results19 resd20 Try.results20 resd7 Try.results7 resd61 Try.results61 resd22 Try.results22 resd63 Try.results63 resd23 Try.results23 resd8 Try.results8
theorem info3 : Try.prog.info? 3 = some Try.t3 := info_of someWorld Try.typeInfo3
theorem info68 : Try.prog.info? 68 = some Try.t68 := info_of someWorld Try.typeInfo68
theorem info75 : Try.prog.info? 75 = some Try.t75 := info_of someWorld Try.typeInfo75
theorem info4 : Try.prog.info? 4 = some Try.t4 := info_of someWorld Try.typeInfo4
theorem info25 : Try.prog.info? 25 = some Try.t25 := info_of someWorld Try.typeInfo25
theorem info80 : Try.prog.info? 80 = some Try.t80 := info_of someWorld Try.typeInfo80
theorem info33 : Try.prog.info? 33 = some Try.t33 := info_of someWorld Try.typeInfo33
theorem info9 : Try.prog.info? 9 = some Try.t9 := info_of someWorld Try.typeInfo9
theorem info31 : Try.prog.info? 31 = some Try.t31 := info_of someWorld Try.typeInfo31
theorem info5 : Try.prog.info? 5 = some Try.t5 := info_of someWorld Try.typeInfo5
theorem info71 : Try.prog.info? 71 = some Try.t71 := info_of someWorld Try.typeInfo71
theorem info22 : Try.prog.info? 22 = some Try.t22 := info_of someWorld Try.typeInfo22
theorem cells3 : Try.prog.cellsOf 3 = 1 := (cells_of info3).trans rfl
theorem cells68 : Try.prog.cellsOf 68 = 1 := (cells_of info68).trans rfl
theorem cells75 : Try.prog.cellsOf 75 = 4 := (cells_of info75).trans rfl
theorem cells4 : Try.prog.cellsOf 4 = 1 := (cells_of info4).trans rfl
theorem cells25 : Try.prog.cellsOf 25 = 1 := (cells_of info25).trans rfl
theorem cells80 : Try.prog.cellsOf 80 = 2 := (cells_of info80).trans rfl
theorem cells9 : Try.prog.cellsOf 9 = 1 := (cells_of info9).trans rfl
theorem cells31 : Try.prog.cellsOf 31 = 1 := (cells_of info31).trans rfl
theorem cells33 : Try.prog.cellsOf 33 = 4 := (cells_of info33).trans rfl
theorem cells5 : Try.prog.cellsOf 5 = 1 := (cells_of info5).trans rfl
theorem cells71 : Try.prog.cellsOf 71 = 4 := (cells_of info71).trans rfl
theorem cells22 : Try.prog.cellsOf 22 = 1 := (cells_of info22).trans rfl
theorem zok80 : zeroOk Try.prog 80 = true := by unfold zeroOk; rw [info80]; rfl
theorem bytes80 : Try.prog.bytesOf 80 = 16 := (bytes_of info80).trans rfl
theorem zfits80 : zeroFits Try.prog 80 = true := by unfold zeroFits; rw [info80]; rfl
theorem zeros80 : zeroCVs Try.prog 80 = some [.val (.int .i64 (0 : Int)), .val (.int .i64 (0 : Int))] := by
  unfold zeroCVs isAg; rw [info80, Try.underlying80]; simp [bs, zeroCV, Try.t80]
theorem zeros3 : zeroCVs Try.prog 3 = some [.val (.int .i64 (0 : Int))] := by
  unfold zeroCVs isAg; rw [info3, Try.underlying3]; simp [bs, zeroCV, Try.t3]
theorem fok80 : fieldsOk Try.prog 80 = true := by
  unfold fieldsOk; rw [Try.underlying80]; simp [info3, info3]
theorem place80_0 : place Try.prog 80 0 = some (0, 1) := by
  unfold place; rw [Try.underlying80]; simp [cells3]
theorem place80_1 : place Try.prog 80 1 = some (1, 1) := by
  unfold place; rw [Try.underlying80]; simp [cells3]
theorem zeros33 : zeroCVs Try.prog 33 = some [.val (.int .i64 (0 : Int)), .val (.int .i64 (0 : Int)), .val (.str (bs ([] : Str))), .nil] := by
  unfold zeroCVs isAg; rw [info33, Try.underlying33]; simp [bs, zeroCV, Try.t33]
theorem zeros9 : zeroCVs Try.prog 9 = some [.val (.str (bs ([] : Str)))] := by
  unfold zeroCVs isAg; rw [info9, Try.underlying9]; simp [bs, zeroCV, Try.t9]
theorem zeros31 : zeroCVs Try.prog 31 = some [.nil] := by
  unfold zeroCVs isAg; rw [info31, Try.underlying31]; simp [bs, zeroCV, Try.t31]
theorem fok33 : fieldsOk Try.prog 33 = true := by
  unfold fieldsOk; rw [Try.underlying33]; simp [info3, info3, info9, info31]
theorem place33_0 : place Try.prog 33 0 = some (0, 1) := by
  unfold place; rw [Try.underlying33]; simp [cells3]
theorem place33_1 : place Try.prog 33 1 = some (1, 1) := by
  unfold place; rw [Try.underlying33]; simp [cells3]
theorem place33_2 : place Try.prog 33 2 = some (2, 1) := by
  unfold place; rw [Try.underlying33]; simp [cells9]
theorem place33_3 : place Try.prog 33 3 = some (3, 1) := by
  unfold place; rw [Try.underlying33]; simp [cells31]
theorem u8_5 : isU8 Try.prog 5 = true := by unfold isU8; rw [Try.underlying5]
theorem fok71 : fieldsOk Try.prog 71 = true := by
  unfold fieldsOk; rw [Try.underlying71]; simp [info68, info3, info3, info25]
theorem place71_0 : place Try.prog 71 0 = some (0, 1) := by
  unfold place; rw [Try.underlying71]; simp [cells68]
theorem place71_1 : place Try.prog 71 1 = some (1, 1) := by
  unfold place; rw [Try.underlying71]; simp [cells3]
theorem place71_2 : place Try.prog 71 2 = some (2, 1) := by
  unfold place; rw [Try.underlying71]; simp [cells3]
theorem place71_3 : place Try.prog 71 3 = some (3, 1) := by
  unfold place; rw [Try.underlying71]; simp [cells25]
theorem zeros71 : zeroCVs Try.prog 71 = some [.nil, .val (.int .i64 (0 : Int)), .val (.int .i64 (0 : Int)), .val (.int .i64 (0 : Int))] := by
  unfold zeroCVs isAg; rw [info71, Try.underlying71]; simp [bs, zeroCV, Try.t71]
theorem zeros68 : zeroCVs Try.prog 68 = some [.nil] := by
  unfold zeroCVs isAg; rw [info68, Try.underlying68]; simp [bs, zeroCV, Try.t68]
theorem zeros25 : zeroCVs Try.prog 25 = some [.val (.int .i64 (0 : Int))] := by
  unfold zeroCVs isAg; rw [info25, Try.underlying25]; simp [bs, zeroCV, Try.t25]
theorem zok33 : zeroOk Try.prog 33 = true := by unfold zeroOk; rw [info33]; rfl
theorem bytes33 : Try.prog.bytesOf 33 = 56 := (bytes_of info33).trans rfl
theorem zfits33 : zeroFits Try.prog 33 = true := by unfold zeroFits; rw [info33]; rfl
theorem zok5 : zeroOk Try.prog 5 = true := by unfold zeroOk; rw [info5]; rfl
theorem zeros75 : zeroCVs Try.prog 75 = some [.val (.int .i64 (0 : Int)), .val (.int .i64 (0 : Int)), .val (.int .i64 (0 : Int)), .val (.bool false)] := by
  unfold zeroCVs isAg; rw [info75, Try.underlying75]; simp [bs, zeroCV, Try.t75]
theorem zeros4 : zeroCVs Try.prog 4 = some [.val (.bool false)] := by
  unfold zeroCVs isAg; rw [info4, Try.underlying4]; simp [bs, zeroCV, Try.t4]
theorem fok75 : fieldsOk Try.prog 75 = true := by
  unfold fieldsOk; rw [Try.underlying75]; simp [info3, info3, info3, info4]
theorem place75_0 : place Try.prog 75 0 = some (0, 1) := by
  unfold place; rw [Try.underlying75]; simp [cells3]
theorem place75_1 : place Try.prog 75 1 = some (1, 1) := by
  unfold place; rw [Try.underlying75]; simp [cells3]
theorem place75_2 : place Try.prog 75 2 = some (2, 1) := by
  unfold place; rw [Try.underlying75]; simp [cells3]
theorem place75_3 : place Try.prog 75 3 = some (3, 1) := by
  unfold place; rw [Try.underlying75]; simp [cells4]
theorem zok75 : zeroOk Try.prog 75 = true := by unfold zeroOk; rw [info75]; rfl
theorem bytes75 : Try.prog.bytesOf 75 = 32 := (bytes_of info75).trans rfl
theorem zfits75 : zeroFits Try.prog 75 = true := by unfold zeroFits; rw [info75]; rfl
theorem zok3 : zeroOk Try.prog 3 = true := by unfold zeroOk; rw [info3]; rfl
theorem bytes3 : Try.prog.bytesOf 3 = 8 := (bytes_of info3).trans rfl
theorem zfits3 : zeroFits Try.prog 3 = true := by unfold zeroFits; rw [info3]; rfl
theorem eqs80 : Try.prog.stoodInHeld 80 = false := by kernel_rfl
theorem eqg80 : Try.prog.eqGuardType Try.prog.depth 80 = false := by kernel_rfl
theorem eqBeql80 {a0 b0 : Int} {a1 b1 : Int} : eqBin Try.prog .eql 80 (.agg [.int .i64 a0, .int .i64 a1]) (.agg [.int .i64 b0, .int .i64 b1]) = some (.bool (a0 == b0 && (a1 == b1 && true))) :=
  eqBin_eql (eqD_of Try.underlying80 eqs80 eqg80 (eqF_cons (by simp [isAg, Try.underlying3]) (by simp [eqF1, Try.underlying3, scalarEq, bs_beq']) (eqF_cons (by simp [isAg, Try.underlying3]) (by simp [eqF1, Try.underlying3, scalarEq, bs_beq']) eqF_nil)))
theorem eqBneq80 {a0 b0 : Int} {a1 b1 : Int} : eqBin Try.prog .neq 80 (.agg [.int .i64 a0, .int .i64 a1]) (.agg [.int .i64 b0, .int .i64 b1]) = some (.bool (!(a0 == b0 && (a1 == b1 && true)))) :=
  eqBin_neq (eqD_of Try.underlying80 eqs80 eqg80 (eqF_cons (by simp [isAg, Try.underlying3]) (by simp [eqF1, Try.underlying3, scalarEq, bs_beq']) (eqF_cons (by simp [isAg, Try.underlying3]) (by simp [eqF1, Try.underlying3, scalarEq, bs_beq']) eqF_nil)))
theorem bytes5 : Try.prog.bytesOf 5 = 1 := (bytes_of info5).trans rfl
theorem zfits5 : zeroFits Try.prog 5 = true := by unfold zeroFits; rw [info5]; rfl
theorem eqb4 {a b : Bool} : eqBin Try.prog .eql 4 (.bool a) (.bool b) = some (.bool (a == b)) := by simp [eqBin, eqD, Try.underlying4, scalarEq]
theorem neb4 {a b : Bool} : eqBin Try.prog .neq 4 (.bool a) (.bool b) = some (.bool (!(a == b))) := by simp [eqBin, eqD, Try.underlying4, scalarEq]
attribute [go_sem] CT_P Try.underlying71 cells3 Try.underlying3 cells68 Try.underlying68 cells75 Try.underlying75 cells4 Try.underlying4 Try.underlying9 Try.underlying5 cells25 Try.underlying25 cells80 Try.underlying80 Try.underlying31 zok80 bytes80 zfits80 zeros80 zeros3 fok80 place80_0 place80_1 Try.underlying33 zeros33 zeros9 zeros31 fok33 place33_0 place33_1 place33_2 place33_3 cells9 cells31 cells33 Try.underlying22 cells5 u8_5 fok71 place71_0 place71_1 place71_2 place71_3 zeros71 zeros68 zeros25 cells71 Try.underlying24 zok33 bytes33 zfits33 zok5 zeros75 zeros4 fok75 place75_0 place75_1 place75_2 place75_3 zok75 bytes75 zfits75 Try.underlying56 zok3 bytes3 zfits3 eqBeql80 eqBneq80 Try.underlying30 cells22 bytes5 zfits5 eqb4 neb4
attribute [go_sem] CT_how42_0 CT_how54_0 CT_how93_0 CT_how44_0 CT_how78_0 CT_how78_1 CT_how80_0 CT_how80_1 CT_how79_0 CT_how81_0 CT_how43_0 CT_how46_0 CT_how112_0 CT_how82_0 CT_how82_1 CT_how55_0 CT_how83_0 CT_how129_0 CT_how130_0 CT_how153_0 CT_how154_0 CT_how155_0 CT_how131_0 CT_how113_0 CT_how91_0 CT_how120_0 CT_how120_1 CT_how92_0 CT_how92_1 CT_how97_0 CT_how97_1 CT_how64_0 CT_how84_0 CT_how58_0 CT_how45_0 CT_how45_1 CT_how15_0 CT_how114_0 CT_how132_0 CT_how115_0 CT_how85_0 CT_how47_0 CT_how48_0 CT_how48_1 CT_how49_0 CT_how50_0 CT_how51_0 CT_how51_1 CT_how118_0 CT_how118_1 CT_how88_0 CT_how88_1 CT_how28_0 CT_how28_1 CT_how89_0 CT_how89_1 CT_how89_2 CT_how59_0 CT_how59_1 CT_how59_2 CT_how21_0 CT_how116_0 CT_how133_0 CT_how117_0 CT_how117_1 CT_how86_0 CT_how86_1 CT_how52_0 CT_how52_1 CT_how53_0 CT_how16_0 CT_how18_0 CT_how18_1 CT_how17_0 CT_how17_1 CT_how3_0 CT_how4_0 CT_how4_1 CT_how5_0 CT_how6_0 CT_how6_1 CT_how87_0 CT_how87_1 CT_how56_0 CT_how56_1 CT_how57_0 CT_how19_0 CT_how20_0 CT_how7_0 CT_how61_0 CT_how22_0 CT_how63_0 CT_how23_0 CT_how8_0
end Go.Val

/- part IR -/
/- Typed data of the laws' arguments (chapter 07). -/
namespace Go.Val
open Go.Proofs
set_option linter.unusedVariables false
set_option maxRecDepth 100000
theorem mixed : Try.prog.follows .mixedOrders = true := by kernel_rfl
theorem isT_bytes {m : Nat} {ds : List DVal} (h : isT Try.prog (m + 2) 22 ds) : ∃ l : List UInt8, ds = [eL eU l] ∧ l.length ≤ maxLen :=
  isT_slice Try.underlying22 h fun x hx _ ho => by
    obtain ⟨n, hn⟩ := isT_u8 Try.underlying5 hx
    exact ⟨n, one_of hn (ho (by simp [isAg, Try.underlying5]))⟩
theorem isT_bytess {m : Nat} {ds : List DVal} (h : isT Try.prog (m + 3) 30 ds) : ∃ l : List (List UInt8), ds = [eL (eL eU) l] ∧ l.length ≤ maxLen :=
  isT_slice Try.underlying30 h fun x hx _ ho => by
    obtain ⟨l, hl, _⟩ := isT_bytes hx
    exact ⟨l, one_of hl (ho (by simp [isAg, Try.underlying22]))⟩
end Go.Val

/- part IU1 -/
/- Units of bytes, in the machine: what is known between steps. -/
namespace Go.Proofs.IR
open Go.RowKit Go.Shelf Go.Val
attribute [local go_sem] Oper.semAt_some
def unitV (x : TUnit) : Value := .agg #[.int .i64 x.Rune, .int .i64 x.At, .int .i64 x.Width, .bool x.Bad]
def uBad (k : Nat) : TUnit := ⟨65533, k, 1, true⟩
def uFin (k n : Nat) : Option Nat → TUnit
  | none => uBad k
  | some q => if uRight q && uWidth q == n then ⟨q, k, n, false⟩ else uBad k
set_option maxRecDepth 100000 in
theorem right_inI (m : Nat) (r : Int) (w : World) : CallsIn Fence.wide m Try.prog 110 #[.int .i64 r] w fun e w' => e = .returned (.bool (decide (0 ≤ r) && (decide (r ≤ 1114111) && (decide (r < 55296) || decide (57343 < r))))) ∧ w' = w := by
  refine callsIn_wide.2 ?_
  go_enter Try.func110, Try.ntmps110
  by_cases h0 : 0 ≤ r
  · by_cases h1 : r ≤ 1114111
    · by_cases h2 : r < 55296
      · go_wp2
        all_goals go_ret
        all_goals exact ⟨by simp [*] <;> omega, rfl⟩
      · go_wp2
        all_goals go_ret
        all_goals exact ⟨by simp [*] <;> omega, rfl⟩
    · go_wp2
      all_goals go_ret
      all_goals exact ⟨by simp [*] <;> omega, rfl⟩
  · go_wp2
    all_goals go_ret
    all_goals exact ⟨by simp [*] <;> omega, rfl⟩
theorem right_in (m : Nat) (r : Nat) (w : World) : CallsIn Fence.wide m Try.prog 110 #[.int .i64 r] w fun e w' => e = .returned (.bool (uRight r)) ∧ w' = w := by
  have h := right_inI m r w
  have e : (decide (0 ≤ (r : Int)) && (decide ((r : Int) ≤ 1114111) && (decide ((r : Int) < 55296) || decide (57343 < (r : Int))))) = uRight r := by
    unfold uRight
    have e0 : decide (0 ≤ (r : Int)) = true := decide_eq_true (by omega)
    have e1 : decide ((r : Int) ≤ 1114111) = decide (r ≤ 1114111) := decide_eq_decide.2 (by omega)
    have e2 : decide ((r : Int) < 55296) = decide (r < 55296) := decide_eq_decide.2 (by omega)
    have e3 : decide (57343 < (r : Int)) = decide (r > 57343) := decide_eq_decide.2 (by omega)
    rw [e0, e1, e2, e3, Bool.true_and]
  rw [e] at h
  exact h
set_option maxRecDepth 100000 in
theorem width_inI (m : Nat) (r : Int) (w : World) : CallsIn Fence.wide m Try.prog 111 #[.int .i64 r] w fun e w' => e = .returned (.int .i64 (if r < 128 then 1 else if r < 2048 then 2 else if r < 65536 then 3 else 4)) ∧ w' = w := by
  refine callsIn_wide.2 ?_
  go_enter Try.func111, Try.ntmps111
  by_cases h1 : r < 128
  · go_wp2
    all_goals go_ret
    all_goals exact ⟨rfl, rfl⟩
  rw [if_neg h1]
  by_cases h2 : r < 2048
  · go_wp2
    all_goals go_ret
    all_goals exact ⟨rfl, rfl⟩
  rw [if_neg h2]
  by_cases h3 : r < 65536
  · go_wp2
    all_goals go_ret
    all_goals exact ⟨rfl, rfl⟩
  · rw [if_neg h3]
    go_wp2
    all_goals go_ret
    all_goals exact ⟨rfl, rfl⟩
theorem width_in (m : Nat) (r : Nat) (w : World) : CallsIn Fence.wide m Try.prog 111 #[.int .i64 r] w fun e w' => e = .returned (.int .i64 (uWidth r)) ∧ w' = w := by
  have h := width_inI m r w
  have e : (if (r : Int) < 128 then 1 else if (r : Int) < 2048 then 2 else if (r : Int) < 65536 then 3 else 4 : Int) = (uWidth r : Int) := by
    unfold uWidth
    repeat' split
    all_goals omega
  rw [e] at h
  exact h

theorem arr_lit (a : Array Value) (h : a.size = 111) : ∃ g : Nat → Value, (∀ i v, a[i]? = some v → g i = v) ∧ a = #[g 0, g 1, g 2, g 3, g 4, g 5, g 6, g 7, g 8, g 9, g 10, g 11, g 12, g 13, g 14, g 15, g 16, g 17, g 18, g 19, g 20, g 21, g 22, g 23, g 24, g 25, g 26, g 27, g 28, g 29, g 30, g 31, g 32, g 33, g 34, g 35, g 36, g 37, g 38, g 39, g 40, g 41, g 42, g 43, g 44, g 45, g 46, g 47, g 48, g 49, g 50, g 51, g 52, g 53, g 54, g 55, g 56, g 57, g 58, g 59, g 60, g 61, g 62, g 63, g 64, g 65, g 66, g 67, g 68, g 69, g 70, g 71, g 72, g 73, g 74, g 75, g 76, g 77, g 78, g 79, g 80, g 81, g 82, g 83, g 84, g 85, g 86, g 87, g 88, g 89, g 90, g 91, g 92, g 93, g 94, g 95, g 96, g 97, g 98, g 99, g 100, g 101, g 102, g 103, g 104, g 105, g 106, g 107, g 108, g 109, g 110] := by
  refine ⟨fun i => a.getD i undef, fun i v hv => by simp [Array.getD_eq_getD_getElem?, hv], ?_⟩
  apply Array.ext'
  have e : a.toList = (List.range 111).map fun i => a.getD i undef := by
    apply List.ext_getElem
    · simp [h]
    · intro i h1 h2
      have hi : i < a.size := by simpa using h1
      simp [Array.getD, hi]
  rw [e]
  rfl
def Mid (l Bs k : Nat) (I : World → Prop) (P : Nat → Int → Prop) (e : Exit) (a : Act) (w : World) : Prop :=
  e = .normal ∧ I w ∧ a.defers = [] ∧ a.tmps.size = 111 ∧ a.tmps[0]? = some (.func (.yield l) #[] #[]) ∧ a.tmps[1]? = some (.pointer (some ⟨Bs, 0, none⟩)) ∧ a.tmps[2]? = some undef ∧ a.tmps[3]? = some (.int .i64 (k : Int)) ∧
    ∃ (n : Nat) (x : Int), a.tmps[4]? = some (.int .i64 (n : Int)) ∧ a.tmps[5]? = some (.int .i64 x) ∧ P n x
theorem Mid.out {l Bs k : Nat} {I : World → Prop} {P : Nat → Int → Prop} {e : Exit} {a : Act} {w : World} (h : Mid l Bs k I P e a w) : e = .normal ∧ I w ∧ ∃ (n : Nat) (x : Int) (g : Nat → Value), P n x ∧ a = { tmps := #[.func (.yield l) #[] #[], .pointer (some ⟨Bs, 0, none⟩), undef, .int .i64 (k : Int), .int .i64 (n : Int), .int .i64 x, g 6, g 7, g 8, g 9, g 10, g 11, g 12, g 13, g 14, g 15, g 16, g 17, g 18, g 19, g 20, g 21, g 22, g 23, g 24, g 25, g 26, g 27, g 28, g 29, g 30, g 31, g 32, g 33, g 34, g 35, g 36, g 37, g 38, g 39, g 40, g 41, g 42, g 43, g 44, g 45, g 46, g 47, g 48, g 49, g 50, g 51, g 52, g 53, g 54, g 55, g 56, g 57, g 58, g 59, g 60, g 61, g 62, g 63, g 64, g 65, g 66, g 67, g 68, g 69, g 70, g 71, g 72, g 73, g 74, g 75, g 76, g 77, g 78, g 79, g 80, g 81, g 82, g 83, g 84, g 85, g 86, g 87, g 88, g 89, g 90, g 91, g 92, g 93, g 94, g 95, g 96, g 97, g 98, g 99, g 100, g 101, g 102, g 103, g 104, g 105, g 106, g 107, g 108, g 109, g 110], defers := [] } := by
  obtain ⟨he, hI, hd, hs, h0, h1, h2, h3, n, x, h4, h5, hP⟩ := h
  obtain ⟨g, hg, e⟩ := arr_lit a.tmps hs
  refine ⟨he, hI, n, x, g, hP, ?_⟩
  cases a with
  | mk tmps defers =>
    simp only at hd e hg h0 h1 h2 h3 h4 h5
    subst hd
    rw [e, hg 0 _ h0, hg 1 _ h1, hg 2 _ h2, hg 3 _ h3, hg 4 _ h4, hg 5 _ h5]

/-- What is kept: the box with the bytes' slice, and the bytes. -/
def Kat (zs : List UInt8) (Bs b : Nat) (A B : World) : Prop := B.heap[Bs]? = A.heap[Bs]? ∧ (zs ≠ [] → B.heap[b]? = A.heap[b]?)
theorem Kat.refl (zs : List UInt8) (Bs b : Nat) (A : World) : Kat zs Bs b A A := ⟨rfl, fun _ => rfl⟩
theorem Kat.trans {zs : List UInt8} {Bs b : Nat} {A B C : World} (h : Kat zs Bs b A B) (k : Kat zs Bs b B C) : Kat zs Bs b A C := ⟨k.1.trans h.1, fun e => (k.2 e).trans (h.2 e)⟩
theorem Kat.drew {zs : List UInt8} {Bs b : Nat} {A B : World} (h : Kat zs Bs b A B) : Kat zs Bs b A B.drew := h
theorem Kat.cellB {zs : List UInt8} {Bs b : Nat} {A B : World} (h : Kat zs Bs b A B) (j : Nat) : B.cell? ⟨Bs, j, none⟩ = A.cell? ⟨Bs, j, none⟩ := by simp only [World.cell?, h.1]
theorem Kat.cellb {zs : List UInt8} {Bs b : Nat} {A B : World} (h : Kat zs Bs b A B) (e : zs ≠ []) (j : Nat) : B.cell? ⟨b, j, none⟩ = A.cell? ⟨b, j, none⟩ := by simp only [World.cell?, h.2 e]
theorem Kat.of_below {zs : List UInt8} {Bs b n : Nat} {A B : World} (h : Below n A B) (h1 : Bs < n) (h2 : zs ≠ [] → b < n) : Kat zs Bs b A B := ⟨h.block Bs h1, fun e => h.block b (h2 e)⟩
theorem Kat.put {zs : List UInt8} {Bs b n : Nat} (h1 : Bs < n) (h2 : zs ≠ [] → b < n) (W : World) (l : Nat) (o o' : Obj) (hl : n ≤ l) (_ : W.heap[l]? = some o) (_ : o.isCells = false) (_ : o.isWalk = false) : Kat zs Bs b W (W.putObj l o') :=
  ⟨World.putObj_heap_other (by omega), fun e => World.putObj_heap_other (by have := h2 e; omega)⟩
theorem ne_of_lt {zs : List UInt8} {j : Nat} (h : j < zs.length) : zs ≠ [] := by intro e; rw [e] at h; simp at h
/-- What is known behind the first byte: nothing goes on, or so many bytes, and their first bits. -/
def Pst (zs : List UInt8) (k i n : Nat) (x : Int) : Prop := n ≤ 4 ∧ (n = 0 → uFirst k (zs.drop k) = uBad k) ∧ (n ≠ 0 → i ≤ n ∧ n ≤ zs.length - k ∧ ∃ r : Nat, x = r ∧ r < 128 * 64 ^ (i - 1) ∧ uFirst k (zs.drop k) = uFin k n (uMore (n - i) (zs.drop (k + i)) r))
/-- The same, ahead of the look at how many bytes there are. -/
def Pre (zs : List UInt8) (k n : Nat) (x : Int) : Prop := n ≤ 4 ∧ (n = 0 → uFirst k (zs.drop k) = uBad k) ∧ (n ≠ 0 → ∃ r : Nat, x = r ∧ r < 128 ∧ uFirst k (zs.drop k) = uFin k n (uMore (n - 1) (zs.drop (k + 1)) r))
theorem drop_at {zs : List UInt8} {k : Nat} (h : k < zs.length) : zs.drop k = zs[k] :: zs.drop (k + 1) := List.drop_eq_getElem_cons h
theorem pre_of {zs : List UInt8} {k : Nat} (h : k < zs.length) (n r : Nat) (hu : uHead zs[k].toNat = (n, r)) (hn : n ≤ 4) (hn1 : n ≠ 0 → r < 128) (x : Int) (hx : n ≠ 0 → x = r) : Pre zs k n x := by
  refine ⟨hn, fun h0 => ?_, fun h0 => ⟨r, hx h0, hn1 h0, ?_⟩⟩
  · subst h0
    rw [drop_at h]
    simp only [uFirst, hu]
    rfl
  · obtain ⟨n, rfl⟩ : ∃ m, n = m + 1 := ⟨n - 1, by omega⟩
    rw [drop_at h]
    simp only [uFirst, hu, Nat.add_sub_cancel]
    cases uMore n (zs.drop (k + 1)) r <;> rfl
theorem wrapN {n : Nat} (h : n < 9223372036854775808) : RowKit.wrap64 (n : Int) = n := by unfold RowKit.wrap64; omega
theorem maskN (i : Nat) (hi : i ≤ 62) {n : Nat} (h : n < 4611686018427387904) : bits .and .i64 (n : Int) (2 ^ i - 1) = ((n % 2 ^ i : Nat) : Int) := by
  rw [bits_mask .i64 62 (by decide) (fun m h0 h1 => by rw [IntKind.wrap_i64]; omega) i hi (n : Int) (by omega) (by omega)]
  simp
theorem pre1 {zs : List UInt8} {k : Nat} (h : k < zs.length) (h1 : (zs[k].toNat : Int) < 128) : Pre zs k 1 (RowKit.wrap64 (zs[k].toNat : Int)) :=
  pre_of h 1 zs[k].toNat (by unfold uHead; rw [if_pos (by omega)]) (by omega) (fun _ => by omega) _ (fun _ => wrapN (by omega))
theorem pre2 {zs : List UInt8} {k : Nat} (h : k < zs.length) (h1 : 194 ≤ (zs[k].toNat : Int)) (h2 : (zs[k].toNat : Int) < 224) : Pre zs k 2 (bits .and .i64 (RowKit.wrap64 (zs[k].toNat : Int)) 31) :=
  pre_of h 2 (zs[k].toNat % 32) (by unfold uHead; rw [if_neg (by omega), if_pos (by omega)]) (by omega) (fun _ => by omega) _ (fun _ => by rw [wrapN (by omega)]; exact maskN 5 (by decide) (by omega))
theorem pre3 {zs : List UInt8} {k : Nat} (h : k < zs.length) (h1 : 224 ≤ (zs[k].toNat : Int)) (h2 : (zs[k].toNat : Int) < 240) : Pre zs k 3 (bits .and .i64 (RowKit.wrap64 (zs[k].toNat : Int)) 15) :=
  pre_of h 3 (zs[k].toNat % 16) (by unfold uHead; rw [if_neg (by omega), if_neg (by omega), if_pos (by omega)]) (by omega) (fun _ => by omega) _ (fun _ => by rw [wrapN (by omega)]; exact maskN 4 (by decide) (by omega))
theorem pre4 {zs : List UInt8} {k : Nat} (h : k < zs.length) (h1 : 240 ≤ (zs[k].toNat : Int)) (h2 : (zs[k].toNat : Int) < 245) : Pre zs k 4 (bits .and .i64 (RowKit.wrap64 (zs[k].toNat : Int)) 7) :=
  pre_of h 4 (zs[k].toNat % 8) (by unfold uHead; rw [if_neg (by omega), if_neg (by omega), if_neg (by omega), if_pos (by omega)]) (by omega) (fun _ => by omega) _ (fun _ => by rw [wrapN (by omega)]; exact maskN 3 (by decide) (by omega))
theorem pre0 {zs : List UInt8} {k : Nat} (h : k < zs.length) (h0 : 128 ≤ (zs[k].toNat : Int)) (h1 : (zs[k].toNat : Int) < 194 ∨ 245 ≤ (zs[k].toNat : Int)) (x : Int) : Pre zs k 0 x :=
  pre_of h 0 zs[k].toNat (by unfold uHead; rw [if_neg (by omega), if_neg (by omega), if_neg (by omega), if_neg (by omega)]) (by omega) (fun e => absurd rfl e) _ (fun e => absurd rfl e)
theorem more_short : ∀ {n : Nat} {l : List UInt8} {r : Nat}, l.length < n → uMore n l r = none
  | 0, _, _, h => absurd h (Nat.not_lt_zero _)
  | n + 1, [], _, _ => rfl
  | n + 1, c :: l, r, h => by
    simp only [uMore]
    split
    · exact more_short (by simpa using h)
    · rfl
theorem pst_zero {zs : List UInt8} {k n : Nat} {x : Int} (hk : k < zs.length) (h : Pre zs k n x) (hs : zs.length - k < n) (y : Int) : Pst zs k 1 0 y := by
  refine ⟨by omega, fun _ => ?_, fun e => absurd rfl e⟩
  obtain ⟨r, _, _, hu⟩ := h.2.2 (by omega)
  rw [hu, more_short (by simp; omega)]; rfl
theorem pst_same {zs : List UInt8} {k n : Nat} {x : Int} (h : Pre zs k n x) (hs : n ≤ zs.length - k) : Pst zs k 1 n x := by
  refine ⟨h.1, h.2.1, fun h0 => ⟨by omega, hs, ?_⟩⟩
  obtain ⟨r, h1, h2, h3⟩ := h.2.2 h0
  exact ⟨r, h1, by simpa using h2, h3⟩
theorem top2 (d : UInt8) : bits .and .u8 (d.toNat : Int) 192 = ((d.toNat / 64 * 64 : Nat) : Int) := by
  have key : ∀ x : Fin 256, bits .and .u8 (x.val : Int) 192 = ((x.val / 64 * 64 : Nat) : Int) := by decide +kernel
  exact key ⟨d.toNat, d.toNat_lt⟩
theorem joinN {r d : Nat} (hr : r < 36028797018963968) (hd : d < 64) : bits .or .i64 (RowKit.wrap64 ((r : Int) * 64)) ((d : Int)) = ((r * 64 + d : Nat) : Int) := by
  have e : RowKit.wrap64 ((r : Int) * 64) = ((r * 64 : Nat) : Int) := by
    have := wrapN (n := r * 64) (by omega)
    rw [← this]; simp
  rw [e, bits_join .i64 62 (by decide) (fun m h0 h1 => by rw [IntKind.wrap_i64]; omega) 6 _ _ (by omega) (by omega) (by omega) (by omega) (by omega) (by omega)]
  simp
theorem pow64 {i : Nat} (h : i ≤ 4) : 128 * 64 ^ (i - 1) ≤ 33554432 := by
  have : i - 1 ≤ 3 := by omega
  calc 128 * 64 ^ (i - 1) ≤ 128 * 64 ^ 3 := Nat.mul_le_mul_left _ (Nat.pow_le_pow_right (by decide) this)
    _ = 33554432 := by decide
theorem pst_step {zs : List UInt8} {k i n : Nat} {r : Nat} {d : UInt8} (hn : n ≤ 4) (hki : k + i < zs.length) (hdd : zs[k + i] = d) (hd : d.toNat / 64 = 2) (hi : 1 ≤ i) (hin : i < n) (hnl : n ≤ zs.length - k)
    (hr : r < 128 * 64 ^ (i - 1)) (hu : uFirst k (zs.drop k) = uFin k n (uMore (n - i) (zs.drop (k + i)) r)) : Pst zs k (i + 1) n (bits .or .i64 (RowKit.wrap64 ((r : Int) * 64)) ((d.toNat : Int) % 64)) := by
  have hp := pow64 (i := i) (by omega)
  refine ⟨hn, fun e => by omega, fun _ => ⟨by omega, hnl, r * 64 + d.toNat % 64, ?_, ?_, ?_⟩⟩
  · have := joinN (r := r) (d := d.toNat % 64) (by omega) (by omega)
    rw [← this]; simp
  · have e : i + 1 - 1 = (i - 1) + 1 := by omega
    rw [e, Nat.pow_succ]
    omega
  · rw [hu]
    have e : n - i = (n - (i + 1)) + 1 := by omega
    rw [e, List.drop_eq_getElem_cons hki, hdd]
    simp only [uMore, hd, if_true]
    rw [Nat.add_assoc]
theorem pst_fail {zs : List UInt8} {k i n : Nat} {r : Nat} {d : UInt8} (hki : k + i < zs.length) (hdd : zs[k + i] = d) (hd : ¬ d.toNat / 64 = 2) (hin : i < n)
    (hu : uFirst k (zs.drop k) = uFin k n (uMore (n - i) (zs.drop (k + i)) r)) (y : Int) : Pst zs k i 0 y := by
  refine ⟨by omega, fun _ => ?_, fun e => absurd rfl e⟩
  rw [hu]
  have e : n - i = (n - (i + 1)) + 1 := by omega
  rw [e, List.drop_eq_getElem_cons hki, hdd]
  simp only [uMore, if_neg hd]; rfl
/-- One unit more. -/
theorem units_more {zs : List UInt8} {k fu : Nat} {pre all : List TUnit} (hk : k < zs.length) (hf : zs.length - k ≤ fu) (h : pre ++ uUnits fu k (zs.drop k) = all) {u : TUnit} (hu : uFirst k (zs.drop k) = u) {w : Nat} (hw : u.Width = w) :
    ∃ fu', fu = fu' + 1 ∧ (pre ++ [u]) ++ uUnits fu' (k + w) (zs.drop (k + w)) = all := by
  obtain ⟨fu, rfl⟩ : ∃ f, fu = f + 1 := ⟨fu - 1, by omega⟩
  refine ⟨fu, rfl, ?_⟩
  rw [← h, drop_at hk] 
  simp only [uUnits]
  rw [← drop_at hk, hu, hw]
  simp only [Int.toNat_natCast, List.drop_drop, List.append_assoc, List.cons_append, List.nil_append]
end Go.Proofs.IR

/- part IU2 -/
/- The iterator over units, in the machine. -/
namespace Go.Proofs.IR
open Go.RowKit Go.Shelf Go.Val
attribute [local go_sem] Oper.semAt_some
set_option maxRecDepth 100000 in
set_option maxHeartbeats 4000000 in
theorem units1_in (m : Nat) (hm : 1 ≤ m) (l Bs b off cap : Nat) (p : Option Addr) (zs : List UInt8) (hp : zs ≠ [] → p = some ⟨b, off, none⟩) (hlen : zs.length ≤ 1048576) (J Jx : List TUnit → World → Prop) (hJd : ∀ pre W, J pre W → J pre W.drew)
    (hY : ∀ pre x W, J pre W → pre.length < zs.length → YieldAt Fence.wide (m - 1) Try.prog l #[unitV x] W fun e W' =>
      (e = .returned (.bool true) ∧ J (pre ++ [x]) W' ∧ Kat zs Bs b W W') ∨ (e = .returned (.bool false) ∧ Jx (pre ++ [x]) W'))
    (W : World) (hBs : W.cell? ⟨Bs, 0, none⟩ = some (.slice p zs.length cap)) (hc : ∀ j (h : j < zs.length), W.cell? ⟨b, off + j, none⟩ = some (.int .u8 (zs[j].toNat : Int))) (h0 : J [] W) :
    CallsIn Fence.wide m Try.prog 109 #[.func (.yield l) #[] #[], .pointer (some ⟨Bs, 0, none⟩)] W fun e W' => (∃ v, e = .returned v) ∧
      ((∃ ys, ys = units zs ∧ J ys W') ∨ (∃ pre, Jx pre W')) := by
  have mixed : Try.prog.follows .mixedOrders = true := by kernel_rfl
  refine callsIn_of_wp Try.func109 rfl trivial ?_ rfl
  simp only [Try.ntmps109, List.size_toArray, List.length_cons, List.length_nil, Nat.reduceAdd, Nat.reduceSub, Array.replicate_succ, Array.replicate_zero, List.push_toArray, List.append_toArray, List.nil_append, List.cons_append]
  gi_wp2
  refine wpIn_wide.2 (wp_scope_straight ((wpIn_wide (n := m)).1 ?_))
  refine wpIn_seq ?_
  gi_wp2
  refine wpIn_label ?_
  gi_wp2
  gi_loopw [3] (fun i wr => ∃ (k fu : Nat) (pre : List TUnit), k ≤ zs.length ∧ i = .int .i64 k ∧ pre ++ uUnits fu k (zs.drop k) = units zs ∧ zs.length - k ≤ fu ∧ pre.length ≤ k ∧ J pre wr ∧ Kat zs Bs b W wr)
    (fun i _ => zs.length - (intOf i).toNat)
  case atStart => exact ⟨0, zs.length, [], Nat.zero_le _, rfl, rfl, Nat.le_refl _, Nat.le_refl _, h0, Kat.refl _ _ _ _⟩
  case round =>
    obtain ⟨k, fu, pre, hk, rfl, hpre, hfu, hpl, hJs, hnx⟩ := hrel
    have cells : ∀ w', Kat zs Bs b W w' → w'.cell? ⟨Bs, 0, none⟩ = some (.slice p zs.length cap) ∧ ∀ j (h : j < zs.length), w'.cell? ⟨b, off + j, none⟩ = some (.int .u8 (zs[j].toNat : Int)) := fun w' hw =>
      ⟨(hw.cellB 0).trans hBs, fun j h => (hw.cellb (ne_of_lt h) (off + j)).trans (hc j h)⟩
    obtain ⟨hBs', hcx⟩ := cells wr hnx
    by_cases hlt : k < zs.length
    · obtain rfl := hp (by intro e; rw [e] at hlt; simp at hlt)
      have hcx' := hcx k hlt
      gi_wp2
      gi_region
      have hJ1 : J pre wr.drew := hJd _ _ hJs
      have hnx1 : Kat zs Bs b W wr.drew := hnx.drew
      rename_i K a_K
      refine a_K _ _ ?_
      clear a_K
      refine wpIn_seq (wpIn_mono (Q := Mid l Bs k (fun w => J pre w ∧ Kat zs Bs b W w) (Pre zs k)) ?_ ?_)
      · gi_wp2
        all_goals refine ⟨rfl, ⟨hJ1, hnx1⟩, rfl, rfl, rfl, rfl, rfl, rfl, ?_⟩
        all_goals first
          | exact ⟨1, _, rfl, rfl, pre1 hlt (by assumption)⟩
          | exact ⟨2, _, rfl, rfl, pre2 hlt (by assumption) (by assumption)⟩
          | exact ⟨3, _, rfl, rfl, pre3 hlt (by assumption) (by assumption)⟩
          | exact ⟨4, _, rfl, rfl, pre4 hlt (by assumption) (by assumption)⟩
          | exact ⟨0, _, rfl, rfl, pre0 hlt (by assumption) (.inl (by assumption)) _⟩
          | exact ⟨0, _, rfl, rfl, pre0 hlt (by assumption) (.inr (by assumption)) _⟩
      · intro e a w1 hM
        obtain ⟨rfl, ⟨hJ2, hnx2⟩, n, x, g, hP, rfl⟩ := hM.out
        clear hM hBs' hcx hcx' hJ1 hnx1 hJs hnx
        obtain ⟨hBs', hcx⟩ := cells w1 hnx2
        refine wpIn_seq (wpIn_mono (Q := Mid l Bs k (fun w => J pre w ∧ Kat zs Bs b W w) (Pst zs k 1)) ?_ ?_)
        · have hn4 := hP.1
          by_cases hsh : zs.length - k < n
          · have hsh' : (zs.length : Int) - (k : Int) < (n : Int) := by omega
            gi_wp2
            all_goals refine ⟨rfl, ⟨hJ2, hnx2⟩, rfl, rfl, rfl, rfl, rfl, rfl, 0, _, rfl, rfl, pst_zero hlt hP hsh _⟩
          · have hsh' : ¬ (zs.length : Int) - (k : Int) < (n : Int) := by omega
            gi_wp2
            all_goals refine ⟨rfl, ⟨hJ2, hnx2⟩, rfl, rfl, rfl, rfl, rfl, rfl, n, _, rfl, rfl, pst_same hP (by omega)⟩
        · intro e a w2 hM
          obtain ⟨rfl, ⟨hJ3, hnx3⟩, n, x, g, hP, rfl⟩ := hM.out
          clear hM hBs' hcx hJ2 hnx2
          obtain ⟨hBs', hcx⟩ := cells w2 hnx3
          refine wpIn_seq (wpIn_mono (Q := Mid l Bs k (fun w => J pre w ∧ Kat zs Bs b W w) (fun n x => ∃ i, Pst zs k i n x ∧ n ≤ i)) ?_ ?_)
          · gi_wp2
            gi_loopw [4, 5, 7] (fun v4 v5 v7 wr => ∃ (i n : Nat) (x : Int), v7 = .int .i64 i ∧ v4 = .int .i64 n ∧ v5 = .int .i64 x ∧ 1 ≤ i ∧ i ≤ 5 ∧ Pst zs k i n x ∧ J pre wr ∧ Kat zs Bs b W wr)
              (fun _ _ v7 _ => 6 - (intOf v7).toNat)
            case atStart => exact ⟨1, n, x, rfl, rfl, rfl, by omega, by omega, hP, hJ3, hnx3⟩
            case round =>
              clear hP n x hJ3 hnx3 hBs' hcx
              obtain ⟨i, n, x, rfl, rfl, rfl, hi1, hi5, hP, hJ3, hnx3⟩ := hrel
              obtain ⟨hBs', hcx⟩ := cells _ hnx3
              by_cases hin : i < n
              · have hn0 : n ≠ 0 := by omega
                obtain ⟨_, hnl, r, hxr, hrb, hu⟩ := hP.2.2 hn0
                have hki : k + i < zs.length := by omega
                have hd := hcx (k + i) hki
                generalize hdd : zs[k + i] = d at hd
                by_cases hd2 : d.toNat / 64 = 2
                · have hb1 : bits .and .u8 (d.toNat : Int) 192 = 128 := by rw [top2, hd2]; rfl
                  subst hxr
                  gi_wp2
                  exact ⟨⟨i + 1, n, _, by simp, rfl, rfl, by omega, by have := hP.1; omega, pst_step hP.1 hki hdd hd2 hi1 hin hnl hrb hu, hJ3, hnx3⟩, by simp [intOf]; omega⟩
                · have hb1 : ¬ bits .and .u8 (d.toNat : Int) 192 = 128 := by rw [top2]; omega
                  gi_wp2
                  exact ⟨rfl, ⟨hJ3, hnx3⟩, rfl, rfl, rfl, rfl, rfl, rfl, 0, _, rfl, rfl, i, pst_fail hki hdd hd2 hin hu _, by omega⟩
              · gi_wp2
                exact ⟨rfl, ⟨hJ3, hnx3⟩, rfl, rfl, rfl, rfl, rfl, rfl, n, _, rfl, rfl, i, hP, by omega⟩
          · intro e a w3 hM
            obtain ⟨rfl, ⟨hJ4, hnx4⟩, n, x, g, ⟨i, hP, hni⟩, rfl⟩ := hM.out
            clear hM hBs' hcx hJ3 hnx3
            obtain ⟨hBs', hcx⟩ := cells w3 hnx4
            have bad : uFirst k (zs.drop k) = uBad k → True := fun _ => trivial
            by_cases hn0 : n = 0
            · subst hn0
              have hu := hP.2.1 rfl
              obtain ⟨fn, tmps, assign, body, hy, hR⟩ := hY pre (uBad k) w3 hJ4 (by omega)
              dsimp only [unitV, uBad] at hy
              gi_wp2
              refine ⟨trivial, ?_⟩
              gi_wp2
              refine ⟨trivial, ?_⟩
              gi_wp2
              refine hR.mono ?_
              rintro e w4 (⟨rfl, hJ5, hk5⟩ | ⟨rfl, hJx⟩)
              · obtain ⟨fu', hfu', hpre'⟩ := units_more (w := 1) hlt hfu hpre hu rfl
                gi_wp2
                go_roundw
                case rel => exact ⟨k + 1, fu', pre ++ [uBad k], by omega, by simp, hpre', by omega, by simp; omega, hJ5, hnx4.trans hk5⟩
                case measure => simp [intOf]; omega
              · gi_wp2
                exact ⟨rfl, _, results_none rfl _ _ _, ⟨_, rfl⟩, .inr ⟨_, hJx⟩⟩
            · obtain ⟨hin, hnl, r, hxr, hrb, hu⟩ := hP.2.2 hn0
              have e0 : n - i = 0 := by omega
              rw [e0] at hu
              simp only [uMore] at hu
              have hnz : ¬ (n : Int) = 0 := by omega
              subst hxr
              by_cases hgood : (uRight r && uWidth r == n) = true
              · have hu' : uFirst k (zs.drop k) = ⟨r, k, n, false⟩ := by rw [hu]; simp only [uFin, hgood, if_true]
                obtain ⟨fn, tmps, assign, body, hy, hR⟩ := hY pre ⟨r, k, n, false⟩ w3 hJ4 (by omega)
                dsimp only [unitV] at hy
                have hr1 : uRight r = true := (Bool.and_eq_true _ _ ▸ hgood).1
                have hr2 : uWidth r = n := eq_of_beq (Bool.and_eq_true _ _ ▸ hgood).2
                gi_wp2
                refine ⟨trivial, (right_in _ r _).mono ?_⟩
                rintro e w' ⟨rfl, rfl⟩
                rw [hr1]
                gi_wp2
                refine ⟨trivial, (width_in _ r _).mono ?_⟩
                rintro e w' ⟨rfl, rfl⟩
                rw [hr2]
                gi_wp2
                refine hR.mono ?_
                rintro e w4 (⟨rfl, hJ5, hk5⟩ | ⟨rfl, hJx⟩)
                · obtain ⟨fu', hfu', hpre'⟩ := units_more (w := n) hlt hfu hpre hu' rfl
                  gi_wp2
                  go_roundw
                  case rel => exact ⟨k + n, fu', pre ++ [⟨r, k, n, false⟩], by omega, by simp, hpre', by omega, by simp; omega, hJ5, hnx4.trans hk5⟩
                  case measure => simp [intOf]; omega
                · gi_wp2
                  exact ⟨rfl, _, results_none rfl _ _ _, ⟨_, rfl⟩, .inr ⟨_, hJx⟩⟩
              · have hu' : uFirst k (zs.drop k) = uBad k := by rw [hu]; simp only [uFin, if_neg hgood]
                obtain ⟨fn, tmps, assign, body, hy, hR⟩ := hY pre (uBad k) w3 hJ4 (by omega)
                dsimp only [unitV, uBad] at hy
                gi_wp2
                refine ⟨trivial, (right_in _ r _).mono ?_⟩
                rintro e w' ⟨rfl, rfl⟩
                cases hr1 : uRight r with
                | false =>
                  gi_wp2
                  refine ⟨trivial, ?_⟩
                  gi_wp2
                  refine hR.mono ?_
                  rintro e w4 (⟨rfl, hJ5, hk5⟩ | ⟨rfl, hJx⟩)
                  · obtain ⟨fu', hfu', hpre'⟩ := units_more (w := 1) hlt hfu hpre hu' rfl
                    gi_wp2
                    go_roundw
                    case rel => exact ⟨k + 1, fu', pre ++ [uBad k], by omega, by simp, hpre', by omega, by simp; omega, hJ5, hnx4.trans hk5⟩
                    case measure => simp [intOf]; omega
                  · gi_wp2
                    exact ⟨rfl, _, results_none rfl _ _ _, ⟨_, rfl⟩, .inr ⟨_, hJx⟩⟩
                | true =>
                  have hr2 : ¬ (uWidth r : Int) = (n : Int) := fun e => hgood (by rw [hr1]; simp; omega)
                  have hr3 : ((uWidth r : Int) != (n : Int)) = true := by simpa using hr2
                  gi_wp2
                  refine ⟨trivial, (width_in _ r _).mono ?_⟩
                  rintro e w' ⟨rfl, rfl⟩
                  gi_wp2
                  refine hR.mono ?_
                  rintro e w4 (⟨rfl, hJ5, hk5⟩ | ⟨rfl, hJx⟩)
                  · obtain ⟨fu', hfu', hpre'⟩ := units_more (w := 1) hlt hfu hpre hu' rfl
                    gi_wp2
                    go_roundw
                    case rel => exact ⟨k + 1, fu', pre ++ [uBad k], by omega, by simp, hpre', by omega, by simp; omega, hJ5, hnx4.trans hk5⟩
                    case measure => simp [intOf]; omega
                  · gi_wp2
                    exact ⟨rfl, _, results_none rfl _ _ _, ⟨_, rfl⟩, .inr ⟨_, hJx⟩⟩
    · gi_wp2
      obtain rfl : k = zs.length := by omega
      refine ⟨rfl, _, results_none rfl _ _ _, ⟨_, rfl⟩, .inl ⟨_, rfl, ?_⟩⟩
      have e : pre = units zs := by
        rw [← hpre]
        simp
        cases fu <;> rfl
      rw [← e]; exact hJs
end Go.Proofs.IR

/- part IU3 -/
/- utf.Decode, in the machine. -/
namespace Go.Proofs.IR
open Go.RowKit Go.Shelf Go.Val
attribute [local go_sem] Oper.semAt_some
def cellsU (x : TUnit) : List Value := [.int .i64 x.Rune, .int .i64 x.At, .int .i64 x.Width, .bool x.Bad]
theorem info75 : (Try.prog.info? 75).map (fun i => (i.zero, i.size, i.bytes)) = some (some (.agg #[.int .i64 0, .int .i64 0, .int .i64 0, .bool false]), 4, 32) := by kernel_rfl
theorem units_stops (m : Nat) (hm : 1 ≤ m) (Bs b off cap : Nat) (p : Option Addr) (zs : List UInt8) (hp : zs ≠ [] → p = some ⟨b, off, none⟩) (hlen : zs.length ≤ 1048576) (w : World) (hb : zs ≠ [] → b < w.heap.size) (hBn : Bs < w.heap.size)
    (hBs : w.cell? ⟨Bs, 0, none⟩ = some (.slice p zs.length cap)) (hc : ∀ j (h : j < zs.length), w.cell? ⟨b, off + j, none⟩ = some (.int .u8 (zs[j].toNat : Int))) :
    SeqStopsK Fence.wide m Try.prog 109 #[.pointer (some ⟨Bs, 0, none⟩)] (fun x : TUnit => #[unitV x]) (Kat zs Bs b) (fun ys => ys = units zs) (fun _ => True) zs.length w := fun l J Jx W hW hJ _ hY h0 => by
  refine (units1_in m hm l Bs b off cap p zs hp hlen J Jx (fun pre W h => hJ pre W W.drew none h ⟨rfl, rfl, rfl, Nat.le_refl _, fun _ _ _ => rfl⟩ (fun r e => by cases e)) hY W ((hW.cell (p := ⟨Bs, 0, none⟩) hBn).trans hBs) (fun j h => (hW.cell (p := ⟨b, off + j, none⟩) (hb (ne_of_lt h))).trans (hc j h)) h0).mono ?_
  rintro e W' ⟨he, h | ⟨pre, h⟩⟩
  · exact ⟨he, .inl h⟩
  · exact ⟨he, .inr ⟨pre, trivial, h⟩⟩
theorem cells_new (w : World) (cs : List Value) (t : TypeId) (j : Nat) (u : Value) (h : cs[j]? = some u) : (w.alloc (Obj.cells cs.toArray t)).cell? ((⟨w.heap.size, 0, none⟩ : Addr).add j) = some u := by
  have e : (⟨w.heap.size, 0, none⟩ : Addr).add j = ⟨w.heap.size, j, none⟩ := by
    by_cases hj : j = 0
    · subst hj; rfl
    · simp [Addr.add, hj]
  rw [e]
  simp only [World.cell?, World.alloc_heap_new]
  simpa using h
set_option maxRecDepth 100000 in
set_option maxHeartbeats 2000000 in
theorem appendSeq_in (m : Nat) (hm : 3 ≤ m) (Bs b off cap : Nat) (p : Option Addr) (zs : List UInt8) (hp : zs ≠ [] → p = some ⟨b, off, none⟩) (hlen : zs.length ≤ 1048576) (w : World) (hb : zs ≠ [] → b < w.heap.size) (hBn : Bs < w.heap.size)
    (hBs : w.cell? ⟨Bs, 0, none⟩ = some (.slice p zs.length cap)) (hc : ∀ j (h : j < zs.length), w.cell? ⟨b, off + j, none⟩ = some (.int .u8 (zs[j].toNat : Int))) :
    CallsIn Fence.wide m Try.prog 108 #[.slice none 0 0, .func (.func 109) #[] #[.pointer (some ⟨Bs, 0, none⟩)]] w fun e w' => ∃ v, e = .returned v ∧ w'.ownsRow w.heap.size 75 4 v (units zs).length ((units zs).flatMap cellsU) ∧ (v = .slice none 0 0 ↔ units zs = []) ∧ Below w.heap.size w w' := by
  have h1 : 1 ≤ m := by omega
  obtain ⟨i0, hi, hz0, hz1, hz2⟩ := info_parts info75
  refine callsIn_of_wp_marks Try.func108 rfl trivial ?_ rfl
  simp only [Try.ntmps108, List.size_toArray, List.length_cons, List.length_nil, Nat.reduceAdd, Nat.reduceSub, Array.replicate_succ, Array.replicate_zero, List.push_toArray, List.append_toArray, List.nil_append, List.cons_append]
  gi_wp2
  have bO := Boxed.new w 68 (.slice none 0 0)
  have hB0 : Below w.heap.size w (w.alloc (.cells #[.slice none 0 0] 68)) := (Below.refl _ w).alloc (Nat.le_refl _) _
  obtain ⟨W0, hW0⟩ : ∃ W0, w.alloc (.cells #[.slice none 0 0] 68) = W0 := ⟨_, rfl⟩
  have hs0 : W0.heap.size = w.heap.size + 1 := by rw [← hW0]; simp
  rw [hW0] at bO hB0 ⊢
  refine wpIn_rangeFunc_ownH rfl h1 (gf := 109) (lb := #[.pointer (some ⟨Bs, 0, none⟩)]) rfl trivial (enters_of Try.func109 (by kernel_rfl) rfl)
    (units_stops (m - 1) (by omega) Bs b off cap p zs hp hlen W0 (fun h => by have := hb h; omega) (by omega) ((hB0.cell (p := ⟨Bs, 0, none⟩) hBn).trans hBs) (fun j h => (hB0.cell (p := ⟨b, off + j, none⟩) (hb (ne_of_lt h))).trans (hc j h))) Kat.trans (Kat.put (by omega) (fun h => by have := hb h; omega)) (Below.refl _ _) (fun _ => rfl)
    (fun pre W => (∃ v, Boxed W w.heap.size 68 v ∧ W.ownsRow w.heap.size 75 4 v pre.length (pre.flatMap cellsU) ∧ (v = .slice none 0 0 ↔ pre = [])) ∧ Below w.heap.size w W)
    (fun _ _ _ => False)
    (OwnFrom.and (Own.from (holdsRow_own w.heap.size w.heap.size 68 75 4 (fun pre : List TUnit => pre.length) (fun pre => pre.flatMap cellsU) (fun pre v => v = .slice none 0 0 ↔ pre = [])) _) (ownFrom_below (Nat.le_refl _) (by omega)))
    (fun _ _ _ _ _ hs _ _ => hs)
    ⟨⟨_, bO, World.ownsRow_nil _ _ _ _, by simp⟩, hB0⟩
    (fun x a' W => ∃ Bx, w.heap.size < Bx ∧ W.heap[Bx]? = some (.cells (cellsU x).toArray 75 (0, 0)) ∧ a' = { tmps := #[.slice none 0 0, .func (.func 109) #[] #[.pointer (some ⟨Bs, 0, none⟩)], .pointer (some ⟨w.heap.size, 0, none⟩), undef, .slice none 0 0, .pointer (some ⟨Bx, 0, none⟩), .func (.func 109) #[] #[.pointer (some ⟨Bs, 0, none⟩)], unitV x, undef, undef, undef, undef, undef], defers := [] })
    (fun x a' _ X Y row hs hg hr => by
      obtain ⟨Bx, h1, h2, h3⟩ := hs
      refine ⟨Bx, h1, (hg.block Bx (Array.getElem?_eq_some_iff.1 h2).1 (fun e => ?_)).trans h2, h3⟩
      obtain ⟨_, o, ho, hco⟩ := hr Bx e.symm
      rw [h2] at ho; cases ho; cases hco)
    ?assign ?body ?done ?stop
  case assign =>
    rintro l pre x W K ⟨⟨v, hv, hrow, hnil⟩, hB1⟩ hK
    dsimp only [unitV]
    gi_wp2
    exact hK _ _ ((KeepsOthers.alloc _ _).from _) (Kat.of_below ((Below.refl _ W).alloc hB1.size _) hBn hb) ⟨⟨v, hv.alloc _, hrow.alloc _, hnil⟩, hB1.alloc hB1.size _⟩ ⟨W.heap.size, hv.lt, World.alloc_heap_new W _, rfl⟩
  case body =>
    rintro l pre x a' W hl ⟨r, hr⟩ ⟨⟨v, hv, hrow, hnil⟩, hB⟩ ⟨Bx, hBx, bX, rfl⟩ hlt
    have hc := hv.cell
    have c0 : W.cell? ⟨Bx, 0, none⟩ = some (.int .i64 x.Rune) := by simp only [World.cell?, bX]; rfl
    have c1 : W.cell? ⟨Bx, 1, none⟩ = some (.int .i64 x.At) := by simp only [World.cell?, bX]; rfl
    have c2 : W.cell? ⟨Bx, 2, none⟩ = some (.int .i64 x.Width) := by simp only [World.cell?, bX]; rfl
    have c3 : W.cell? ⟨Bx, 3, none⟩ = some (.bool x.Bad) := by simp only [World.cell?, bX]; rfl
    gi_wp2_with (gi_at_builtin; refine wpListIn_append_own _ rfl _ _ 68 rfl w.heap.size 75 i0 _ 4 32 Try.underlying68 hi hz0 hz1 hz2 rfl (by decide) _ _ _ rfl (hrow.alloc _) ⟨W.heap.size, 0, none⟩ 1 1 (cellsU x) rfl rfl (cells_new W (cellsU x) 75) (fun u hu => by simp [cellsU] at hu; rcases hu with rfl | rfl | rfl | rfl <;> rfl) (by have : maxLen = 9223372036854775807 := rfl; omega) (by omega) (by have := hB.size; simp; omega) ?_; intro v' w1 hown' hgrow _; obtain ⟨g', cap', rfl⟩ := ownsRow_succ hown'; obtain ⟨hv1, hv2, hr2, hk2, hb2⟩ := hv.appended (by decide) hrow hB.size (Nat.le_refl _) hown' hgrow; have hc1 := hv1.cell; have hf1 := hv1.frozen)
    exact ⟨hk2.from _, Kat.of_below hb2 hBn hb, ⟨_, hv2, by simpa using hr2, by simp⟩, hB.trans hb2⟩
  case done =>
    rintro D ys W hD rfl ⟨⟨v, hv, hrow, hnil⟩, hB⟩ hK
    have hc := hv.cell
    gi_wp2
    refine ⟨by simp, .inl ⟨_, _, rfl, run_takeDeferred hK, ?_⟩⟩
    exact ⟨_, results_tmp rfl _ _ _, v, rfl, ownsRow_putObj hrow _ hK rfl, hnil, hB.trans (belowK_b (w := w) (Nat.le_refl _) W D _ _ (by omega) hK rfl rfl)⟩
  case stop =>
    rintro D c pre W _ _ h _
    exact h.elim
set_option maxRecDepth 100000 in
theorem units_in (m : Nat) (p : Option Addr) (n cap : Nat) (w : World) : CallsIn Fence.wide m Try.prog 77 #[.slice p n cap] w fun e w' => e = .returned (.func (.func 109) #[] #[.pointer (some ⟨w.heap.size, 0, none⟩)]) ∧ w' = w.alloc (.cells #[.slice p n cap] 22) := by
  refine callsIn_wide.2 ?_
  go_enter Try.func77, Try.ntmps77
  go_wp2
  go_ret
  exact ⟨rfl, rfl⟩
theorem base_le {W : World} {base base' : Nat} {e : TypeId} {size : Nat} {v : Value} {k : Nat} {xs : List Value} (h : W.ownsRow base e size v k xs) (hb : base' ≤ base) : W.ownsRow base' e size v k xs := by
  refine ⟨h.1, ?_⟩
  rcases h.2 with hn | ⟨g, cap, cur, hv, hbg, rest⟩
  · exact .inl hn
  · exact .inr ⟨g, cap, cur, hv, Nat.le_trans hb hbg, rest⟩
set_option maxRecDepth 100000 in
theorem collect_in (m : Nat) (hm : 4 ≤ m) (Bs b off cap : Nat) (p : Option Addr) (zs : List UInt8) (hp : zs ≠ [] → p = some ⟨b, off, none⟩) (hlen : zs.length ≤ 1048576) (w : World) (hb : zs ≠ [] → b < w.heap.size) (hBn : Bs < w.heap.size)
    (hBs : w.cell? ⟨Bs, 0, none⟩ = some (.slice p zs.length cap)) (hc : ∀ j (h : j < zs.length), w.cell? ⟨b, off + j, none⟩ = some (.int .u8 (zs[j].toNat : Int))) :
    CallsIn Fence.wide m Try.prog 76 #[.func (.func 109) #[] #[.pointer (some ⟨Bs, 0, none⟩)]] w fun e w' => ∃ v, e = .returned v ∧ w'.ownsRow w.heap.size 75 4 v (units zs).length ((units zs).flatMap cellsU) ∧ Below w.heap.size w w' := by
  have h1 : 1 ≤ m := by omega
  refine callsIn_of_wp Try.func76 rfl trivial ?_ rfl
  simp only [Try.ntmps76, List.size_toArray, List.length_cons, List.length_nil, Nat.reduceAdd, Nat.reduceSub, Array.replicate_succ, Array.replicate_zero, List.push_toArray, List.append_toArray, List.nil_append, List.cons_append]
  gi_wp2_with (refine ⟨trivial, ?_⟩; gi_at_call 108; refine (appendSeq_in (m - 1) (by omega) Bs b off cap p zs hp hlen w hb hBn hBs hc).mono ?_; rintro e w' ⟨v, rfl, h1, h2, h3⟩)
  go_ret
  exact ⟨v, rfl, h1, h3⟩
set_option maxRecDepth 100000 in
theorem decode_in (m : Nat) (hm : 5 ≤ m) (b off cap : Nat) (p : Option Addr) (zs : List UInt8) (hp : zs ≠ [] → p = some ⟨b, off, none⟩) (hlen : zs.length ≤ 1048576) (w : World) (hb : zs ≠ [] → b < w.heap.size)
    (hc : ∀ j (h : j < zs.length), w.cell? ⟨b, off + j, none⟩ = some (.int .u8 (zs[j].toNat : Int))) :
    CallsIn Fence.wide m Try.prog 42 #[.slice p zs.length cap] w fun e w' => ∃ v, e = .returned v ∧ w'.ownsRow w.heap.size 75 4 v (units zs).length ((units zs).flatMap cellsU) ∧ Below w.heap.size w w' := by
  have h1 : 1 ≤ m := by omega
  refine callsIn_of_wp Try.func42 rfl trivial ?_ rfl
  simp only [Try.ntmps42, List.size_toArray, List.length_cons, List.length_nil, Nat.reduceAdd, Nat.reduceSub, Array.replicate_succ, Array.replicate_zero, List.push_toArray, List.append_toArray, List.nil_append, List.cons_append]
  have bO := Boxed.new w 22 (.slice p zs.length cap)
  have hB0 : Below w.heap.size w (w.alloc (.cells #[.slice p zs.length cap] 22)) := (Below.refl _ w).alloc (Nat.le_refl _) _
  have hcol := collect_in (m - 1) (by omega) w.heap.size b off cap p zs hp hlen (w.alloc (.cells #[.slice p zs.length cap] 22)) (fun h => by have := hb h; simp; omega) (by simp) bO.cell (fun j h => (hB0.cell (p := ⟨b, off + j, none⟩) (hb (ne_of_lt h))).trans (hc j h))
  gi_wp2_with (first | (refine ⟨trivial, ?_⟩; gi_at_call 77; refine (units_in _ _ _ _ _).mono ?_; rintro e w' ⟨rfl, rfl⟩) | (refine ⟨trivial, ?_⟩; gi_at_call 76; refine hcol.mono ?_; rintro e w' ⟨v, rfl, h1, h2⟩))
  go_ret
  exact ⟨v, rfl, base_le h1 (by simp), hB0.trans (h2.mono (by simp))⟩
end Go.Proofs.IR

/- part IU4 -/
/- What is told by hand does so in the machine: utf.Decode. -/
namespace Go.Proofs.IR
open Go.RowKit Go.Shelf Go.Val
set_option linter.unusedVariables false
variable {w w' : World} {G : Gh}
def Gh.fresh (G : Gh) (n m : Nat) : Gh := ⟨G.P, fun b => if n ≤ b ∧ b < m then .imm else G.g b, G.ι, G.n⟩
theorem fresh_grows (hb : Below w.heap.size w w') (hf : ∀ b, w.heap.size ≤ b → G.g b = .other) : Grows w G w' (Gh.fresh G w.heap.size w'.heap.size) where
  os := hb.os
  tape := hb.tape
  output := hb.output
  size := hb.size
  heap := hb.block
  g b h := by simp only [Gh.fresh]; rw [if_neg (by omega)]
  fresh b h := by simp only [Gh.fresh]; rw [if_neg (by omega)]; exact hf b (Nat.le_trans hb.size h)
  n := Nat.le_refl _
  ι _ _ := rfl
  P := rfl
/-- A slice that a call has made, and that is its caller's own now: as data that nobody writes. -/
theorem fresh_sl {e : TypeId} {size : Nat} {v : Value} {cells : List Value} {ds : List DVal} (hb : Below w.heap.size w w') (ho : w'.ownsRow w.heap.size e size v ds.length cells)
    (hs : ∀ x ∈ ds, x.cells.length = size) (hr : RelCs w' (Gh.fresh G w.heap.size w'.heap.size) (allCells ds) cells) : RelV w' (Gh.fresh G w.heap.size w'.heap.size) (.sl ds) v := by
  rcases ho.2 with ⟨rfl, h0⟩ | ⟨g, cap, cur, rfl, hg, hh, hc, _, hcur, htk⟩
  · obtain rfl : ds = [] := List.length_eq_zero_iff.1 h0
    exact .nilsl _ _
  · by_cases hne : ds = []
    · subst hne; exact .nilsl _ _
    · refine .sl ds ⟨g, 0, none⟩ cap size cells hne hc ?_ (Array.getElem?_eq_some_iff.1 hh).1 rfl hs hr ?_
      · simp only [Gh.fresh]; rw [if_pos ⟨hg, (Array.getElem?_eq_some_iff.1 hh).1⟩]
      · intro i u hu
        have e : (⟨g, 0, none⟩ : Addr).add i = ⟨g, i, none⟩ := by
          by_cases hj : i = 0
          · subst hj; rfl
          · simp [Addr.add, hj]
        rw [e]
        simp only [World.cell?, hh]
        rw [← htk, List.getElem?_take] at hu
        split at hu
        · simpa using hu
        · cases hu
/-- Bytes that came in, in the machine. -/
theorem bytes_in {b : List UInt8} {v : Value} (h : RelV w G (.sl (b.map eU)) v) : ∃ p cap b0 off, v = .slice p b.length cap ∧ (b ≠ [] → p = some ⟨b0, off, none⟩) ∧ (b ≠ [] → b0 < w.heap.size) ∧ ∀ j (hj : j < b.length), w.cell? ⟨b0, off + j, none⟩ = some (.int .u8 (b[j].toNat : Int)) := by
  generalize hd : DVal.sl (b.map eU) = d at h
  cases h with
  | nilsl a cap =>
    have : b = [] := by simpa using hd
    subst this
    exact ⟨a, cap, 0, 0, rfl, fun h => absurd rfl h, fun h => absurd rfl h, fun j hj => by simp at hj⟩
  | sl xs ad cap k vs hne hcap hg hb hs hk hr hc =>
    obtain rfl : b.map eU = xs := by simpa using hd
    have hvs : vs = b.map fun c => Value.int .u8 (c.toNat : Int) := by
      clear hk hc hcap hne hd
      induction b generalizing vs with
      | nil => cases hr; rfl
      | cons c b ih =>
        have h' : RelCs w G (.int .u8 (c.toNat : Int) :: allCells (b.map eU)) vs := hr
        cases h' with
        | cons _ u _ us _ h1 h2 => cases h1; rw [ih us h2]; rfl
    refine ⟨some ad, cap, ad.block, ad.off, by simp, fun _ => by cases ad; simp_all, fun _ => hb, fun j hj => ?_⟩
    have := hc j (.int .u8 (b[j].toNat : Int)) (by rw [hvs]; simp [hj])
    rw [← this]
    congr 1
    cases ad
    simp only at hs
    subst hs
    by_cases hj0 : j = 0
    · subst hj0; rfl
    · simp [Addr.add, hj0]
  | _ => cases hd
theorem rel_units (l : List TUnit) : RelCs w G (allCells (l.map eUnit)) (l.flatMap cellsU) := by
  induction l with
  | nil => exact .nil
  | cons x l ih => exact .cons _ _ _ _ rfl (.int _ _) (.cons _ _ _ _ rfl (.int _ _) (.cons _ _ _ _ rfl (.int _ _) (.cons _ _ _ _ rfl (.bool _) ih)))
theorem one_arg {t : Nat → Tag} {d : DVal} {vs : List Value} (h : RelArgs w G t 0 [.cv (.val d)] vs) : ∃ v, vs = [v] ∧ RelV w G d v := by
  cases h with
  | cons _ c v _ vs h1 h2 => cases h2; exact ⟨v, rfl, h1⟩
theorem decode_sound {b : List UInt8} {u : List TUnit} {h : Heap} (e : utf_Decode b = some u) : Sound Try.prog 42 [.cv (.val (.sl (List.map eU b)))] h fun o h' => o = [.cv (.val (.sl (List.map eUnit u)))] ∧ h' = h := by
  unfold utf_Decode at e
  split at e
  case isFalse => cases e
  rename_i hlen
  obtain rfl := Option.some.inj e
  refine ⟨⟨Try.f42, _, Try.func42, rfl, by kernel_rfl⟩, fun w G vs hP ha hh hf => ?_⟩
  obtain ⟨v, rfl, hv⟩ := one_arg ha
  obtain ⟨p, cap, b0, off, rfl, hp, hb0, hc⟩ := bytes_in hv
  refine (callsIn_wide.1 (decode_in 5 (Nat.le_refl _) b0 off cap p b hp hlen w hb0 hc)).mono fun e w' ⟨v, he, hown, hbel⟩ => ?_
  have hgr := fresh_grows (G := G) hbel hf
  refine ⟨[v], _, h, Gh.fresh G w.heap.size w'.heap.size, he, ⟨rfl, rfl⟩, .cons _ _ _ _ ?_ .nil, hgr.heapH rfl hh, hgr.fresh, hgr.kept⟩
  exact fresh_sl hbel (by simpa using hown) (fun x hx => by obtain ⟨y, _, rfl⟩ := List.mem_map.1 hx; rfl) (rel_units _)
end Go.Proofs.IR

/- part IU5 -/
/- utf.Runes, in the machine. -/
namespace Go.Proofs.IR
open Go.RowKit Go.Shelf Go.Val
attribute [local go_sem] Oper.semAt_some
set_option linter.unusedVariables false
theorem info3 : (Try.prog.info? 3).map (fun i => (i.zero, i.size, i.bytes)) = some (some (.int .i64 0), 1, 8) := by kernel_rfl
def cellsR (l : List TUnit) : List Value := l.map fun x => .int .i64 x.Rune
set_option maxRecDepth 100000 in
set_option maxHeartbeats 2000000 in
theorem runes_in (m : Nat) (hm : 5 ≤ m) (b off cap : Nat) (p : Option Addr) (zs : List UInt8) (hp : zs ≠ [] → p = some ⟨b, off, none⟩) (hlen : zs.length ≤ 1048576) (w : World) (hb : zs ≠ [] → b < w.heap.size)
    (hc : ∀ j (h : j < zs.length), w.cell? ⟨b, off + j, none⟩ = some (.int .u8 (zs[j].toNat : Int))) :
    CallsIn Fence.wide m Try.prog 54 #[.slice p zs.length cap] w fun e w' => ∃ v, e = .returned v ∧ w'.ownsRow w.heap.size 3 1 v (units zs).length (cellsR (units zs)) ∧ Below w.heap.size w w' := by
  have h1 : 1 ≤ m := by omega
  obtain ⟨i0, hi, hz0, hz1, hz2⟩ := info_parts info3
  refine callsIn_of_wp_marks Try.func54 rfl trivial ?_ rfl
  simp only [Try.ntmps54, List.size_toArray, List.length_cons, List.length_nil, Nat.reduceAdd, Nat.reduceSub, Array.replicate_succ, Array.replicate_zero, List.push_toArray, List.append_toArray, List.nil_append, List.cons_append]
  gi_wp2_with (refine ⟨trivial, ?_⟩; gi_at_call 77; refine (units_in _ _ _ _ _).mono ?_; rintro e w' ⟨rfl, rfl⟩)
  have bO := (Boxed.new w 56 (.slice none 0 0)).alloc (.cells #[.slice p zs.length cap] 22)
  have bN := Boxed.new (w.alloc (.cells #[.slice none 0 0] 56)) 22 (.slice p zs.length cap)
  rw [World.size_alloc] at bN
  have hB0 : Below w.heap.size w ((w.alloc (.cells #[.slice none 0 0] 56)).alloc (.cells #[.slice p zs.length cap] 22)) := ((Below.refl _ w).alloc (Nat.le_refl _) _).alloc (by simp) _
  obtain ⟨W0, hW0⟩ : ∃ W0, (w.alloc (.cells #[.slice none 0 0] 56)).alloc (.cells #[.slice p zs.length cap] 22) = W0 := ⟨_, rfl⟩
  have hs0 : W0.heap.size = w.heap.size + 2 := by rw [← hW0]; simp
  rw [hW0] at bO bN hB0 ⊢
  refine wpIn_rangeFunc_ownH rfl h1 (gf := 109) (lb := #[.pointer (some ⟨w.heap.size + 1, 0, none⟩)]) rfl trivial (enters_of Try.func109 (by kernel_rfl) rfl)
    (units_stops (m - 1) (by omega) (w.heap.size + 1) b off cap p zs hp hlen W0 (fun h => by have := hb h; omega) (by omega) bN.cell (fun j h => (hB0.cell (p := ⟨b, off + j, none⟩) (hb (ne_of_lt h))).trans (hc j h))) Kat.trans (Kat.put (by omega) (fun h => by have := hb h; omega)) (Below.refl _ _) (fun _ => rfl)
    (fun pre W => (∃ v, Boxed W w.heap.size 56 v ∧ W.ownsRow w.heap.size 3 1 v pre.length (cellsR pre) ∧ (v = .slice none 0 0 ↔ pre = [])) ∧ Boxed W (w.heap.size + 1) 22 (.slice p zs.length cap) ∧ Below w.heap.size w W)
    (fun _ _ _ => False)
    ?own
    (fun _ _ _ _ _ hs _ _ => hs)
    ⟨⟨_, bO, World.ownsRow_nil _ _ _ _, by simp⟩, bN, hB0⟩
    (fun x a' W => ∃ Bx, w.heap.size < Bx ∧ W.heap[Bx]? = some (.cells (cellsU x).toArray 75 (0, 0)) ∧ a' = { tmps := #[.slice p zs.length cap, undef, .slice none 0 0, .pointer (some ⟨w.heap.size, 0, none⟩), .pointer (some ⟨Bx, 0, none⟩), .slice p zs.length cap, .func (.func 109) #[] #[.pointer (some ⟨w.heap.size + 1, 0, none⟩)], unitV x, undef, undef, undef, undef, undef, undef], defers := [] })
    (fun x a' _ X Y row hs hg hr => by
      obtain ⟨Bx, h1, h2, h3⟩ := hs
      refine ⟨Bx, h1, (hg.block Bx (Array.getElem?_eq_some_iff.1 h2).1 (fun e => ?_)).trans h2, h3⟩
      obtain ⟨_, o, ho, hco⟩ := hr Bx e.symm
      rw [h2] at ho; cases ho; cases hco)
    ?assign ?body ?done ?stop
  case own => exact OwnFrom.and (Own.from (holdsRow_own w.heap.size w.heap.size 56 3 1 (fun pre : List TUnit => pre.length) (fun pre => cellsR pre) (fun pre v => v = .slice none 0 0 ↔ pre = [])) _) (OwnFrom.and (Own.from (boxed_own _ _ _) _) (ownFrom_below (Nat.le_refl _) (by omega)))
  case assign =>
    rintro l pre x W K ⟨⟨v, hv, hrow, hnil⟩, hN, hB1⟩ hK
    dsimp only [unitV]
    gi_wp2
    exact hK _ _ ((KeepsOthers.alloc _ _).from _) (Kat.of_below ((Below.refl _ W).alloc (Nat.le_refl _) _) hN.lt (fun h => by have := hb h; have := hB1.size; omega)) ⟨⟨v, hv.alloc _, hrow.alloc _, hnil⟩, hN.alloc _, hB1.alloc hB1.size _⟩ ⟨W.heap.size, hv.lt, World.alloc_heap_new W _, rfl⟩
  case body =>
    rintro l pre x a' W hl ⟨r, hr⟩ ⟨⟨v, hv, hrow, hnil⟩, hN, hB⟩ ⟨Bx, hBx, bX, rfl⟩ hlt
    have hc := hv.cell
    have c0 : W.cell? ⟨Bx, 0, none⟩ = some (.int .i64 x.Rune) := by simp only [World.cell?, bX]; rfl
    gi_wp2_with (gi_at_builtin; refine wpListIn_append_own _ rfl _ _ 56 rfl w.heap.size 3 i0 _ 1 8 Try.underlying56 hi hz0 hz1 hz2 rfl (by decide) _ _ _ rfl (hrow.alloc _) ⟨W.heap.size, 0, none⟩ 1 1 [.int .i64 x.Rune] rfl rfl (cells_new W [.int .i64 x.Rune] 3) (by simp [Value.oneCell']) (by have : maxLen = 9223372036854775807 := rfl; omega) (by omega) (by have := hB.size; simp; omega) ?_; intro v' w1 hown' hgrow _; obtain ⟨g', cap', rfl⟩ := ownsRow_succ hown'; obtain ⟨hv1, hv2, hr2, hk2, hb2⟩ := hv.appended (by decide) hrow hB.size (Nat.le_refl _) hown' hgrow; have hc1 := hv1.cell; have hf1 := hv1.frozen)
    have hN1 : Boxed w1 (w.heap.size + 1) 22 (.slice p zs.length cap) := (hgrow.block _ (by have := hN.lt; simp; omega) (fun e => Lib.ownBlock_ne (hrow.alloc (.cells #[.int .i64 x.Rune] 3)) (hN.alloc (.cells #[.int .i64 x.Rune] 3)) (by decide) e.symm)).trans (hN.alloc _)
    have hN2 := hN1.other (B' := w.heap.size) (by omega) (.slice (some ⟨g', 0, none⟩) (pre.length + 1) cap')
    exact ⟨hk2.from _, ⟨hN2.trans hN.symm, fun h => hb2.block b (hb h)⟩, ⟨_, hv2, by simpa [cellsR] using hr2, by simp⟩, hN2, hB.trans hb2⟩
  case done =>
    rintro D ys W hD rfl ⟨⟨v, hv, hrow, hnil⟩, hN, hB⟩ hK
    have hc := hv.cell
    gi_wp2
    refine ⟨by simp, .inl ⟨_, _, rfl, run_takeDeferred hK, ?_⟩⟩
    exact ⟨_, results_tmp rfl _ _ _, v, rfl, ownsRow_putObj hrow _ hK rfl, hB.trans (belowK_b (w := w) (Nat.le_refl _) W D _ _ (by omega) hK rfl rfl)⟩
  case stop =>
    rintro D c pre W _ _ h _
    exact h.elim
theorem rel_runes {w : World} {G : Gh} (l : List TUnit) : RelCs w G (allCells ((l.map TUnit.Rune).map eI)) (cellsR l) := by
  induction l with
  | nil => exact .nil
  | cons x l ih => exact .cons _ _ _ _ rfl (.int _ _) ih
theorem runes_sound {b : List UInt8} {u : List Int} {h : Heap} (e : utf_Runes b = some u) : Sound Try.prog 54 [.cv (.val (.sl (List.map eU b)))] h fun o h' => o = [.cv (.val (.sl (List.map eI u)))] ∧ h' = h := by
  unfold utf_Runes at e
  split at e
  case isFalse => cases e
  rename_i hlen
  obtain rfl := Option.some.inj e
  refine ⟨⟨Try.f54, _, Try.func54, rfl, by kernel_rfl⟩, fun w G vs hP ha hh hf => ?_⟩
  obtain ⟨v, rfl, hv⟩ := one_arg ha
  obtain ⟨p, cap, b0, off, rfl, hp, hb0, hc⟩ := bytes_in hv
  refine (callsIn_wide.1 (runes_in 5 (Nat.le_refl _) b0 off cap p b hp hlen w hb0 hc)).mono fun e w' ⟨v, he, hown, hbel⟩ => ?_
  have hgr := fresh_grows (G := G) hbel hf
  refine ⟨[v], _, h, Gh.fresh G w.heap.size w'.heap.size, he, ⟨rfl, rfl⟩, .cons _ _ _ _ ?_ .nil, hgr.heapH rfl hh, hgr.fresh, hgr.kept⟩
  exact fresh_sl hbel (by simpa using hown) (fun x hx => by obtain ⟨y, _, rfl⟩ := List.mem_map.1 hx; rfl) (rel_runes _)
end Go.Proofs.IR

/- part IU6 -/
/- strings.Builder, as the kit tells it, laid at this program; hexadecimal figures, in the machine. -/
namespace Go.Proofs.IR
open Go.RowKit Go.Shelf Go.Val
set_option linter.unusedVariables false
set_option maxRecDepth 100000
def bld_ren : Go.Shelf.Ren := ⟨fun | 166 => 60 | 240 => 90 | 276 => 119 | 169 => 62 | n => n, fun | 0 => 0 | 3 => 3 | 4 => 4 | 9 => 9 | 20 => 20 | 37 => 22 | 70 => 84 | 72 => 86 | 75 => 88 | 80 => 92 | 164 => 156 | 5 => 5 | 127 => 125 | n => n, fun | n => n⟩
theorem bld_n166 : Lays.n166 Try.prog bld_ren := {
  mixed := by kernel_rfl
  f166 := Try.func60.trans (congrArg some (by kernel_rfl))
  f240 := Try.func90.trans (congrArg some (by kernel_rfl))
  f276 := Try.func119.trans (congrArg some (by kernel_rfl))
  t0 := Try.underlying0
  a0 := Try.isAgg0
  z0 := Try.sizeOf0
  v0 := Try.zeroValue0
  t3 := Try.underlying3
  a3 := Try.isAgg3
  z3 := Try.sizeOf3
  v3 := Try.zeroValue3
  t4 := Try.underlying4
  a4 := Try.isAgg4
  z4 := Try.sizeOf4
  v4 := Try.zeroValue4
  t9 := Try.underlying9
  a9 := Try.isAgg9
  z9 := Try.sizeOf9
  v9 := Try.zeroValue9
  t20 := Try.underlying20
  a20 := Try.isAgg20
  z20 := Try.sizeOf20
  v20 := Try.zeroValue20
  t37 := Try.underlying22
  a37 := Try.isAgg22
  z37 := Try.sizeOf22
  v37 := Try.zeroValue22
  t70 := Try.underlying84
  a70 := Try.isAgg84
  z70 := Try.sizeOf84
  v70 := Try.zeroValue84
  t72 := Try.underlying86
  a72 := Try.isAgg86
  z72 := Try.sizeOf86
  v72 := Try.zeroValue86
  t75 := Try.underlying88
  a75 := Try.isAgg88
  z75 := Try.sizeOf88
  v75 := Try.zeroValue88
  t164 := Try.underlying156
  a164 := Try.isAgg156
  z164 := Try.sizeOf156
  v164 := Try.zeroValue156 }
theorem bld_n169 : Lays.n169 Try.prog bld_ren := {
  mixed := by kernel_rfl
  f169 := Try.func62.trans (congrArg some (by kernel_rfl))
  t0 := Try.underlying0
  a0 := Try.isAgg0
  z0 := Try.sizeOf0
  v0 := Try.zeroValue0
  t3 := Try.underlying3
  a3 := Try.isAgg3
  z3 := Try.sizeOf3
  v3 := Try.zeroValue3
  t9 := Try.underlying9
  a9 := Try.isAgg9
  z9 := Try.sizeOf9
  v9 := Try.zeroValue9
  t37 := Try.underlying22
  a37 := Try.isAgg22
  z37 := Try.sizeOf22
  v37 := Try.zeroValue22
  t70 := Try.underlying84
  a70 := Try.isAgg84
  z70 := Try.sizeOf84
  v70 := Try.zeroValue84
  t72 := Try.underlying86
  a72 := Try.isAgg86
  z72 := Try.sizeOf86
  v72 := Try.zeroValue86
  t127 := Try.underlying125
  a127 := Try.isAgg125
  z127 := Try.sizeOf125
  v127 := Try.zeroValue125 }
theorem bld_X72 : Builder.X72 Try.prog bld_ren := ⟨by kernel_rfl, by kernel_rfl⟩
theorem bld_Extra : Builder.Extra Try.prog bld_ren := { toX72 := bld_X72, t5 := Try.underlying5, a5 := Try.isAgg5, z5 := Try.sizeOf5, v5 := Try.zeroValue5, infoByte := by kernel_rfl, cellsByte := by kernel_rfl, sizeByte := by kernel_rfl, neB5 := by decide }
theorem hexU_lt {n : Nat} (h : n < 16) : hexU n = [if n < 10 then UInt8.ofNat (48 + n) else UInt8.ofNat (55 + n)] := by rw [hexU, dif_pos h]
theorem hexU_ge {n : Nat} (h : ¬ n < 16) : hexU n = hexU (n / 16) ++ hexU (n % 16) := by rw [hexU, dif_neg h]
theorem hexU_len : ∀ (k n : Nat), n < 16 ^ (k + 1) → (hexU n).length ≤ k + 1
  | k, n, h => by
    induction k generalizing n with
    | zero => rw [hexU_lt (by simpa using h)]; simp
    | succ k ih =>
      by_cases hn : n < 16
      · rw [hexU_lt hn]; simp
      · rw [hexU_ge hn, List.length_append, hexU_lt (Nat.mod_lt _ (by decide))]
        have := ih (n / 16) (by rw [Nat.pow_succ] at h; omega)
        simp only [List.length_cons, List.length_nil]; omega
end Go.Proofs.IR

/- part IU7 -/
/- Hexadecimal figures, in the machine. -/
namespace Go.Proofs.IR
open Go.RowKit Go.Shelf Go.Val
set_option linter.unusedVariables false
set_option maxRecDepth 100000
theorem hex_one (w : World) (n : Nat) (h : n < 16) : Calls Try.prog 61 #[.int .i64 (n : Int)] w fun e w' => e = .returned (.string ⟨(hexU n).toArray⟩) ∧ w' = w := by
  rw [hexU_lt h]
  have : n = 0 ∨ n = 1 ∨ n = 2 ∨ n = 3 ∨ n = 4 ∨ n = 5 ∨ n = 6 ∨ n = 7 ∨ n = 8 ∨ n = 9 ∨ n = 10 ∨ n = 11 ∨ n = 12 ∨ n = 13 ∨ n = 14 ∨ n = 15 := by omega
  rcases this with rfl | rfl | rfl | rfl | rfl | rfl | rfl | rfl | rfl | rfl | rfl | rfl | rfl | rfl | rfl | rfl
  all_goals
    go_enter Try.func61, Try.ntmps61
    go_wp2
  all_goals go_ret
  all_goals exact ⟨rfl, rfl⟩
theorem hex_in (w : World) (n : Nat) (hn : n ≤ 1114111) : Calls Try.prog 61 #[.int .i64 (n : Int)] w fun e w' => e = .returned (.string ⟨(hexU n).toArray⟩) ∧ w' = w := by
  induction n using Nat.strongRecOn with
  | _ n ih =>
    by_cases h : n < 16
    · exact hex_one w n h
    · have i1 : Calls Try.prog 61 #[.int .i64 ((n : Int) / 16)] w fun e w' => e = .returned (.string ⟨(hexU (n / 16)).toArray⟩) ∧ w' = w := by simpa using ih (n / 16) (by omega) (by omega)
      have i2 : Calls Try.prog 61 #[.int .i64 ((n : Int) % 16)] w fun e w' => e = .returned (.string ⟨(hexU (n % 16)).toArray⟩) ∧ w' = w := by simpa using ih (n % 16) (by omega) (by omega)
      have l1 := hexU_len 5 (n / 16) (by omega)
      have l2 := hexU_len 5 (n % 16) (by omega)
      rw [hexU_ge h]
      clear ih
      generalize hexU (n / 16) = s1 at *
      generalize hexU (n % 16) = s2 at *
      go_enter Try.func61, Try.ntmps61
      have h' : ¬ (n : Int) < 16 := by omega
      go_wp2_with (first | (go_at_call 61; refine i1.mono ?_; clear i1; rintro e w' ⟨rfl, rfl⟩) | (go_at_call 61; refine i2.mono ?_; clear i2; rintro e w' ⟨rfl, rfl⟩))
      go_ret
      exact ⟨rfl, rfl⟩
end Go.Proofs.IR

/- part IU8 -/
/- lex.Set, in the machine. -/
namespace Go.Proofs.IR
open Go.RowKit Go.Shelf Go.Val
set_option linter.unusedVariables false
set_option maxRecDepth 100000
/-- One range's text. -/
def rngText (x : TRange) : Str := hexX x.Low ++ if x.High = x.Low then [] else 45 :: hexX x.High
def fine (x : TRange) : Prop := 0 ≤ x.Low ∧ x.Low ≤ 1114111 ∧ 0 ≤ x.High ∧ x.High ≤ 1114111
theorem hexX_len {n : Int} (h : n ≤ 1114111) : (hexX n).length ≤ 10 := by
  have := hexU_len 5 n.toNat (by omega)
  simp only [hexX, List.length_append, List.length_cons, List.length_nil]; omega
theorem rng_len {x : TRange} (h : fine x) : (rngText x).length ≤ 21 := by
  have h1 := hexX_len h.2.1; have h2 := hexX_len h.2.2.2
  unfold rngText
  rw [List.length_append]
  split
  · simp; omega
  · simp only [List.length_cons]; omega
theorem text_len : ∀ (l : List TRange), (∀ x ∈ l, fine x) → (l.flatMap rngText).length ≤ l.length * 21
  | [], _ => by simp
  | x :: l, h => by
    have h1 := rng_len (h x (by simp)); have h2 := text_len l (fun y hy => h y (List.mem_cons_of_mem _ hy))
    simp only [List.flatMap_cons, List.length_append, List.length_cons]; omega
theorem hexA (w : World) (n : Int) (h0 : 0 ≤ n) (h1 : n ≤ 1114111) : Calls Try.prog 61 #[.int .i64 n] w fun e w' => e = .returned (.string ⟨(hexU n.toNat).toArray⟩) ∧ w' = w := by
  have := hex_in w n.toNat (by omega)
  rwa [Int.toNat_of_nonneg h0] at this
theorem write_in (B b : Nat) (pre s : List UInt8) (w : World) (h : Lib.IsBuilderF 86 5 B b (Lib.byteCells pre) w) (hl : pre.length + s.length ≤ 140737488355328) (hB : B ≤ w.heap.size) :
    Calls Try.prog 60 #[.pointer (some ⟨b, 0, none⟩), .string ⟨s.toArray⟩] w fun e w' => e = .returned (.tuple #[.int .i64 s.length, .nilIface]) ∧ Lib.IsBuilderF 86 5 B b (Lib.byteCells (pre ++ s)) w' ∧ Below B w w' ∧ Lib.OthersKept 5 (some b) w w' := by
  refine (Any.Builder_WriteString_k bld_n166 bld_Extra B b (Lib.byteCells pre) ⟨s.toArray⟩ w h (by rw [Lib.byteCells_length]; exact hl) hB).mono fun e w' ⟨h1, h2, h3⟩ => ⟨h1, .inr ?_, h3⟩
  rw [Lib.byteCells_append]
  exact h2
theorem string_in (B b : Nat) (pre : List UInt8) (w : World) (h : Lib.IsBuilderF 86 5 B b (Lib.byteCells pre) w) (hB : B ≤ w.heap.size) :
    Calls Try.prog 62 #[.pointer (some ⟨b, 0, none⟩)] w fun e w' => e = .returned (.string ⟨pre.toArray⟩) ∧ Below B w w' :=
  (Any.Builder_String_any_k bld_n169 bld_Extra B b pre w h hB).mono fun e w' ⟨h1, _, h2, _⟩ => ⟨h1, h2⟩
theorem builder_lt {T e : TypeId} {B b : Nat} {bs : List Value} {w : World} (h : Lib.IsBuilderF T e B b bs w) : b < w.heap.size := by
  rcases h with h | h <;> exact h.lt
theorem cells2 {b : Nat} {w w' : World} {k : Nat} {c d : Value} (h : Lib.OthersKept 5 (some b) w w') (hk : w.heap[k]? = some (.cells #[c, d] 80 (0, 0))) (hne : k ≠ b) : w'.heap[k]? = some (.cells #[c, d] 80 (0, 0)) :=
  h k _ hk (fun e => hne (Option.some.inj e)) (fun c fz e => by cases e)
set_option maxHeartbeats 2000000 in
theorem set_in (b off cap : Nat) (p : Option Addr) (l : List TRange) (hp : l ≠ [] → p = some ⟨b, off, none⟩) (hlen : l.length ≤ 1200000) (hok : ∀ x ∈ l, fine x) (w : World) (hb : l ≠ [] → b < w.heap.size)
    (hc : ∀ j (h : j < l.length), w.cell? ⟨b, off + j * 2, none⟩ = some (.int .i64 l[j].Low) ∧ w.cell? ⟨b, off + j * 2 + 1, none⟩ = some (.int .i64 l[j].High)) :
    Calls Try.prog 22 #[.slice p l.length cap] w fun e w' => e = .returned (.string ⟨(setText l).toArray⟩) ∧ Below w.heap.size w w' := by
  go_enter Try.func22, Try.ntmps22
  have hB0 := Lib.IsBuilderF.of (Lib.fresh_isBuilder 86 5 w)
  have hw0 := write_in w.heap.size w.heap.size [] [91] _ hB0 (by simp) (by simp)
  go_wp2_with (go_at_call 60; refine hw0.mono ?_; rintro e w1 ⟨rfl, hI1, hb1, _⟩)
  have hbel1 : Below w.heap.size w w1 := ((Below.refl _ w).alloc (Nat.le_refl _) _).trans hb1
  go_loopw [5, 9] (fun v5 v9 wr => ∃ k : Nat, k ≤ l.length ∧ v9 = .int .i64 k ∧ Lib.IsBuilderF 86 5 w.heap.size w.heap.size (Lib.byteCells (91 :: (l.take k).flatMap rngText)) wr ∧ Below w.heap.size w wr)
    (fun _ v9 _ => l.length - (intOf v9).toNat)
  case atStart => exact ⟨0, Nat.zero_le _, rfl, by simpa using hI1, hbel1⟩
  case round =>
    obtain ⟨k, hk, rfl, hI, hbel⟩ := hrel
    by_cases hlt : k < l.length
    · have hne : l ≠ [] := by intro e; rw [e] at hlt; simp at hlt
      obtain rfl := hp hne
      obtain ⟨c1, c2⟩ := hc k hlt
      have c1' := (hbel.cell (p := ⟨b, off + k * 2, none⟩) (hb hne)).trans c1
      have c2' := (hbel.cell (p := ⟨b, off + k * 2 + 1, none⟩) (hb hne)).trans c2
      have hfx := hok l[k] (List.getElem_mem hlt)
      generalize hx : l[k] = x at c1' c2' hfx
      obtain ⟨f1, f2, f3, f4⟩ := hfx
      have tl := text_len (l.take k) (fun y hy => hok y (List.mem_of_mem_take hy))
      have xl1 := hexX_len f2
      have xl2 := hexX_len f4
      have ul1 := hexU_len 5 x.Low.toNat (by omega)
      have ul2 := hexU_len 5 x.High.toNat (by omega)
      have i1 := fun W => hexA W x.Low f1 f2
      have i2 := fun W => hexA W x.High f3 f4
      have ll : (l.take k).length ≤ 1200000 := by rw [List.length_take]; omega
      have hI2 := hI.alloc (.cells #[.int .i64 x.Low, .int .i64 x.High] 80)
      have hw1 := write_in w.heap.size w.heap.size _ (hexX x.Low) _ hI2 (by simp only [List.length_cons]; omega) (by have := hbel.size; simp; omega)
      unfold hexX at hw1
      have hsnoc : 91 :: (l.take (k + 1)).flatMap rngText = 91 :: (l.take k).flatMap rngText ++ rngText x := by
        rw [List.take_succ_eq_append_getElem hlt, hx]; simp
      by_cases heq : x.High = x.Low
      · have e : rngText x = [92, 120, 123] ++ hexU x.Low.toNat ++ [125] := by unfold rngText hexX; rw [if_pos heq]; simp
        rw [heq] at hw1 c2'
        clear ul2 xl2 i2
        go_wp2_with (first | (go_at_call 61; refine (i1 _).mono ?_; clear i1; rintro e w' ⟨rfl, rfl⟩) | (go_at_call 60; refine hw1.mono ?_; clear hw1; rintro e w2 ⟨rfl, hI3, hb3, hk3⟩; have hB80 := cells2 hk3 (World.alloc_heap_new wr _) (by have := hbel.size; have := builder_lt hI; omega); have d0 : w2.cell? ⟨wr.heap.size, 0, none⟩ = some (.int .i64 x.Low) := (by simp only [World.cell?, hB80]; rfl); have d1 : w2.cell? ⟨wr.heap.size, 1, none⟩ = some (.int .i64 x.Low) := (by simp only [World.cell?, hB80]; rfl)))
        have hbel3 : Below w.heap.size w w2 := (hbel.alloc hbel.size _).trans hb3
        exact ⟨⟨k + 1, by omega, by simp, by rw [hsnoc, e]; exact hI3, hbel3⟩, by simp [intOf]; omega⟩
      · have e : rngText x = ([92, 120, 123] ++ hexU x.Low.toNat ++ [125]) ++ (45 :: ([92, 120, 123] ++ hexU x.High.toNat ++ [125])) := by unfold rngText hexX; rw [if_neg heq]
        go_wp2_with (first | (go_at_call 61; refine (i1 _).mono ?_; clear i1; rintro e w' ⟨rfl, rfl⟩) | (go_at_call 60; refine hw1.mono ?_; clear hw1; rintro e w2 ⟨rfl, hI3, hb3, hk3⟩; have hB80 := cells2 hk3 (World.alloc_heap_new wr _) (by have := hbel.size; have := builder_lt hI; omega); have d0 : w2.cell? ⟨wr.heap.size, 0, none⟩ = some (.int .i64 x.Low) := (by simp only [World.cell?, hB80]; rfl); have d1 : w2.cell? ⟨wr.heap.size, 1, none⟩ = some (.int .i64 x.High) := (by simp only [World.cell?, hB80]; rfl); have hw2 := write_in w.heap.size w.heap.size _ (45 :: hexX x.High) w2 hI3 (by unfold hexX at xl1; simp only [List.length_cons, List.length_append] at *; omega) (by have := ((hbel.alloc hbel.size (.cells #[.int .i64 x.Low, .int .i64 x.High] 80)).trans hb3).size; omega); unfold hexX at hw2) | (go_at_call 61; refine (i2 _).mono ?_; clear i2; rintro e w' ⟨rfl, rfl⟩) | (go_at_call 60; refine hw2.mono ?_; clear hw2; rintro e w3 ⟨rfl, hI4, hb4, hk4⟩))
        have hbel3 : Below w.heap.size w w3 := ((hbel.alloc hbel.size _).trans hb3).trans hb4
        exact ⟨⟨k + 1, by omega, by simp, by rw [hsnoc, e]; simpa using hI4, hbel3⟩, by simp [intOf]; omega⟩
    · obtain rfl : k = l.length := by omega
      rw [List.take_length] at hI
      have tl := text_len l hok
      have hw1 := write_in w.heap.size w.heap.size _ [93] wr hI (by simp only [List.length_cons, List.length_nil]; omega) hbel.size
      go_wp2_with (first | (go_at_call 60; refine hw1.mono ?_; clear hw1; rintro e w2 ⟨rfl, hI3, hb3, hk3⟩; have hst := string_in w.heap.size w.heap.size _ w2 hI3 (hbel.trans hb3).size) | (go_at_call 62; refine hst.mono ?_; clear hst; rintro e w3 ⟨rfl, hb4⟩))
      go_ret
      refine ⟨?_, (hbel.trans hb3).trans hb4⟩
      have e : setText l = 91 :: (l.flatMap rngText ++ [93]) := rfl
      rw [e]; rfl
def cellsG (x : TRange) : List Value := [.int .i64 x.Low, .int .i64 x.High]
theorem cellsG_at : ∀ {l : List TRange} {j : Nat} (h : j < l.length), (l.flatMap cellsG)[j * 2]? = some (.int .i64 l[j].Low) ∧ (l.flatMap cellsG)[j * 2 + 1]? = some (.int .i64 l[j].High)
  | x :: l, 0, h => ⟨rfl, rfl⟩
  | x :: l, j + 1, h => by
    have ih := cellsG_at (l := l) (j := j) (by simpa using h)
    have e : (j + 1) * 2 = j * 2 + 2 := by omega
    simp only [List.flatMap_cons, cellsG, List.cons_append, List.nil_append, e, List.getElem_cons_succ]
    exact ih
theorem ranges_in {w : World} {G : Gh} {l : List TRange} {v : Value} (h : RelV w G (.sl (l.map eRange)) v) : ∃ p cap b off, v = .slice p l.length cap ∧ (l ≠ [] → p = some ⟨b, off, none⟩) ∧ (l ≠ [] → b < w.heap.size) ∧
    ∀ j (hj : j < l.length), w.cell? ⟨b, off + j * 2, none⟩ = some (.int .i64 l[j].Low) ∧ w.cell? ⟨b, off + j * 2 + 1, none⟩ = some (.int .i64 l[j].High) := by
  generalize hd : DVal.sl (l.map eRange) = d at h
  cases h with
  | nilsl a cap =>
    have : l = [] := by simpa using hd
    subst this
    exact ⟨a, cap, 0, 0, rfl, fun h => absurd rfl h, fun h => absurd rfl h, fun j hj => by simp at hj⟩
  | sl xs ad cap k vs hne hcap hg hb hs hk hr hc =>
    obtain rfl : l.map eRange = xs := by simpa using hd
    have hvs : vs = l.flatMap cellsG := by
      clear hk hc hcap hne hd
      induction l generalizing vs with
      | nil => cases hr; rfl
      | cons x l ih =>
        have h' : RelCs w G (.int .i64 x.Low :: .int .i64 x.High :: allCells (l.map eRange)) vs := hr
        cases h' with
        | cons _ u _ us _ h1 h2 =>
          cases h2 with
          | cons _ u2 _ us2 _ h3 h4 => cases h1; cases h3; rw [ih us2 h4]; rfl
    have addr : ∀ i, ad.add i = ⟨ad.block, ad.off + i, none⟩ := fun i => by
      cases ad
      simp only at hs
      subst hs
      by_cases hi : i = 0
      · subst hi; rfl
      · simp [Addr.add, hi]
    refine ⟨some ad, cap, ad.block, ad.off, by simp, fun _ => by cases ad; simp_all, fun _ => hb, fun j hj => ?_⟩
    have hc0 := hc (j * 2) _ (by rw [hvs]; exact (cellsG_at hj).1)
    have hc1 := hc (j * 2 + 1) _ (by rw [hvs]; exact (cellsG_at hj).2)
    rw [addr] at hc0 hc1
    exact ⟨hc0, by rw [Nat.add_assoc]; exact hc1⟩
  | _ => cases hd
theorem set_sound {l : List TRange} {u : Str} {h : Heap} (e : lex_Set l = some u) : Sound Try.prog 22 [.cv (.val (.sl (List.map eRange l)))] h fun o h' => o = [.cv (.val (.str (Val.bs u)))] ∧ h' = h := by
  unfold lex_Set at e
  split at e
  case isFalse => cases e
  rename_i hlen
  obtain rfl := Option.some.inj e
  refine ⟨⟨Try.f22, _, Try.func22, rfl, by kernel_rfl⟩, fun w G vs hP ha hh hf => ?_⟩
  obtain ⟨v, rfl, hv⟩ := one_arg ha
  obtain ⟨p, cap, b0, off, rfl, hp, hb0, hc⟩ := ranges_in hv
  refine (set_in b0 off cap p l hp hlen.1 hlen.2 w hb0 hc).mono fun e w' ⟨he, hbel⟩ => ?_
  have hgr := fresh_grows (G := G) hbel hf
  exact ⟨[.string ⟨(setText l).toArray⟩], _, h, Gh.fresh G w.heap.size w'.heap.size, he, ⟨rfl, rfl⟩, .cons _ _ _ _ (.str _) .nil, hgr.heapH rfl hh, hgr.fresh, hgr.kept⟩
end Go.Proofs.IR

/- part IL -/
/- The kit's contracts of slices.SortFunc and cmp.Compare laid at this program: plain text, written by program. -/
namespace Go.Val
open Go.Proofs Go.Shelf
def sortRg_ren : Go.Shelf.Ren := ⟨fun | 6 => 94 | 15 => 122 | 14 => 121 | 28 => 142 | 29 => 143 | 20 => 134 | 21 => 135 | 22 => 136 | 23 => 137 | 24 => 138 | 25 => 139 | 26 => 140 | 27 => 141 | 46 => 156 | 47 => 157 | 48 => 158 | 49 => 159 | 50 => 160 | 57 => 164 | n => n, fun | 22 => 31 | 24 => 80 | 25 => 131 | 3 => 3 | 39 => 52 | 0 => 0 | 53 => 174 | 55 => 49 | 4 => 4 | 46 => 168 | 45 => 167 | 50 => 100 | 5 => 5 | 9 => 9 | 66 => 181 | 70 => 185 | 76 => 189 | 77 => 190 | n => n, fun | n => n⟩
theorem sortRg : Go.Proofs.SlLaysF0.n6 Try.prog sortRg_ren := {
  mixed := by kernel_rfl
  f6 := ⟨Try.f94.name, by decide, Try.func94.trans (congrArg some (by kernel_rfl))⟩
  f14 := ⟨Try.f121.name, by decide, Try.func121.trans (congrArg some (by kernel_rfl))⟩
  f15 := Try.func122.trans (congrArg some (by kernel_rfl))
  f20 := ⟨Try.f134.name, by decide, Try.func134.trans (congrArg some (by kernel_rfl))⟩
  f21 := ⟨Try.f135.name, by decide, Try.func135.trans (congrArg some (by kernel_rfl))⟩
  f22 := ⟨Try.f136.name, by decide, Try.func136.trans (congrArg some (by kernel_rfl))⟩
  f23 := ⟨Try.f137.name, by decide, Try.func137.trans (congrArg some (by kernel_rfl))⟩
  f24 := ⟨Try.f138.name, by decide, Try.func138.trans (congrArg some (by kernel_rfl))⟩
  f25 := ⟨Try.f139.name, by decide, Try.func139.trans (congrArg some (by kernel_rfl))⟩
  f26 := ⟨Try.f140.name, by decide, Try.func140.trans (congrArg some (by kernel_rfl))⟩
  f27 := ⟨Try.f141.name, by decide, Try.func141.trans (congrArg some (by kernel_rfl))⟩
  f28 := Try.func142.trans (congrArg some (by kernel_rfl))
  f29 := Try.func143.trans (congrArg some (by kernel_rfl))
  f46 := ⟨Try.f156.name, by decide, Try.func156.trans (congrArg some (by kernel_rfl))⟩
  f47 := Try.func157.trans (congrArg some (by kernel_rfl))
  f48 := Try.func158.trans (congrArg some (by kernel_rfl))
  f49 := ⟨Try.f159.name, by decide, Try.func159.trans (congrArg some (by kernel_rfl))⟩
  f50 := ⟨Try.f160.name, by decide, Try.func160.trans (congrArg some (by kernel_rfl))⟩
  f57 := ⟨Try.f164.name, by decide, Try.func164.trans (congrArg some (by kernel_rfl))⟩
  t0 := Try.underlying0
  a0 := Try.isAgg0
  z0 := Try.sizeOf0
  v0 := Try.zeroValue0
  t3 := Try.underlying3
  a3 := Try.isAgg3
  z3 := Try.sizeOf3
  v3 := Try.zeroValue3
  t4 := Try.underlying4
  a4 := Try.isAgg4
  z4 := Try.sizeOf4
  v4 := Try.zeroValue4
  t5 := Try.underlying5
  a5 := Try.isAgg5
  z5 := Try.sizeOf5
  v5 := Try.zeroValue5
  t9 := Try.underlying9
  a9 := Try.isAgg9
  z9 := Try.sizeOf9
  v9 := Try.zeroValue9
  t22 := Try.underlying31
  a22 := Try.isAgg31
  z22 := Try.sizeOf31
  v22 := Try.zeroValue31
  t25 := Try.underlying131
  a25 := Try.isAgg131
  z25 := Try.sizeOf131
  v25 := Try.zeroValue131
  t39 := Try.underlying52
  a39 := Try.isAgg52
  z39 := Try.sizeOf52
  v39 := Try.zeroValue52
  t45 := Try.underlying167
  a45 := Try.isAgg167
  z45 := Try.sizeOf167
  v45 := Try.zeroValue167
  t46 := Try.underlying168
  a46 := Try.isAgg168
  z46 := Try.sizeOf168
  v46 := Try.zeroValue168
  t50 := Try.underlying100
  a50 := Try.isAgg100
  z50 := Try.sizeOf100
  v50 := Try.zeroValue100
  t53 := Try.underlying174
  a53 := Try.isAgg174
  z53 := Try.sizeOf174
  v53 := Try.zeroValue174
  t55 := Try.underlying49
  a55 := Try.isAgg49
  z55 := Try.sizeOf49
  v55 := Try.zeroValue49
  t66 := Try.underlying181
  a66 := Try.isAgg181
  z66 := Try.sizeOf181
  v66 := Try.zeroValue181
  t70 := Try.underlying185
  a70 := Try.isAgg185
  z70 := Try.sizeOf185
  v70 := Try.zeroValue185
  t76 := Try.underlying189
  a76 := Try.isAgg189
  z76 := Try.sizeOf189
  v76 := Try.zeroValue189
  t77 := Try.underlying190
  a77 := Try.isAgg190
  z77 := Try.sizeOf190
  v77 := Try.zeroValue190 }

def cmpInt_ren : Go.Shelf.Ren := ⟨fun | 5 => 96 | 7 => 123 | n => n, fun | 22 => 3 | 3 => 3 | 4 => 4 | n => n, fun | n => n⟩
theorem cmpInt : Go.Proofs.SlLaysC2.n5 Try.prog cmpInt_ren := {
  mixed := by kernel_rfl
  f5 := ⟨Try.f96.name, by decide, Try.func96.trans (congrArg some (by kernel_rfl))⟩
  f7 := ⟨Try.f123.name, by decide, Try.func123.trans (congrArg some (by kernel_rfl))⟩
  t3 := Try.underlying3
  a3 := Try.isAgg3
  z3 := Try.sizeOf3
  v3 := Try.zeroValue3
  t4 := Try.underlying4
  a4 := Try.isAgg4
  z4 := Try.sizeOf4
  v4 := Try.zeroValue4
  t22 := Try.underlying3
  a22 := Try.isAgg3
  z22 := Try.sizeOf3
  v22 := Try.zeroValue3 }
end Go.Val

/- part IY -/
/- What the program turns in place: slices.SortFunc at ranges does in the machine what is said of it (by the kit's contract). -/
namespace Go.Proofs.IR
open Go.Shelf Go.RowKit Go.Lib Go.Sort Go.Val
set_option linter.unusedVariables false
set_option maxRecDepth 100000
def encR (x : TRange) : List Value := [.int .i64 x.Low, .int .i64 x.High]
set_option maxHeartbeats 1000000 in
theorem closure95 (x y : TRange) (W : World) : Calls Try.prog 95 #[.agg #[.int .i64 x.Low, .int .i64 x.High], .agg #[.int .i64 y.Low, .int .i64 y.High]] W fun e w' => e = .returned (.int .i64 (Lib.compareInt x.Low y.Low)) ∧ ∃ q os', w' = Sort.grow (W.drewN q) os' := by
  have hcon := fun W' => AnyG.cmp_Compare_int cmpInt x.Low y.Low W'
  change ∀ W', Calls Try.prog 96 _ _ _ at hcon
  generalize Lib.compareInt x.Low y.Low = r at hcon ⊢
  go_enter Try.func95, Try.ntmps95
  go_wp2_with (go_at_call 96; refine (hcon _).mono ?_; rintro e w' ⟨rfl, rfl⟩)
  go_ret
  exact ⟨rfl, 0, _, by rw [alloc_eq_grow, alloc_eq_grow, grow_grow]; rfl⟩
theorem cmpLays95 (blk off size : Nat) (w : World) : CmpLays Try.prog 95 #[] encR 2 (fun x y => Lib.compareInt x.Low y.Low) blk off size w :=
  fun _ _ _ _ x y => closure95 x y _
theorem ltLow : ltOf (fun x y : TRange => Lib.compareInt x.Low y.Low) = ltR := by
  funext x y
  unfold ltOf Lib.compareInt ltR
  by_cases h1 : x.Low < y.Low
  · simp [h1]
  · by_cases h2 : y.Low < x.Low <;> simp [h1, h2]
theorem swoR : SWO ltR where
  irrefl x := by simp [ltR]
  trans x y z h1 h2 := by simp [ltR] at *; omega
  ntrans x y z h1 h2 := by simp [ltR] at *; omega
variable {w : World} {G : Gh}
theorem vals_of : ∀ {l : List TRange} {vs : List Value}, RelCs w G (allCells (l.map eRange)) vs → vs = l.flatMap encR
  | [], vs, h => by
    have h' : RelCs w G [] vs := h
    cases h'; rfl
  | a :: l, vs, h => by
    have h' : RelCs w G (.int .i64 a.Low :: .int .i64 a.High :: allCells (l.map eRange)) vs := h
    cases h' with
    | cons _ v _ vs _ h1 h2 =>
      cases h2 with
      | cons _ v2 _ vs2 _ h3 h4 =>
        cases h1; cases h3
        rw [vals_of h4]; rfl
theorem rel_of : ∀ (l : List TRange), RelCs w G (allCells (l.map eRange)) (l.flatMap encR)
  | [] => .nil
  | a :: l => .cons _ _ _ _ rfl (.int _ _) (.cons _ _ _ _ rfl (.int _ _) (rel_of l))
theorem flat_len : ∀ (l : List TRange), (l.flatMap encR).length = l.length * 2
  | [] => rfl
  | a :: l => by simp only [List.flatMap_cons, List.length_append, flat_len l, List.length_cons, encR]; simp; omega
theorem flat_get : ∀ (l : List TRange) (t : Nat), t < l.length * 2 → (l.flatMap encR)[t]? = some ((encR l.toArray[t / 2]!)[t % 2]!)
  | [], t, h => by simp at h
  | a :: l, 0, h => rfl
  | a :: l, 1, h => rfl
  | a :: l, t + 2, h => by
    have ih := flat_get l t (by simp at h; omega)
    have e1 : (t + 2) / 2 = t / 2 + 1 := by omega
    have e2 : (t + 2) % 2 = t % 2 := by omega
    rw [e1, e2]
    have e3 : (a :: l).toArray[t / 2 + 1]! = l.toArray[t / 2]! := by simp [Array.getElem!_eq_getD, Array.getD_eq_getD_getElem?]
    rw [e3]
    have e4 : ((a :: l).flatMap encR)[t + 2]? = (l.flatMap encR)[t]? := by
      simp only [List.flatMap_cons, encR]; rfl
    rw [e4]; exact ih
theorem flatK_get (l : List TRange) (j : Nat) (h : j < l.length * 2) : (l.flatMap encR)[j]? = some (flatK encR 2 l.toArray)[j]! := by
  rw [get_flatK _ _ _ _ (by simpa using h)]; exact flat_get l j h
theorem ext_CT (hh : ∀ f a h o h', CT.hand f a h o h' → Sound CT.P f a h fun o1 h1 => o1 = o ∧ h1 = h') : ExtSound CT := by
  refine ⟨hh, ?_⟩
  intro g ds k zs ys he
  have he' : extR g ds k zs = some ys := he
  unfold extR at he'
  split at he'
  case isFalse => cases he'
  rename_i hc
  obtain ⟨rfl, rfl, rfl⟩ := hc
  obtain ⟨l, l', rfl, hs, rfl⟩ := extOf_some he'
  unfold sortR at hs
  split at hs
  case isFalse => cases hs
  rename_i hlen
  have hs' := Option.some.inj hs
  clear hs he he'
  subst hs'
  refine ⟨⟨Try.f94, _, Try.func94, rfl, by kernel_rfl⟩, fun w G t v vs hP hrow hvs => ?_⟩
  have hv : vs = [.func (.func 95) #[] #[]] := by
    cases hvs with
    | cons _ v _ vs _ h1 h2 =>
      cases h2
      cases h1 with
      | fn _ _ _ us vs k1 k2 =>
        have e1 : us = #[] := by
          cases hu : us.toList with
          | nil => exact Array.toList_inj.1 hu
          | cons u l => rw [hu] at k1; cases k1
        have e2 : vs = #[] := by
          cases hu : vs.toList with
          | nil => exact Array.toList_inj.1 hu
          | cons u l => rw [hu] at k2; cases k2
        rw [e1, e2]
  subst hv
  have hno : ∀ (p : Option Addr) (cap : Nat), l = [] → v = .slice p 0 cap → Calls Try.prog 94 #[v, .func (.func 95) #[] #[]] w fun e w' => e = .returned (.tuple #[]) ∧ w' = w := fun p cap _ e => by
    rw [e]
    exact AnyF.slices_SortFunc_none sortRg p cap _ w
  have empty : ∀ (p : Option Addr) (cap : Nat), l = [] → v = .slice p 0 cap → Calls CT.P 94 (v :: [.func (.func 95) #[] #[]]).toArray w fun e w' => e = .returned (.tuple #[]) ∧ w'.os = w.os ∧ w'.tape = w.tape ∧ w'.output = w.output ∧ w.heap.size ≤ w'.heap.size ∧
      ((l.map eRange = [] ∧ (pdq ltR l.toArray 0 l.length (Lib.bitLen l.length) true true).toList.map eRange = [] ∧ ∀ b, b < w.heap.size → w'.heap[b]? = w.heap[b]?) ∨
       l.map eRange ≠ [] ∧ ∃ b cap arr arr', v = .slice (some ⟨b, 0, none⟩) (l.map eRange).length cap ∧ w.heap[b]? = some (.cells arr 80 (0, 0)) ∧ w'.heap[b]? = some (.cells arr' 80 (0, 0)) ∧ arr'.size = arr.size ∧ ((pdq ltR l.toArray 0 l.length (Lib.bitLen l.length) true true).toList.map eRange).length = (l.map eRange).length ∧
         (∀ y ∈ (pdq ltR l.toArray 0 l.length (Lib.bitLen l.length) true true).toList.map eRange, y.cells.length = CT.P.cellsOf 80) ∧ RelCs w G (allCells ((pdq ltR l.toArray 0 l.length (Lib.bitLen l.length) true true).toList.map eRange)) (arr'.toList.take (((pdq ltR l.toArray 0 l.length (Lib.bitLen l.length) true true).toList.map eRange).length * CT.P.cellsOf 80)) ∧ ∀ b', b' < w.heap.size → b' ≠ b → w'.heap[b']? = w.heap[b']?) := fun p cap hl e => by
    refine (hno p cap hl e).mono fun e w' ⟨h1, h2⟩ => ?_
    subst h2
    refine ⟨h1, rfl, rfl, rfl, Nat.le_refl _, .inl ⟨by rw [hl]; rfl, ?_, fun _ _ => rfl⟩⟩
    have hp := (pdq_sorts ltR swoR l.toArray 0 l.length (Lib.bitLen l.length) true true (Nat.zero_le _) (by simp) (Or.inl rfl)).1.1
    rw [hl] at hp ⊢
    have : (pdq ltR ([] : List TRange).toArray 0 ([] : List TRange).length (Lib.bitLen ([] : List TRange).length) true true).toList = [] := List.length_eq_zero_iff.1 (by simpa using hp)
    rw [this]; rfl
  by_cases hl : l = []
  · rcases hrow with ⟨_, a, e⟩ | ⟨b, cap, arr, e, _⟩
    · exact empty a 0 hl e
    · exact empty (some ⟨b, 0, none⟩) cap hl (by rw [e, hl]; rfl)
  rcases hrow with ⟨h0, _⟩ | ⟨b, cap, arr, rfl, h2, h3, h4, h5, h6, h7, h8⟩
  · exact absurd (List.map_eq_nil_iff.1 h0) hl
  have hcell : G.P.cellsOf 80 = 2 := by rw [hP]; kernel_rfl
  rw [hcell] at h4 h7 h8
  have hvals := vals_of h8
  have hlm : (l.map eRange).length = l.length := by simp
  rw [hlm] at hvals h5
  have hget : ∀ j, j < l.length * 2 → arr[j]? = some (flatK encR 2 l.toArray)[j]! := fun j hj => by
    rw [← flatK_get l j hj, ← hvals, List.getElem?_take, if_pos hj]; simp
  have hH : HoldsK encR 2 w b 0 l.toArray := fun j hj => by
    have hj' : j < l.length * 2 := by simpa using hj
    refine ⟨?_, ?_⟩
    · simp only [World.cell?, h3, Nat.zero_add]
      exact hget j hj'
    · simp [World.frozen?, h3]
  have hsz : l.toArray.size < 4611686018427387904 := by
    have : roomOf = 140737488355328 := rfl
    have e : l.toArray.size = l.length := by simp
    omega
  have eg : ∀ args w, (callFunc 95 args).run Try.prog w = .ok (.enter 95 args) w := enters_of Try.func95 (by kernel_rfl) rfl
  have hcon := AnyQ.slices_SortFunc_eq sortRg 2 Try.isAgg80 Try.sizeOf80 encR (fun _ => rfl) (fun x v hv => by simp [encR] at hv; rcases hv with rfl | rfl <;> rfl) (fun x y => Lib.compareInt x.Low y.Low) (by rw [ltLow]; exact swoR) 95 #[] b 0 cap l.toArray w eg (cmpLays95 b 0 _ w) hH (heap_lt h3) hsz
  rw [ltLow, List.size_toArray] at hcon
  change Calls Try.prog 94 _ _ _ at hcon
  clear empty hno hvs h8 hget hH eg
  have hcon' : Calls CT.P 94 (.slice (some ⟨b, 0, none⟩) (l.map eRange).length cap :: [.func (.func 95) #[] #[]]).toArray w fun e w' => e = .returned (.tuple #[]) ∧ ∃ n os, w' = sortWorldK encR 2 w b 0 n (pdq ltR l.toArray 0 l.length (Lib.bitLen l.length) true true) os := by
    rw [hlm]
    exact hcon
  refine hcon'.mono fun e w' ⟨he, n, os, hw⟩ => ?_
  have hp := (pdq_sorts ltR swoR l.toArray 0 l.length (Lib.bitLen l.length) true true (Nat.zero_le _) (by simp) (Or.inl rfl)).1.1
  generalize pdq ltR l.toArray 0 l.length (Lib.bitLen l.length) true true = d' at hp hw ⊢
  have hb := heap_lt h3
  have hps : d'.size = l.length := by simpa using hp
  have hheap : w'.heap = (w.heap.modify b (onCells (putCells id 0 (flatK encR 2 d')))) ++ os := by rw [hw]; rfl
  have hnew : w'.heap[b]? = some (.cells (putCells id 0 (flatK encR 2 d') arr) 80 (0, 0)) := by
    rw [hheap, Array.getElem?_append, if_pos (by simpa using hb), Array.getElem?_modify, if_pos rfl, h3]; rfl
  refine ⟨he, by rw [hw]; rfl, by rw [hw]; rfl, by rw [hw]; rfl, by rw [hheap]; simp, .inr ⟨by simpa using hl, b, cap, arr, _, rfl, h3, hnew, by simp [putCells], by simp [hps], ?_, ?_, fun b' hb' hne => ?_⟩⟩
  · intro y hy
    obtain ⟨x, _, rfl⟩ := List.mem_map.1 hy
    kernel_rfl
  · have e : (putCells id 0 (flatK encR 2 d') arr).toList.take ((d'.toList.map eRange).length * CT.P.cellsOf 80) = d'.toList.flatMap encR := by
      have hc2 : CT.P.cellsOf 80 = 2 := by kernel_rfl
      rw [hc2]
      apply List.ext_getElem?
      intro j
      have hdl : d'.toList.length = l.length := by simpa using hps
      rw [List.getElem?_take]
      by_cases hj : j < d'.toList.length * 2
      · have hj2 : j < (d'.toList.map eRange).length * 2 := by simpa using hj
        rw [if_pos hj2, flatK_get d'.toList j hj]
        have hja : j < arr.size := by rw [h4]; rw [hdl] at hj; omega
        have hx : arr[j]? = some arr[j] := Array.getElem?_eq_getElem hja
        have hs : j < 0 + (flatK encR 2 d').size := by simpa using hj
        simp only [Array.getElem?_toList, putCells, Array.getElem?_mapIdx, hx, Option.map_some, Nat.zero_le, true_and, Nat.sub_zero, id]
        rw [if_pos hs]
      · have hj2 : ¬ j < (d'.toList.map eRange).length * 2 := by simpa using hj
        rw [if_neg hj2, List.getElem?_eq_none (by rw [flat_len]; omega)]
    rw [e]
    exact rel_of _
  · rw [hheap, Array.getElem?_append, if_pos (by simpa using hb'), Array.getElem?_modify, if_neg (Ne.symm hne)]
end Go.Proofs.IR

/- part IZ -/
/- All that is told by hand of chapter 07's functions, in the machine. -/
namespace Go.Proofs.IR
open Go.Val
theorem hand_CT : ∀ f a h o h', CT.hand f a h o h' → Sound CT.P f a h fun o1 h1 => o1 = o ∧ h1 = h' := by
  intro f a h o h' hh
  obtain ⟨rfl, hh⟩ : h' = h ∧ _ := hh
  rcases hh with ⟨rfl, b, u, rfl, he, rfl⟩ | ⟨rfl, b, u, rfl, he, rfl⟩ | ⟨rfl, b, u, rfl, he, rfl⟩
  · exact decode_sound he
  · exact runes_sound he
  · exact set_sound he
theorem ext_all : ExtSound CT := ext_CT hand_CT
end Go.Proofs.IR

/- part IF -/
/- Functions that are read off the program. -/
namespace Go.Val
set_option linter.unusedVariables false
set_option linter.unusedSimpArgs false
noncomputable section
def lex_reader_now (r : Tlex_reader) : Option Int :=
  if (decide (r.place ≥ (r.units.length : Int))) then
    some (-1 : Int)
  else
    (idx r.units r.place).bind fun x =>
    if x.Bad then
      some (-2 : Int)
    else
      some x.Rune
def lex_reader_skip.k1 (r : Tlex_reader) (place : Int) : Option Tlex_reader :=
  some (Tlex_reader.mk r.units place r.whole r.fault)
def lex_reader_skip.b1 (r : Tlex_reader) (is : Int → Option Bool) : Int → Option (Step Int Tlex_reader)
  | place1 =>
    (lex_reader_now (Tlex_reader.mk r.units place1 r.whole r.fault)).bind fun r1 =>
    (is r1).bind fun r2 =>
    if r2 then
      some (Step.next (IntKind.i64.wrap (place1 + (1 : Int))))
    else
      (lex_reader_skip.k1 r place1).map Step.done
def lex_reader_skip (r : Tlex_reader) (is : Int → Option Bool) : Option Tlex_reader :=
  Loop (lex_reader_skip.b1 r is) r.place
def lex_one.k1 : Option Bool :=
  some false
def lex_one.b1 (of : Str) (r : Int) : Int → Option (Step Int Bool)
  | v =>
    if (decide (v < (of.length : Int))) then
      (idx of v).bind fun c =>
      if ((IntKind.i64.wrap (c.toNat : Int)) == r) then
        some (Step.done true)
      else
        some (Step.next (IntKind.i64.wrap (v + (1 : Int))))
    else
      (lex_one.k1).map Step.done
def lex_one (of : Str) (r : Int) : Option Bool :=
  Loop (lex_one.b1 of r) (0 : Int)
def lex_reader_blank_1 (n : Int) : Option Bool :=
  (lex_one ([32, 9, 13, 10] : Str) n).bind fun r =>
  some r
def lex_reader_blank_2 (n : Int) : Option Bool :=
  some ((n != (10 : Int)) && ((n != (-1 : Int)) && (n != (-2 : Int))))
def lex_reader_blank.b1 : (List TUnit × Int × Int × Int) → Option (Step ((List TUnit × Int × Int × Int)) Tlex_reader)
  | (units, place, whole, fault) =>
    (lex_reader_skip (Tlex_reader.mk units place whole fault) (lex_reader_blank_1)).bind fun r1 =>
    (lex_reader_now r1).bind fun r2 =>
    if (r2 != (35 : Int)) then
      some (Step.done r1)
    else
      (lex_reader_skip r1 (lex_reader_blank_2)).bind fun r3 =>
      some (Step.next (r3.units, r3.place, r3.whole, r3.fault))
def lex_reader_blank (r : Tlex_reader) : Option Tlex_reader :=
  Loop lex_reader_blank.b1 (r.units, r.place, r.whole, r.fault)
def lex_reader_at (r : Tlex_reader) : Option Int :=
  if (decide (r.place ≥ (r.units.length : Int))) then
    some r.whole
  else
    (idx r.units r.place).bind fun x =>
    some x.At
def lex_reader_odd.k1 (r : Tlex_reader) (fault : Int) : Option Tlex_reader :=
  some (Tlex_reader.mk r.units r.place r.whole fault)
def lex_reader_odd (r : Tlex_reader) : Option Tlex_reader :=
  if (r.fault != (0 : Int)) then
    lex_reader_odd.k1 r r.fault
  else
    (lex_reader_now r).bind fun r1 =>
    if (r1 == (-1 : Int)) then
      lex_reader_odd.k1 r (7 : Int)
    else
      lex_reader_odd.k1 r (6 : Int)
def lex_reader_take (r : Tlex_reader) (is : Int → Option Bool) : Option ((Int × Tlex_reader)) :=
  (lex_reader_now r).bind fun r1 =>
  (if (r.fault != (0 : Int)) then
      some true
    else
      (is r1).bind fun r2 =>
      some (!r2)).bind fun v =>
  if v then
    (lex_reader_odd r).bind fun r3 =>
    some ((0 : Int), r3)
  else
    some (r1, (Tlex_reader.mk r.units (IntKind.i64.wrap (r.place + (1 : Int))) r.whole r.fault))
def lex_lower (r : Int) : Option Bool :=
  some ((decide (r ≥ (97 : Int))) && (decide (r ≤ (122 : Int))))
def lex_reader_token_1 (n : Int) : Option Bool :=
  ((lex_lower n).bind fun r =>
    if r then
      some true
    else
      if (n == (91 : Int)) then
        some true
      else
        (lex_one ([61, 59, 47, 124, 42, 43, 63, 40, 41, 46, 126, 38, 45] : Str) n).bind fun r1 =>
        some r1).bind fun v =>
  some v
def lex_reader_letter_1 (n : Int) : Option Bool :=
  (if (decide (n ≥ (32 : Int))) then
      (lex_one ([91, 93, 45] : Str) n).bind fun r =>
      some (!r)
    else
      some false).bind fun v =>
  some v
def lex_reader_letter_2 (n : Int) : Option Bool :=
  (if (n == (120 : Int)) then
      some true
    else
      (lex_one ([91, 93, 45, 92] : Str) n).bind fun r =>
      some r).bind fun v =>
  some v
def lex_reader_number_1 (n : Int) : Option Bool :=
  some (n == (123 : Int))
def lex_reader_number_2 (n : Int) : Option Bool :=
  some (bif (decide (n ≥ (48 : Int))) then ((decide (n ≤ (57 : Int))) || ((decide (n ≥ (65 : Int))) && (decide (n ≤ (70 : Int))))) else ((decide (n ≥ (65 : Int))) && (decide (n ≤ (70 : Int)))))
def lex_reader_number_3 (n : Int) : Option Bool :=
  some (n == (125 : Int))
def lex_reader_number.k1 (out : Int) (units : List TUnit) (place : Int) (whole : Int) (fault : Int) : Option ((Int × Tlex_reader)) :=
  (lex_reader_take (Tlex_reader.mk units place whole fault) (lex_reader_number_3)).bind fun r2 =>
  some (out, r2.2)
def lex_reader_number.k2 (out1 : Int) (i : Int) (r5 : (Int × Tlex_reader)) (n : Int) : Option (Step ((Int × Int × List TUnit × Int × Int × Int)) ((Int × Tlex_reader))) :=
  some (Step.next ((IntKind.i64.wrap ((IntKind.i64.wrap ((IntKind.i64.wrap (out1 * (16 : Int))) + n)) - (48 : Int))), (IntKind.i64.wrap (i + (1 : Int))), r5.2.units, r5.2.place, r5.2.whole, r5.2.fault))
def lex_reader_number.b1 : (Int × Int × List TUnit × Int × Int × Int) → Option (Step ((Int × Int × List TUnit × Int × Int × Int)) ((Int × Tlex_reader)))
  | (out1, i, units1, place1, whole1, fault1) =>
    (if (decide (i < (6 : Int))) then
        if (i == (0 : Int)) then
          some true
        else
          (lex_reader_now (Tlex_reader.mk units1 place1 whole1 fault1)).bind fun r3 =>
          (lex_reader_number_2 r3).bind fun r4 =>
          some r4
      else
        some false).bind fun v =>
    if v then
      (lex_reader_take (Tlex_reader.mk units1 place1 whole1 fault1) (lex_reader_number_2)).bind fun r5 =>
      if (decide (r5.1 ≥ (65 : Int))) then
        lex_reader_number.k2 out1 i r5 (IntKind.i64.wrap (r5.1 - (7 : Int)))
      else
        lex_reader_number.k2 out1 i r5 r5.1
    else
      (lex_reader_number.k1 out1 units1 place1 whole1 fault1).map Step.done
def lex_reader_number (r : Tlex_reader) : Option ((Int × Tlex_reader)) :=
  (lex_reader_take r (lex_reader_number_1)).bind fun r1 =>
  Loop lex_reader_number.b1 ((0 : Int), (0 : Int), r1.2.units, r1.2.place, r1.2.whole, r1.2.fault)
def lex_reader_letter (r : Tlex_reader) : Option ((Int × Tlex_reader)) :=
  (lex_reader_take r (lex_reader_letter_1)).bind fun r1 =>
  if ((r1.1 != (92 : Int)) || (r1.2.fault != (0 : Int))) then
    some (r1.1, r1.2)
  else
    (lex_reader_take r1.2 (lex_reader_letter_2)).bind fun r2 =>
    if (r2.1 != (120 : Int)) then
      some (r2.1, r2.2)
    else
      (lex_reader_number r2.2).bind fun r3 =>
      some (r3.1, r3.2)
def ranges_Make_1 (x : TRange) : Option Bool :=
  some ((decide (x.Low < (0 : Int))) || ((decide (x.High > (1114111 : Int))) || (decide (x.Low > x.High))))
def slices_IndexFunc_api_Range_api_Range.k1 : Option Int :=
  some (-1 : Int)
def slices_IndexFunc_api_Range_api_Range.b1 (s : List TRange) (f : TRange → Option Bool) : Int → Option (Step Int Int)
  | v =>
    if (decide (v < (s.length : Int))) then
      (idx s v).bind fun x =>
      (f x).bind fun r =>
      if r then
        some (Step.done v)
      else
        some (Step.next (IntKind.i64.wrap (v + (1 : Int))))
    else
      (slices_IndexFunc_api_Range_api_Range.k1).map Step.done
def slices_IndexFunc_api_Range_api_Range (s : List TRange) (f : TRange → Option Bool) : Option Int :=
  Loop (slices_IndexFunc_api_Range_api_Range.b1 s f) (0 : Int)
def slices_ContainsFunc_api_Range_api_Range (s : List TRange) (f : TRange → Option Bool) : Option Bool :=
  (slices_IndexFunc_api_Range_api_Range s f).bind fun r =>
  some (decide (r ≥ (0 : Int)))
def ranges_put (l : List TRange) (x : TRange) : Option (List TRange) :=
  (if (decide ((l.length : Int) > (0 : Int))) then
      (idx l (IntKind.i64.wrap ((l.length : Int) - (1 : Int)))).bind fun x1 =>
      some (decide (x.Low ≤ (IntKind.i64.wrap (x1.High + (1 : Int)))))
    else
      some false).bind fun v =>
  if v then
    (idx l (IntKind.i64.wrap ((l.length : Int) - (1 : Int)))).bind fun x2 =>
    some (List.set l (Int.toNat (IntKind.i64.wrap ((l.length : Int) - (1 : Int)))) (TRange.mk x2.Low (mx x2.High x.High)))
  else
    (room 16 (l.length + 1)).bind fun _ =>
    some (l ++ ([x]))
def ranges_Make.k1 (out : List TRange) : Option ((List TRange × Int)) :=
  some (out, (0 : Int))
def ranges_Make.b1 (l1 : List TRange) : (List TRange × Int) → Option (Step ((List TRange × Int)) ((List TRange × Int)))
  | (out1, v) =>
    if (decide (v < (l1.length : Int))) then
      (idx l1 v).bind fun x =>
      (ranges_put out1 x).bind fun r2 =>
      some (Step.next (r2, (IntKind.i64.wrap (v + (1 : Int)))))
    else
      (ranges_Make.k1 out1).map Step.done
def ranges_Make (l : List TRange) : Option ((List TRange × Int)) :=
  (slices_ContainsFunc_api_Range_api_Range l (ranges_Make_1)).bind fun r =>
  if r then
    some (([] : List TRange), (1 : Int))
  else
    (slices_Clone_api_Range_api_Range l).bind fun r1 =>
    (sortR r1).bind fun l1 =>
    Loop (ranges_Make.b1 l1) ([], (0 : Int))
def lex_reader_set.k1 (l : List TRange) (units : List TUnit) (place : Int) (whole : Int) (fault : Int) : Option ((List TRange × Tlex_reader)) :=
  (ranges_Make l).bind fun r1 =>
  some (r1.1, (Tlex_reader.mk units (IntKind.i64.wrap (place + (1 : Int))) whole fault))
def lex_reader_set.k2 (l1 : List TRange) (place1 : Int) (r3 : (Int × Tlex_reader)) (High : Int) (units2 : List TUnit) (place2 : Int) (whole2 : Int) (fault2 : Int) : Option (Step ((List TRange × List TUnit × Int × Int × Int)) ((List TRange × Tlex_reader))) :=
  if (fault2 != (0 : Int)) then
    some (Step.done (([] : List TRange), (Tlex_reader.mk units2 place2 whole2 fault2)))
  else
    if ((decide (r3.1 > High)) || (decide (High > (1114111 : Int)))) then
      some (Step.done (([] : List TRange), (Tlex_reader.mk units2 place1 whole2 (1 : Int))))
    else
      (room 16 (l1.length + 1)).bind fun _ =>
      some (Step.next ((l1 ++ ([(TRange.mk r3.1 High)])), units2, place2, whole2, fault2))
def lex_reader_set.b1 : (List TRange × List TUnit × Int × Int × Int) → Option (Step ((List TRange × List TUnit × Int × Int × Int)) ((List TRange × Tlex_reader)))
  | (l1, units1, place1, whole1, fault1) =>
    (lex_reader_now (Tlex_reader.mk units1 place1 whole1 fault1)).bind fun r2 =>
    if (r2 != (93 : Int)) then
      (lex_reader_letter (Tlex_reader.mk units1 place1 whole1 fault1)).bind fun r3 =>
      ((lex_reader_now r3.2).bind fun r4 =>
        if (r4 == (45 : Int)) then
          some (r3.2.fault == (0 : Int))
        else
          some false).bind fun v =>
      if v then
        (lex_reader_letter (Tlex_reader.mk r3.2.units (IntKind.i64.wrap (r3.2.place + (1 : Int))) r3.2.whole r3.2.fault)).bind fun r5 =>
        lex_reader_set.k2 l1 place1 r3 r5.1 r5.2.units r5.2.place r5.2.whole r5.2.fault
      else
        lex_reader_set.k2 l1 place1 r3 r3.1 r3.2.units r3.2.place r3.2.whole r3.2.fault
    else
      (lex_reader_set.k1 l1 units1 place1 whole1 fault1).map Step.done
def lex_reader_set (r : Tlex_reader) : Option ((List TRange × Tlex_reader)) :=
  Loop lex_reader_set.b1 ([], r.units, r.place, r.whole, r.fault)
def lex_goes (r : Int) : Option Bool :=
  ((lex_lower r).bind fun r1 =>
    if r1 then
      some true
    else
      if (decide (r ≥ (48 : Int))) then
        if (decide (r ≤ (57 : Int))) then
          some true
        else
          some (r == (95 : Int))
      else
        some (r == (95 : Int))).bind fun v =>
  some v
def lex_reader_token.k1 (b : List UInt8) (r1 : Int) (Kind : Int) (units : List TUnit) (place : Int) (whole : Int) (fault : Int) : Option ((TToken × Tlex_reader)) :=
  (lex_reader_at (Tlex_reader.mk units place whole fault)).bind fun r3 =>
  (cut b r1 r3).bind fun _ =>
  some ((TToken.mk Kind r1 (List.drop (Int.toNat r1) (List.take (Int.toNat r3) b)) []), (Tlex_reader.mk units place whole fault))
def lex_reader_token (r : Tlex_reader) (b : List UInt8) : Option ((TToken × Tlex_reader)) :=
  (lex_reader_at r).bind fun r1 =>
  (lex_reader_take r (lex_reader_token_1)).bind fun r2 =>
  if (r2.1 == (91 : Int)) then
    (lex_reader_set r2.2).bind fun r4 =>
    some ((TToken.mk (3 : Int) r1 ([] : Str) r4.1), r4.2)
  else
    (lex_lower r2.1).bind fun r5 =>
    if r5 then
      (lex_reader_skip r2.2 (lex_goes)).bind fun r6 =>
      lex_reader_token.k1 b r1 (1 : Int) r6.units r6.place r6.whole r6.fault
    else
      lex_reader_token.k1 b r1 (2 : Int) r2.2.units r2.2.place r2.2.whole r2.2.fault
def lex_Tokens.k1 (b : List UInt8) (out : List TToken) : Option ((List TToken × Int × Int)) :=
  (room 56 (out.length + 1)).bind fun _ =>
  some ((out ++ ([(TToken.mk (4 : Int) (b.length : Int) ([] : Str) [])])), (0 : Int), (0 : Int))
def lex_Tokens.b1 (b : List UInt8) : (List TToken × List TUnit × Int × Int × Int) → Option (Step ((List TToken × List TUnit × Int × Int × Int)) ((List TToken × Int × Int)))
  | (out1, units, place, whole, fault) =>
    (lex_reader_now (Tlex_reader.mk units place whole fault)).bind fun r2 =>
    if (r2 != (-1 : Int)) then
      (lex_reader_token (Tlex_reader.mk units place whole fault) b).bind fun r3 =>
      (room 56 (out1.length + 1)).bind fun _ =>
      if (r3.2.fault != (0 : Int)) then
        (lex_reader_at r3.2).bind fun r4 =>
        some (Step.done (([] : List TToken), r4, r3.2.fault))
      else
        (lex_reader_blank r3.2).bind fun r5 =>
        some (Step.next ((out1 ++ ([r3.1])), r5.units, r5.place, r5.whole, r5.fault))
    else
      (lex_Tokens.k1 b out1).map Step.done
def lex_Tokens (b : List UInt8) : Option ((List TToken × Int × Int)) :=
  if (decide ((b.length : Int) > (65536 : Int))) then
    some (([] : List TToken), (0 : Int), (3 : Int))
  else
    (utf_Decode b).bind fun r =>
    (lex_reader_blank (Tlex_reader.mk r (0 : Int) (b.length : Int) (0 : Int))).bind fun r1 =>
    Loop (lex_Tokens.b1 b) ([], r1.units, r1.place, r1.whole, r1.fault)
def scansionlaw07_awake : Option Bool :=
  (lex_Tokens ([(u8 (115 : Int)), (u8 (101 : Int)), (u8 (116 : Int)), (u8 (32 : Int)), (u8 (97 : Int)), (u8 (32 : Int)), (u8 (61 : Int)), (u8 (32 : Int)), (u8 (91 : Int)), (u8 (97 : Int)), (u8 (45 : Int)), (u8 (99 : Int)), (u8 (93 : Int)), (u8 (59 : Int))])).bind fun r =>
  (if (r.2.2 == (0 : Int)) then
      if ((r.1.length : Int) == (6 : Int)) then
        (r.1[3]?).bind fun x =>
        if (x.Kind == (3 : Int)) then
          if ((x.Set.length : Int) == (1 : Int)) then
            (r.1[5]?).bind fun x1 =>
            some (x1.At == (14 : Int))
          else
            some false
        else
          some false
      else
        some false
    else
      some false).bind fun v =>
  some v
def scansionref02_Same.k1 : Option Bool :=
  some true
def scansionref02_Same.b1 (a_ : List TRange) (b : List TRange) : Int → Option (Step Int Bool)
  | i =>
    if (decide (i < (a_.length : Int))) then
      (idx a_ i).bind fun x =>
      (idx b i).bind fun x1 =>
      if (!(x.Low == x1.Low && (x.High == x1.High && true))) then
        some (Step.done false)
      else
        some (Step.next (IntKind.i64.wrap (i + (1 : Int))))
    else
      (scansionref02_Same.k1).map Step.done
def scansionref02_Same (a_ : List TRange) (b : List TRange) : Option Bool :=
  if ((a_.length : Int) != (b.length : Int)) then
    some false
  else
    Loop (scansionref02_Same.b1 a_ b) (0 : Int)
def scansionlaw07_LexBlanks.k2 : Option Bool :=
  some true
def scansionlaw07_LexBlanks.b1 (r1 : (List TToken × Int × Int)) (r2 : (List TToken × Int × Int)) : Int → Option (Step Int Bool)
  | v3 =>
    if (decide (v3 < (r1.1.length : Int))) then
      (idx r2.1 v3).bind fun x =>
      (idx r1.1 v3).bind fun x1 =>
      (scansionref02_Same x.Set x1.Set).bind fun r3 =>
      (if (x.Kind != x1.Kind) then
          some true
        else
          if (!(x.Text == x1.Text)) then
            some true
          else
            if (!r3) then
              some true
            else
              if (decide (v3 > (0 : Int))) then
                (idx r2.1 (IntKind.i64.wrap (v3 - (1 : Int)))).bind fun x2 =>
                some (decide (x.At ≤ x2.At))
              else
                some false).bind fun v4 =>
      if v4 then
        some (Step.done false)
      else
        some (Step.next (IntKind.i64.wrap (v3 + (1 : Int))))
    else
      (scansionlaw07_LexBlanks.k2).map Step.done
def scansionlaw07_LexBlanks.k1 (r1 : (List TToken × Int × Int)) (v1 : List UInt8) : Option Bool :=
  (lex_Tokens v1).bind fun r2 =>
  if ((r2.2.2 != (0 : Int)) || ((r2.1.length : Int) != (r1.1.length : Int))) then
    some false
  else
    Loop (scansionlaw07_LexBlanks.b1 r1 r2) (0 : Int)
def scansionlaw07_LexBlanks.k3 (v6 : Int) (v7 : List UInt8) : Option (Step ((List UInt8 × Int)) Bool) :=
  some (Step.next (v7, (IntKind.i64.wrap (v6 + (1 : Int)))))
def scansionlaw07_LexBlanks.k4 (t : List UInt8) (r1 : (List TToken × Int × Int)) (v6 : Int) (v8 : List UInt8) : Option (Step ((List UInt8 × Int)) Bool) :=
  (room 1 (v8.length + 1)).bind fun _ =>
  if (decide ((IntKind.i64.wrap (v6 + (1 : Int))) < (r1.1.length : Int))) then
    (idx r1.1 v6).bind fun x3 =>
    (idx r1.1 (IntKind.i64.wrap (v6 + (1 : Int)))).bind fun x4 =>
    (cut t x3.At x4.At).bind fun _ =>
    (room 1 (v8.length + 1 + (List.drop (Int.toNat x3.At) (List.take (Int.toNat x4.At) t)).length)).bind fun _ =>
    (room 1 (v8.length + ((List.drop (Int.toNat x3.At) (List.take (Int.toNat x4.At) t)).length + 1) + 1)).bind fun _ =>
    scansionlaw07_LexBlanks.k3 v6 (((v8 ++ ([(u8 (32 : Int))])) ++ (List.drop (Int.toNat x3.At) (List.take (Int.toNat x4.At) t))) ++ ([(u8 (10 : Int))]))
  else
    scansionlaw07_LexBlanks.k3 v6 (v8 ++ ([(u8 (32 : Int))]))
def scansionlaw07_LexBlanks.k5 (t : List UInt8) (r1 : (List TToken × Int × Int)) (v6 : Int) (v9 : List UInt8) : Option (Step ((List UInt8 × Int)) Bool) :=
  (room 1 (v9.length + 5)).bind fun _ =>
  scansionlaw07_LexBlanks.k4 t r1 v6 (v9 ++ ([35, 91, 32, 97, 10] : Str))
def scansionlaw07_LexBlanks.b3 (t : List UInt8) (r1 : (List TToken × Int × Int)) (v6 : Int) (xs : List UInt8) : (List UInt8 × Int) → Option (Step ((List UInt8 × Int)) (Step ((List UInt8 × Int)) Bool))
  | (v10, v11) =>
    if (decide (v11 < (xs.length : Int))) then
      (idx xs v11).bind fun n =>
      (some (bAnd .u8 (n.toNat : Int) (3 : Int))).bind fun z =>
      (idx ([32, 9, 10, 13] : Str) z).bind fun c =>
      (room 1 (v10.length + 1)).bind fun _ =>
      some (Step.next ((v10 ++ ([c])), (IntKind.i64.wrap (v11 + (1 : Int)))))
    else
      (scansionlaw07_LexBlanks.k5 t r1 v6 v10).map Step.done
def scansionlaw07_LexBlanks.b2 (t : List UInt8) (o : List (List UInt8)) (r1 : (List TToken × Int × Int)) : (List UInt8 × Int) → Option (Step ((List UInt8 × Int)) Bool)
  | (v5, v6) =>
    if (decide (v6 < (r1.1.length : Int))) then
      if (decide (v6 < (o.length : Int))) then
        (idx o v6).bind fun xs =>
        if (decide ((xs.length : Int) > (50 : Int))) then
          some (Step.done true)
        else
          Loop (scansionlaw07_LexBlanks.b3 t r1 v6 xs) (v5, (0 : Int))
      else
        scansionlaw07_LexBlanks.k4 t r1 v6 v5
    else
      (scansionlaw07_LexBlanks.k1 r1 v5).map Step.done
def scansionlaw07_LexBlanks (t : List UInt8) (o : List (List UInt8)) : Option Bool :=
  scansionlaw07_awake.bind fun r =>
  if ((!r) || ((decide ((t.length : Int) > (500 : Int))) || (decide ((o.length : Int) > (100 : Int))))) then
    some r
  else
    (lex_Tokens t).bind fun r1 =>
    if (r1.2.2 != (0 : Int)) then
      some true
    else
      Loop (scansionlaw07_LexBlanks.b2 t o r1) ([], (0 : Int))
end
end Go.Val

/- part IW42 -/
/- utf_Decode is told by hand. -/
namespace Go.Val
theorem utf_Decode_runs (b : List UInt8) {h : Heap} {u : List TUnit} (e : utf_Decode b = some u) :
    Runs CT 42 [.cv (.val (.sl (List.map eU b)))] h fun o h' => o = [.cv (.val (.sl (List.map eUnit u)))] ∧ h' = h :=
  Runs.hand (C := CT) (show handL 42 _ h _ h from ⟨rfl, .inl ⟨rfl, b, u, rfl, e, rfl⟩⟩) ⟨rfl, rfl⟩
end Go.Val

/- part IW44 -/
/- (*scansion/lex.reader).now runs as it is read off. -/
namespace Go.Val
set_option linter.unusedVariables false
set_option linter.unusedSimpArgs false
set_option maxRecDepth 20000
open Go.Proofs
theorem lex_reader_now_runs (r : Tlex_reader) (l0 : Nat) {h : Heap} (ha0 : h.at_ l0 = some (.cells [.val (.sl (List.map eUnit r.units)), .val (.int .i64 r.place), .val (.int .i64 r.whole), .val (.int .i64 r.fault)])) {a : Int} (e : lex_reader_now r = some a) :
    Runs CT 44 [.cv (.val (.ptr (some (l0, 0))))] h fun o h' => o = [.cv (.val (.int .i64 a))] ∧ h' = h := by
  refine Runs.start Try.f44 _ Try.func44 rfl (by rw [Try.ntmps44]; simp) (by rfl) (by rfl) (fun hwf hu => ?_)
  have hl0 := (hwf _ _ ha0).1
  have kl0 := locF hl0
  obtain ⟨D, hD, hr⟩ : ∃ D : Int → Prop, (∀ z, D z → z = a) ∧ Holds (lex_reader_now r) D := ⟨fun z => z = a, fun _ h => h, Holds.intro e rfl⟩
  dsimp only [lex_reader_now] at hr
  change wpCode _ _ _ _ _ ⟨[(0, .cv (.val (.ptr (some (l0, 0)))))], h.on []⟩
  refine w_seq ?_
  refine A_region ?_
  refine w_n ?_
  refine w_seq ?_
  refine w_block ?_
  refine w_seq ?_
  refine w_drawn [0, 1, 2, 3, 4, 5, 6, 7, 8, 9, 10] (by rfl) ?_
  refine p_run (l := [0, 1, 2, 3, 4, 5, 6, 7, 8, 9]) (pend' := [9, 8, 7, 6, 5, 4, 3, 2, 1, 0]) (by simp (disch := (apply Apart.mk; decide)) only [go_sem, Nat.reduceAdd, Nat.reduceLT, Nat.reduceMul, Nat.reduceLeDiff, Int.reduceToNat, Int.reduceLT, Int.reduceLE, ha0, on_atB hl0, lt_add hl0, lt_at hl0]; rfl) rfl ?_
  refine p_op (pend' := []) rfl (by simp (disch := (apply Apart.mk; decide)) only [go_sem, Nat.reduceAdd, Nat.reduceLT, Nat.reduceMul, Nat.reduceLeDiff, Int.reduceToNat, Int.reduceLT, Int.reduceLE, ha0, on_atB hl0, lt_add hl0, lt_at hl0]) (by simp (disch := (apply Apart.mk; decide)) only [go_sem, Nat.reduceAdd, Nat.reduceLT, Nat.reduceMul, Nat.reduceLeDiff, Int.reduceToNat, Int.reduceLT, Int.reduceLE, ha0, on_atB hl0, lt_add hl0, lt_at hl0]; rfl) (by rfl) ?_
  refine p_end (by simp (disch := (apply Apart.mk; decide)) only [go_sem, Nat.reduceAdd, Nat.reduceLT, Nat.reduceMul, Nat.reduceLeDiff, Int.reduceToNat, Int.reduceLT, Int.reduceLE, ha0, on_atB hl0, lt_add hl0, lt_at hl0]) ?_
  refine w_n ?_
  refine A_condH hr (fun cF1 hr => ?_) (fun cF1 hr => ?_)
  · refine w_seq ?_
    refine A_region ?_
    refine w_n ?_
    refine w_ret ?_
    obtain rfl := hD _ hr
    exact (w_br (w_tr (A_endR (A_cut (os' := []) (sl := [(2, .cv (.val (.int .i64 (-1 : Int))))]) hwf) ⟨rfl, on_nil hwf⟩)))
  · refine w_seq ?_
    refine w_drawn [0, 1, 2, 3, 4, 5, 6, 7, 8, 9, 10, 11] (by rfl) ?_
    obtain ⟨x, nF2, eF3, gF4, hr⟩ := hr.idx
    refine p_run (l := [0, 1, 2, 3, 4, 5, 6, 7, 8, 9, 10]) (pend' := [10, 9, 8, 7, 6, 5, 4, 3, 2, 1, 0]) (by simp (disch := (apply Apart.mk; decide)) only [go_sem, Nat.reduceAdd, Nat.reduceLT, Nat.reduceMul, Nat.reduceLeDiff, Int.reduceToNat, Int.reduceLT, Int.reduceLE, ha0, on_atB hl0, lt_add hl0, lt_at hl0, nF2, eF3, gF4]; rfl) rfl ?_
    refine p_op (pend' := []) rfl (by simp (disch := (apply Apart.mk; decide)) only [go_sem, Nat.reduceAdd, Nat.reduceLT, Nat.reduceMul, Nat.reduceLeDiff, Int.reduceToNat, Int.reduceLT, Int.reduceLE, ha0, on_atB hl0, lt_add hl0, lt_at hl0, nF2, eF3, gF4]) (by simp (disch := (apply Apart.mk; decide)) only [go_sem, Nat.reduceAdd, Nat.reduceLT, Nat.reduceMul, Nat.reduceLeDiff, Int.reduceToNat, Int.reduceLT, Int.reduceLE, ha0, on_atB hl0, lt_add hl0, lt_at hl0, nF2, eF3, gF4]; rfl) (by rfl) ?_
    refine p_end (by simp (disch := (apply Apart.mk; decide)) only [go_sem, Nat.reduceAdd, Nat.reduceLT, Nat.reduceMul, Nat.reduceLeDiff, Int.reduceToNat, Int.reduceLT, Int.reduceLE, ha0, on_atB hl0, lt_add hl0, lt_at hl0, nF2, eF3, gF4]) ?_
    refine w_n ?_
    refine A_condH hr (fun cF5 hr => ?_) (fun cF5 hr => ?_)
    · refine w_seq ?_
      refine A_region ?_
      refine w_n ?_
      refine w_ret ?_
      obtain rfl := hD _ hr
      exact (w_br (w_tr (A_endR (A_cut (os' := []) (sl := [(2, .cv (.val (.int .i64 (-2 : Int))))]) hwf) ⟨rfl, on_nil hwf⟩)))
    · refine w_skip ?_
      refine (w_bn (w_n ?_))
      refine w_seq ?_
      refine w_drawn [0, 1, 2, 3, 4, 5, 6, 7, 8, 9, 10, 11] (by rfl) ?_
      refine p_run (l := [0, 1, 2, 3, 4, 5, 6, 7, 8, 9, 10]) (pend' := [10, 9, 8, 7, 6, 5, 4, 3, 2, 1, 0]) (by simp (disch := (apply Apart.mk; decide)) only [go_sem, Nat.reduceAdd, Nat.reduceLT, Nat.reduceMul, Nat.reduceLeDiff, Int.reduceToNat, Int.reduceLT, Int.reduceLE, ha0, on_atB hl0, lt_add hl0, lt_at hl0, nF2, eF3, gF4]; rfl) rfl ?_
      refine p_op (pend' := []) rfl (by simp (disch := (apply Apart.mk; decide)) only [go_sem, Nat.reduceAdd, Nat.reduceLT, Nat.reduceMul, Nat.reduceLeDiff, Int.reduceToNat, Int.reduceLT, Int.reduceLE, ha0, on_atB hl0, lt_add hl0, lt_at hl0, nF2, eF3, gF4]) (by simp (disch := (apply Apart.mk; decide)) only [go_sem, Nat.reduceAdd, Nat.reduceLT, Nat.reduceMul, Nat.reduceLeDiff, Int.reduceToNat, Int.reduceLT, Int.reduceLE, ha0, on_atB hl0, lt_add hl0, lt_at hl0, nF2, eF3, gF4]; rfl) (by rfl) ?_
      refine p_end (by simp (disch := (apply Apart.mk; decide)) only [go_sem, Nat.reduceAdd, Nat.reduceLT, Nat.reduceMul, Nat.reduceLeDiff, Int.reduceToNat, Int.reduceLT, Int.reduceLE, ha0, on_atB hl0, lt_add hl0, lt_at hl0, nF2, eF3, gF4]) ?_
      refine w_n ?_
      refine w_ret ?_
      obtain rfl := hD _ hr
      exact (A_endR (A_cut (os' := []) (sl := [(2, .cv (.val (.int .i64 x.Rune)))]) hwf) ⟨rfl, on_nil hwf⟩)
end Go.Val

/- part IW78 -/
/- (*scansion/lex.reader).skip runs as it is read off. -/
namespace Go.Val
set_option linter.unusedVariables false
set_option linter.unusedSimpArgs false
set_option maxRecDepth 20000
open Go.Proofs
theorem lex_reader_skip_runs (r : Tlex_reader) (is : Int → Option Bool) (l0 : Nat) (fid_is : FuncId) (caps_is : List DVal) {h : Heap} (h_is : ∀ (g : Heap) x0 r, is x0 = some r → Runs CT fid_is ([.cv (.val (.int .i64 x0))] ++ sval caps_is) g fun o h' => o = [.cv (.val (.bool r))] ∧ h' = g) (d_is : ∀ i, CT.how fid_is i = .data) (ha0 : h.at_ l0 = some (.cells [.val (.sl (List.map eUnit r.units)), .val (.int .i64 r.place), .val (.int .i64 r.whole), .val (.int .i64 r.fault)])) {a : Tlex_reader} (e : lex_reader_skip r is = some a) :
    Runs CT 78 [.cv (.val (.ptr (some (l0, 0)))), .cv (.val (.fn fid_is [] caps_is))] h fun o h' => o = [] ∧ h' = (h.upd l0 (.cells [.val (.sl (List.map eUnit a.units)), .val (.int .i64 a.place), .val (.int .i64 a.whole), .val (.int .i64 a.fault)])) := by
  refine Runs.start Try.f78 _ Try.func78 rfl (by rw [Try.ntmps78]; simp) (by rfl) (by rfl) (fun hwf hu => ?_)
  have u_is : underL h.n caps_is := (hu (.cv (.val (.fn fid_is [] caps_is))) (by simp)).2
  have vu_is := fun k => under_add (k := k) u_is
  have hl0 := (hwf _ _ ha0).1
  have kl0 := locF hl0
  obtain ⟨D, hD, hr⟩ : ∃ D : Tlex_reader → Prop, (∀ z, D z → z = a) ∧ Holds (lex_reader_skip r is) D := ⟨fun z => z = a, fun _ h => h, Holds.intro e rfl⟩
  dsimp only [lex_reader_skip] at hr
  change wpCode _ _ _ _ _ ⟨[(0, .cv (.val (.ptr (some (l0, 0))))), (1, .cv (.val (.fn fid_is [] caps_is)))], h.on []⟩
  refine w_K (D := D) (fun xX : Int => ⟨[], (h.upd l0 (.cells [.val (.sl (List.map eUnit r.units)), .val (.int .i64 xX), .val (.int .i64 r.whole), .val (.int .i64 r.fault)])).on []⟩) (fun xX : Int => lex_reader_skip.k1 r xX) (fun xX s' hr ht => ?_) ?_
  · obtain ⟨place, rfl⟩ : ∃ z, z = xX := ⟨xX, rfl⟩
    dsimp only [lex_reader_skip.k1] at hr ht
    obtain rfl := hD _ hr
    exact (w_endN (To.trans ht (To.cut (os' := []) (sl := []) (h := (h.upd l0 (.cells [.val (.sl (List.map eUnit r.units)), .val (.int .i64 place), .val (.int .i64 r.whole), .val (.int .i64 r.fault)]))) (WF.upd hwf hl0 (by simp (disch := (apply Apart.mk; decide)) only [go_sem, Nat.reduceAdd, Nat.reduceLT, Nat.reduceMul, Nat.reduceLeDiff, Int.reduceToNat, Int.reduceLT, Int.reduceLE, ha0, on_atB hl0, lt_add hl0, lt_at hl0, on_updB hl0, on_atU hl0, on_updU hl0, upd_same ha0, under_add u_is, d_is])) (Nat.le_refl _) (by first | rfl | (simp (disch := (apply Apart.mk; decide)) only [go_sem, Nat.reduceAdd, Nat.reduceLT, Nat.reduceMul, Nat.reduceLeDiff, Int.reduceToNat, Int.reduceLT, Int.reduceLE, ha0, on_atB hl0, lt_add hl0, lt_at hl0, on_updB hl0, on_atU hl0, on_updU hl0, upd_same ha0, under_add u_is, d_is]; rfl)) (by simp (disch := (apply Apart.mk; decide)) only [go_sem, Nat.reduceAdd, Nat.reduceLT, Nat.reduceMul, Nat.reduceLeDiff, Int.reduceToNat, Int.reduceLT, Int.reduceLE, ha0, on_atB hl0, lt_add hl0, lt_at hl0, on_updB hl0, on_atU hl0, on_updU hl0, upd_same ha0, under_add u_is, d_is]))) (by simp (disch := (apply Apart.mk; decide)) only [go_sem, Nat.reduceAdd, Nat.reduceLT, Nat.reduceMul, Nat.reduceLeDiff, Int.reduceToNat, Int.reduceLT, Int.reduceLE, ha0, on_atB hl0, lt_add hl0, lt_at hl0, on_updB hl0, on_atU hl0, on_updU hl0, upd_same ha0, under_add u_is, d_is, Try.results78, results_data CT_gives78, resCell, resVal.eq_2, loadOp_sv]) ⟨rfl, on_nil (h := (h.upd l0 (.cells [.val (.sl (List.map eUnit r.units)), .val (.int .i64 place), .val (.int .i64 r.whole), .val (.int .i64 r.fault)]))) (WF.upd hwf hl0 (by simp (disch := (apply Apart.mk; decide)) only [go_sem, Nat.reduceAdd, Nat.reduceLT, Nat.reduceMul, Nat.reduceLeDiff, Int.reduceToNat, Int.reduceLT, Int.reduceLE, ha0, on_atB hl0, lt_add hl0, lt_at hl0, on_updB hl0, on_atU hl0, on_updU hl0, upd_same ha0, under_add u_is, d_is]))⟩)
  · refine w_block ?_
    refine w_Loop (fun xX : Int => ⟨[(0, .cv (.val (.ptr (some (l0, 0))))), (1, .cv (.val (.fn fid_is [] caps_is)))], (h.upd l0 (.cells [.val (.sl (List.map eUnit r.units)), .val (.int .i64 xX), .val (.int .i64 r.whole), .val (.int .i64 r.fault)])).on []⟩) hr (To.cut (h := (h.upd l0 (.cells [.val (.sl (List.map eUnit r.units)), .val (.int .i64 r.place), .val (.int .i64 r.whole), .val (.int .i64 r.fault)]))) (WF.upd hwf hl0 (by simp (disch := (apply Apart.mk; decide)) only [go_sem, Nat.reduceAdd, Nat.reduceLT, Nat.reduceMul, Nat.reduceLeDiff, Int.reduceToNat, Int.reduceLT, Int.reduceLE, ha0, on_atB hl0, lt_add hl0, lt_at hl0, on_updB hl0, on_atU hl0, on_updU hl0, upd_same ha0, under_add u_is, d_is])) (Nat.le_refl _) (by first | rfl | (simp (disch := (apply Apart.mk; decide)) only [go_sem, Nat.reduceAdd, Nat.reduceLT, Nat.reduceMul, Nat.reduceLeDiff, Int.reduceToNat, Int.reduceLT, Int.reduceLE, ha0, on_atB hl0, lt_add hl0, lt_at hl0, on_updB hl0, on_atU hl0, on_updU hl0, upd_same ha0, under_add u_is, d_is]; rfl)) (by simp (disch := (apply Apart.mk; decide)) only [go_sem, Nat.reduceAdd, Nat.reduceLT, Nat.reduceMul, Nat.reduceLeDiff, Int.reduceToNat, Int.reduceLT, Int.reduceLE, ha0, on_atB hl0, lt_add hl0, lt_at hl0, on_updB hl0, on_atU hl0, on_updU hl0, upd_same ha0, under_add u_is, d_is])) (fun W1 xX hr => ?_)
    obtain ⟨place1, rfl⟩ : ∃ z, z = xX := ⟨xX, rfl⟩
    dsimp only [lex_reader_skip.b1] at hr
    refine w_seq ?_
    refine w_seq ?_
    refine A_ops ?_
    refine w_upto 2 rfl (by simp (disch := (apply Apart.mk; decide)) only [go_sem, Nat.reduceAdd, Nat.reduceLT, Nat.reduceMul, Nat.reduceLeDiff, Int.reduceToNat, Int.reduceLT, Int.reduceLE, ha0, on_atB hl0, lt_add hl0, lt_at hl0, on_updB hl0, on_atU hl0, on_updU hl0, upd_same ha0, under_add u_is, d_is]; rfl) ?_
    obtain ⟨r1, eF1, hr⟩ := hr.bind
    refine w_call' (out := ?o_eF1) (hp := ?p_eF1) rfl (by simp (disch := (apply Apart.mk; decide)) only [go_sem, Nat.reduceAdd, Nat.reduceLT, Nat.reduceMul, Nat.reduceLeDiff, Int.reduceToNat, Int.reduceLT, Int.reduceLE, ha0, on_atB hl0, lt_add hl0, lt_at hl0, on_updB hl0, on_atU hl0, on_updU hl0, upd_same ha0, under_add u_is, d_is, Option.getD_some]; rfl) (by simp (disch := (apply Apart.mk; decide)) only [go_sem, Nat.reduceAdd, Nat.reduceLT, Nat.reduceMul, Nat.reduceLeDiff, Int.reduceToNat, Int.reduceLT, Int.reduceLE, ha0, on_atB hl0, lt_add hl0, lt_at hl0, on_updB hl0, on_atU hl0, on_updU hl0, upd_same ha0, under_add u_is, d_is, Option.getD_some]; rfl) (by simp (disch := (apply Apart.mk; decide)) only [go_sem, Nat.reduceAdd, Nat.reduceLT, Nat.reduceMul, Nat.reduceLeDiff, Int.reduceToNat, Int.reduceLT, Int.reduceLE, ha0, on_atB hl0, lt_add hl0, lt_at hl0, on_updB hl0, on_atU hl0, on_updU hl0, upd_same ha0, under_add u_is, d_is, Option.getD_some]; rfl) ?c_eF1 ?d_eF1 ?_
    case c_eF1 => (refine lex_reader_now_runs (Tlex_reader.mk r.units place1 r.whole r.fault) (l0) ?_ eF1; (simp (disch := (apply Apart.mk; decide)) only [go_sem, Nat.reduceAdd, Nat.reduceLT, Nat.reduceMul, Nat.reduceLeDiff, Int.reduceToNat, Int.reduceLT, Int.reduceLE, ha0, on_atB hl0, lt_add hl0, lt_at hl0, on_updB hl0, on_atU hl0, on_updU hl0, upd_same ha0, under_add u_is, d_is]))
    case d_eF1 => rfl
    obtain ⟨r2, eF2, hr⟩ := hr.bind
    refine w_call' (out := ?o_eF2) (hp := ?p_eF2) rfl (by simp (disch := (apply Apart.mk; decide)) only [go_sem, Nat.reduceAdd, Nat.reduceLT, Nat.reduceMul, Nat.reduceLeDiff, Int.reduceToNat, Int.reduceLT, Int.reduceLE, ha0, on_atB hl0, lt_add hl0, lt_at hl0, on_updB hl0, on_atU hl0, on_updU hl0, upd_same ha0, under_add u_is, d_is]; rfl) (by simp (disch := (apply Apart.mk; decide)) only [go_sem, Nat.reduceAdd, Nat.reduceLT, Nat.reduceMul, Nat.reduceLeDiff, Int.reduceToNat, Int.reduceLT, Int.reduceLE, ha0, on_atB hl0, lt_add hl0, lt_at hl0, on_updB hl0, on_atU hl0, on_updU hl0, upd_same ha0, under_add u_is, d_is]; rfl) (by simp (disch := (apply Apart.mk; decide)) only [go_sem, Nat.reduceAdd, Nat.reduceLT, Nat.reduceMul, Nat.reduceLeDiff, Int.reduceToNat, Int.reduceLT, Int.reduceLE, ha0, on_atB hl0, lt_add hl0, lt_at hl0, on_updB hl0, on_atU hl0, on_updU hl0, upd_same ha0, under_add u_is, d_is]; rfl) ?c_eF2 ?d_eF2 ?_
    case c_eF2 => exact h_is _ _ _ eF2
    case d_eF2 => rfl
    refine w_ops_nil ?_
    refine w_n ?_
    refine w_condH (by simp (disch := (apply Apart.mk; decide)) only [go_sem, Nat.reduceAdd, Nat.reduceLT, Nat.reduceMul, Nat.reduceLeDiff, Int.reduceToNat, Int.reduceLT, Int.reduceLE, ha0, on_atB hl0, lt_add hl0, lt_at hl0, on_updB hl0, on_atU hl0, on_updU hl0, upd_same ha0, under_add u_is, d_is]) hr (fun cF3 hr => ?_) (fun cF3 hr => ?_)
    · refine w_skip ?_
      refine w_n ?_
      refine w_block ?_
      refine w_region rfl (by simp (disch := (apply Apart.mk; decide)) only [go_sem, Nat.reduceAdd, Nat.reduceLT, Nat.reduceMul, Nat.reduceLeDiff, Int.reduceToNat, Int.reduceLT, Int.reduceLE, ha0, on_atB hl0, lt_add hl0, lt_at hl0, on_updB hl0, on_atU hl0, on_updU hl0, upd_same ha0, under_add u_is, d_is, cF3]; rfl) ?_
      exact (w_bn (w_k ⟨(IntKind.i64.wrap (place1 + (1 : Int))), hr, (To.cut (h := (h.upd l0 (.cells [.val (.sl (List.map eUnit r.units)), .val (.int .i64 (IntKind.i64.wrap (place1 + (1 : Int)))), .val (.int .i64 r.whole), .val (.int .i64 r.fault)]))) (WF.upd hwf hl0 (by simp (disch := (apply Apart.mk; decide)) only [go_sem, Nat.reduceAdd, Nat.reduceLT, Nat.reduceMul, Nat.reduceLeDiff, Int.reduceToNat, Int.reduceLT, Int.reduceLE, ha0, on_atB hl0, lt_add hl0, lt_at hl0, on_updB hl0, on_atU hl0, on_updU hl0, upd_same ha0, under_add u_is, d_is])) (Nat.le_refl _) (by first | rfl | (simp (disch := (apply Apart.mk; decide)) only [go_sem, Nat.reduceAdd, Nat.reduceLT, Nat.reduceMul, Nat.reduceLeDiff, Int.reduceToNat, Int.reduceLT, Int.reduceLE, ha0, on_atB hl0, lt_add hl0, lt_at hl0, on_updB hl0, on_atU hl0, on_updU hl0, upd_same ha0, under_add u_is, d_is, cF3]; rfl)) (by simp (disch := (apply Apart.mk; decide)) only [go_sem, Nat.reduceAdd, Nat.reduceLT, Nat.reduceMul, Nat.reduceLeDiff, Int.reduceToNat, Int.reduceLT, Int.reduceLE, ha0, on_atB hl0, lt_add hl0, lt_at hl0, on_updB hl0, on_atU hl0, on_updU hl0, upd_same ha0, under_add u_is, d_is, cF3]))⟩))
    · refine w_exit ?_
      exact (w_te (w_te (w_bx (w_k ⟨place1, (hr).map, (To.cut (h := (h.upd l0 (.cells [.val (.sl (List.map eUnit r.units)), .val (.int .i64 place1), .val (.int .i64 r.whole), .val (.int .i64 r.fault)]))) (WF.upd hwf hl0 (by simp (disch := (apply Apart.mk; decide)) only [go_sem, Nat.reduceAdd, Nat.reduceLT, Nat.reduceMul, Nat.reduceLeDiff, Int.reduceToNat, Int.reduceLT, Int.reduceLE, ha0, on_atB hl0, lt_add hl0, lt_at hl0, on_updB hl0, on_atU hl0, on_updU hl0, upd_same ha0, under_add u_is, d_is])) (Nat.le_refl _) (by first | rfl | (simp (disch := (apply Apart.mk; decide)) only [go_sem, Nat.reduceAdd, Nat.reduceLT, Nat.reduceMul, Nat.reduceLeDiff, Int.reduceToNat, Int.reduceLT, Int.reduceLE, ha0, on_atB hl0, lt_add hl0, lt_at hl0, on_updB hl0, on_atU hl0, on_updU hl0, upd_same ha0, under_add u_is, d_is, cF3]; rfl)) (by simp (disch := (apply Apart.mk; decide)) only [go_sem, Nat.reduceAdd, Nat.reduceLT, Nat.reduceMul, Nat.reduceLeDiff, Int.reduceToNat, Int.reduceLT, Int.reduceLE, ha0, on_atB hl0, lt_add hl0, lt_at hl0, on_updB hl0, on_atU hl0, on_updU hl0, upd_same ha0, under_add u_is, d_is, cF3]))⟩))))
end Go.Val

/- part IW80 -/
/- scansion/lex.one runs as it is read off. -/
namespace Go.Val
set_option linter.unusedVariables false
set_option linter.unusedSimpArgs false
set_option maxRecDepth 20000
open Go.Proofs
theorem lex_one_runs (of : Str) (r : Int) {h : Heap} {a : Bool} (e : lex_one of r = some a) :
    Runs CT 80 [.cv (.val (.str (bs of))), .cv (.val (.int .i64 r))] h fun o h' => o = [.cv (.val (.bool a))] ∧ h' = h := by
  refine Runs.start Try.f80 _ Try.func80 rfl (by rw [Try.ntmps80]; simp) (by rfl) (by rfl) (fun hwf hu => ?_)
  obtain ⟨D, hD, hr⟩ : ∃ D : Bool → Prop, (∀ z, D z → z = a) ∧ Holds (lex_one of r) D := ⟨fun z => z = a, fun _ h => h, Holds.intro e rfl⟩
  dsimp only [lex_one] at hr
  change wpCode _ _ _ _ _ ⟨[(0, .cv (.val (.str (bs of)))), (1, .cv (.val (.int .i64 r)))], h.on []⟩
  refine w_seq ?_
  refine A_region ?_
  refine w_n ?_
  refine w_seq ?_
  refine w_seq ?_
  refine A_region ?_
  refine w_n ?_
  refine w_K (D := D) (fun xX : Unit => ⟨[], h.on []⟩) (fun xX : Unit => lex_one.k1) (fun xX s' hr ht => ?_) ?_
  · dsimp only [lex_one.k1] at hr ht
    refine (w_nT ht ?_)
    refine w_seq ?_
    refine A_region ?_
    refine w_n ?_
    refine w_ret ?_
    obtain rfl := hD _ hr
    exact (A_endR (A_cut (os' := []) (sl := [(4, .cv (.val (.bool false)))]) hwf) ⟨rfl, on_nil hwf⟩)
  · refine w_block ?_
    refine w_Loop (fun xX : Int => ⟨[(0, .cv (.val (.str (bs of)))), (1, .cv (.val (.int .i64 r))), (7, .cv (.val (.int .i64 (of.length : Int)))), (8, .cv (.val (.int .i64 xX)))], h.on []⟩) hr (A_cut hwf) (fun W1 xX hr => ?_)
    obtain ⟨v, rfl⟩ : ∃ z, z = xX := ⟨xX, rfl⟩
    dsimp only [lex_one.b1] at hr
    refine w_seq ?_
    refine A_region ?_
    refine w_n ?_
    refine w_seq ?_
    refine A_condH hr (fun cF1 hr => ?_) (fun cF1 hr => ?_)
    · refine w_skip ?_
      refine w_n ?_
      refine w_seq ?_
      refine w_block ?_
      refine w_seq ?_
      refine A_region ?_
      refine w_n ?_
      refine w_seq ?_
      obtain ⟨c, nF2, eF3, gF4, hr⟩ := hr.idx
      refine A_region ?_
      refine w_n ?_
      refine A_condH hr (fun cF5 hr => ?_) (fun cF5 hr => ?_)
      · refine w_seq ?_
        refine A_region ?_
        refine w_n ?_
        refine w_ret ?_
        obtain rfl := hD _ hr
        exact (w_br (w_tr (w_tr (w_br (w_tr (w_tr (A_endR (A_cut (os' := []) (sl := [(4, .cv (.val (.bool true)))]) hwf) ⟨rfl, on_nil hwf⟩)))))))
      · refine w_skip ?_
        refine (w_bn (w_n ?_))
        refine A_region ?_
        exact (w_k ⟨(IntKind.i64.wrap (v + (1 : Int))), hr, (A_cut hwf)⟩)
    · refine w_exit ?_
      exact (w_te (w_te (w_bx (w_k ⟨(), (hr).map, (A_cut hwf)⟩))))
end Go.Val

/- part IW79 -/
/- (*scansion/lex.reader).blank$1 runs as it is read off. -/
namespace Go.Val
set_option linter.unusedVariables false
set_option linter.unusedSimpArgs false
set_option maxRecDepth 20000
open Go.Proofs
theorem lex_reader_blank_1_runs (n : Int) {h : Heap} {a : Bool} (e : lex_reader_blank_1 n = some a) :
    Runs CT 79 [.cv (.val (.int .i64 n))] h fun o h' => o = [.cv (.val (.bool a))] ∧ h' = h := by
  refine Runs.start Try.f79 _ Try.func79 rfl (by rw [Try.ntmps79]; simp) (by rfl) (by rfl) (fun hwf hu => ?_)
  obtain ⟨D, hD, hr⟩ : ∃ D : Bool → Prop, (∀ z, D z → z = a) ∧ Holds (lex_reader_blank_1 n) D := ⟨fun z => z = a, fun _ h => h, Holds.intro e rfl⟩
  dsimp only [lex_reader_blank_1] at hr
  change wpCode _ _ _ _ _ ⟨[(0, .cv (.val (.int .i64 n)))], h.on []⟩
  refine w_seq ?_
  refine A_region ?_
  refine w_n ?_
  refine w_seq ?_
  refine A_ops ?_
  refine A_upto 1 ?_
  obtain ⟨r, eF1, hr⟩ := hr.bind
  refine A_call (out := ?o_eF1) (hp := ?p_eF1) ?c_eF1 ?d_eF1 ?_
  case c_eF1 => exact lex_one_runs ([32, 9, 13, 10] : Str) n eF1
  case d_eF1 => rfl
  refine A_ops_end ?_
  refine w_n ?_
  refine w_ret ?_
  obtain rfl := hD _ hr
  exact (A_endR (A_cut (os' := []) (sl := [(2, .cv (.val (.bool r)))]) hwf) ⟨rfl, on_nil hwf⟩)
end Go.Val

/- part IW81 -/
/- (*scansion/lex.reader).blank$2 runs as it is read off. -/
namespace Go.Val
set_option linter.unusedVariables false
set_option linter.unusedSimpArgs false
set_option maxRecDepth 20000
open Go.Proofs
theorem lex_reader_blank_2_runs (n : Int) {h : Heap} {a : Bool} (e : lex_reader_blank_2 n = some a) :
    Runs CT 81 [.cv (.val (.int .i64 n))] h fun o h' => o = [.cv (.val (.bool a))] ∧ h' = h := by
  refine Runs.start Try.f81 _ Try.func81 rfl (by rw [Try.ntmps81]; simp) (by rfl) (by rfl) (fun hwf hu => ?_)
  obtain ⟨D, hD, hr⟩ : ∃ D : Bool → Prop, (∀ z, D z → z = a) ∧ Holds (lex_reader_blank_2 n) D := ⟨fun z => z = a, fun _ h => h, Holds.intro e rfl⟩
  dsimp only [lex_reader_blank_2] at hr
  change wpCode _ _ _ _ _ ⟨[(0, .cv (.val (.int .i64 n)))], h.on []⟩
  refine w_seq ?_
  refine A_region ?_
  refine w_n ?_
  refine w_joinR (sj := ⟨[(2, .cv (.val (.bool ((n != (10 : Int)) && ((n != (-1 : Int)) && (n != (-2 : Int)))))))], h.on []⟩) (A_ops ?_) ?_
  · refine A_upto 3 ?_
    rcases Bool.eq_false_or_eq_true (n != (10 : Int)) with cF1 | cF1
    · refine A_upto 4 ?_
      rcases Bool.eq_false_or_eq_true (n != (-1 : Int)) with cF2 | cF2
      · refine A_ops_end ?_
        exact w_k (A_cut hwf)
      · refine A_ops_end ?_
        exact w_k (A_cut hwf)
    · refine A_ops_end ?_
      exact w_k (A_cut hwf)
  refine w_ret ?_
  obtain rfl := hD _ hr
  exact (A_endR (A_cut (os' := []) (sl := [(2, .cv (.val (.bool ((n != (10 : Int)) && ((n != (-1 : Int)) && (n != (-2 : Int)))))))]) hwf) ⟨rfl, on_nil hwf⟩)
end Go.Val

/- part IW43 -/
/- (*scansion/lex.reader).blank runs as it is read off. -/
namespace Go.Val
set_option linter.unusedVariables false
set_option linter.unusedSimpArgs false
set_option maxRecDepth 20000
open Go.Proofs
theorem lex_reader_blank_runs (r : Tlex_reader) (l0 : Nat) {h : Heap} (ha0 : h.at_ l0 = some (.cells [.val (.sl (List.map eUnit r.units)), .val (.int .i64 r.place), .val (.int .i64 r.whole), .val (.int .i64 r.fault)])) {a : Tlex_reader} (e : lex_reader_blank r = some a) :
    Runs CT 43 [.cv (.val (.ptr (some (l0, 0))))] h fun o h' => o = [] ∧ h' = (h.upd l0 (.cells [.val (.sl (List.map eUnit a.units)), .val (.int .i64 a.place), .val (.int .i64 a.whole), .val (.int .i64 a.fault)])) := by
  refine Runs.start Try.f43 _ Try.func43 rfl (by rw [Try.ntmps43]; simp) (by rfl) (by rfl) (fun hwf hu => ?_)
  have hl0 := (hwf _ _ ha0).1
  have kl0 := locF hl0
  obtain ⟨D, hD, hr⟩ : ∃ D : Tlex_reader → Prop, (∀ z, D z → z = a) ∧ Holds (lex_reader_blank r) D := ⟨fun z => z = a, fun _ h => h, Holds.intro e rfl⟩
  dsimp only [lex_reader_blank] at hr
  change wpCode _ _ _ _ _ ⟨[(0, .cv (.val (.ptr (some (l0, 0)))))], h.on []⟩
  refine w_block ?_
  refine w_Loop (fun xX : (List TUnit × Int × Int × Int) => ⟨[(0, .cv (.val (.ptr (some (l0, 0)))))], (h.upd l0 (.cells [.val (.sl (List.map eUnit xX.1)), .val (.int .i64 xX.2.1), .val (.int .i64 xX.2.2.1), .val (.int .i64 xX.2.2.2)])).on []⟩) hr (To.cut (h := (h.upd l0 (.cells [.val (.sl (List.map eUnit r.units)), .val (.int .i64 r.place), .val (.int .i64 r.whole), .val (.int .i64 r.fault)]))) (WF.upd hwf hl0 (by simp (disch := (apply Apart.mk; decide)) only [go_sem, Nat.reduceAdd, Nat.reduceLT, Nat.reduceMul, Nat.reduceLeDiff, Int.reduceToNat, Int.reduceLT, Int.reduceLE, ha0, on_atB hl0, lt_add hl0, lt_at hl0, on_updB hl0, on_atU hl0, on_updU hl0, upd_same ha0])) (Nat.le_refl _) (by first | rfl | (simp (disch := (apply Apart.mk; decide)) only [go_sem, Nat.reduceAdd, Nat.reduceLT, Nat.reduceMul, Nat.reduceLeDiff, Int.reduceToNat, Int.reduceLT, Int.reduceLE, ha0, on_atB hl0, lt_add hl0, lt_at hl0, on_updB hl0, on_atU hl0, on_updU hl0, upd_same ha0]; rfl)) (by simp (disch := (apply Apart.mk; decide)) only [go_sem, Nat.reduceAdd, Nat.reduceLT, Nat.reduceMul, Nat.reduceLeDiff, Int.reduceToNat, Int.reduceLT, Int.reduceLE, ha0, on_atB hl0, lt_add hl0, lt_at hl0, on_updB hl0, on_atU hl0, on_updU hl0, upd_same ha0])) (fun W1 xX hr => ?_)
  obtain ⟨units, place, whole, fault⟩ := xX
  dsimp only [lex_reader_blank.b1] at hr
  refine w_block ?_
  refine w_seq ?_
  refine A_ops ?_
  refine w_upto 1 rfl (by simp (disch := (apply Apart.mk; decide)) only [go_sem, Nat.reduceAdd, Nat.reduceLT, Nat.reduceMul, Nat.reduceLeDiff, Int.reduceToNat, Int.reduceLT, Int.reduceLE, ha0, on_atB hl0, lt_add hl0, lt_at hl0, on_updB hl0, on_atU hl0, on_updU hl0, upd_same ha0]; rfl) ?_
  obtain ⟨r1, eF1, hr⟩ := hr.bind
  refine w_call' (out := ?o_eF1) (hp := ?p_eF1) rfl (by simp (disch := (apply Apart.mk; decide)) only [go_sem, Nat.reduceAdd, Nat.reduceLT, Nat.reduceMul, Nat.reduceLeDiff, Int.reduceToNat, Int.reduceLT, Int.reduceLE, ha0, on_atB hl0, lt_add hl0, lt_at hl0, on_updB hl0, on_atU hl0, on_updU hl0, upd_same ha0, Option.getD_some]; rfl) (by simp (disch := (apply Apart.mk; decide)) only [go_sem, Nat.reduceAdd, Nat.reduceLT, Nat.reduceMul, Nat.reduceLeDiff, Int.reduceToNat, Int.reduceLT, Int.reduceLE, ha0, on_atB hl0, lt_add hl0, lt_at hl0, on_updB hl0, on_atU hl0, on_updU hl0, upd_same ha0, Option.getD_some]; rfl) (by simp (disch := (apply Apart.mk; decide)) only [go_sem, Nat.reduceAdd, Nat.reduceLT, Nat.reduceMul, Nat.reduceLeDiff, Int.reduceToNat, Int.reduceLT, Int.reduceLE, ha0, on_atB hl0, lt_add hl0, lt_at hl0, on_updB hl0, on_atU hl0, on_updU hl0, upd_same ha0, Option.getD_some]; rfl) ?c_eF1 ?d_eF1 ?_
  case c_eF1 => (refine lex_reader_skip_runs (Tlex_reader.mk units place whole fault) (lex_reader_blank_1) (l0) _ _ ?_ ?_ ?_ eF1; (exact (fun os x0 r e => lex_reader_blank_1_runs x0 e)); (exact (fun i => by simp [CT])); (simp (disch := (apply Apart.mk; decide)) only [go_sem, Nat.reduceAdd, Nat.reduceLT, Nat.reduceMul, Nat.reduceLeDiff, Int.reduceToNat, Int.reduceLT, Int.reduceLE, ha0, on_atB hl0, lt_add hl0, lt_at hl0, on_updB hl0, on_atU hl0, on_updU hl0, upd_same ha0]))
  case d_eF1 => rfl
  refine w_ops_nil ?_
  refine w_n ?_
  refine w_seq ?_
  refine w_seq ?_
  refine A_ops ?_
  refine w_upto 1 rfl (by simp (disch := (apply Apart.mk; decide)) only [go_sem, Nat.reduceAdd, Nat.reduceLT, Nat.reduceMul, Nat.reduceLeDiff, Int.reduceToNat, Int.reduceLT, Int.reduceLE, ha0, on_atB hl0, lt_add hl0, lt_at hl0, on_updB hl0, on_atU hl0, on_updU hl0, upd_same ha0]; rfl) ?_
  obtain ⟨r2, eF2, hr⟩ := hr.bind
  refine w_call' (out := ?o_eF2) (hp := ?p_eF2) rfl (by simp (disch := (apply Apart.mk; decide)) only [go_sem, Nat.reduceAdd, Nat.reduceLT, Nat.reduceMul, Nat.reduceLeDiff, Int.reduceToNat, Int.reduceLT, Int.reduceLE, ha0, on_atB hl0, lt_add hl0, lt_at hl0, on_updB hl0, on_atU hl0, on_updU hl0, upd_same ha0, Option.getD_some]; rfl) (by simp (disch := (apply Apart.mk; decide)) only [go_sem, Nat.reduceAdd, Nat.reduceLT, Nat.reduceMul, Nat.reduceLeDiff, Int.reduceToNat, Int.reduceLT, Int.reduceLE, ha0, on_atB hl0, lt_add hl0, lt_at hl0, on_updB hl0, on_atU hl0, on_updU hl0, upd_same ha0, Option.getD_some]; rfl) (by simp (disch := (apply Apart.mk; decide)) only [go_sem, Nat.reduceAdd, Nat.reduceLT, Nat.reduceMul, Nat.reduceLeDiff, Int.reduceToNat, Int.reduceLT, Int.reduceLE, ha0, on_atB hl0, lt_add hl0, lt_at hl0, on_updB hl0, on_atU hl0, on_updU hl0, upd_same ha0, Option.getD_some]; rfl) ?c_eF2 ?d_eF2 ?_
  case c_eF2 => (refine lex_reader_now_runs r1 (l0) ?_ eF2; (simp (disch := (apply Apart.mk; decide)) only [go_sem, Nat.reduceAdd, Nat.reduceLT, Nat.reduceMul, Nat.reduceLeDiff, Int.reduceToNat, Int.reduceLT, Int.reduceLE, ha0, on_atB hl0, lt_add hl0, lt_at hl0, on_updB hl0, on_atU hl0, on_updU hl0, upd_same ha0]))
  case d_eF2 => rfl
  refine w_ops_end (by simp (disch := (apply Apart.mk; decide)) only [go_sem, Nat.reduceAdd, Nat.reduceLT, Nat.reduceMul, Nat.reduceLeDiff, Int.reduceToNat, Int.reduceLT, Int.reduceLE, ha0, on_atB hl0, lt_add hl0, lt_at hl0, on_updB hl0, on_atU hl0, on_updU hl0, upd_same ha0]; rfl) ?_
  refine w_n ?_
  refine w_condH (by simp (disch := (apply Apart.mk; decide)) only [go_sem, Nat.reduceAdd, Nat.reduceLT, Nat.reduceMul, Nat.reduceLeDiff, Int.reduceToNat, Int.reduceLT, Int.reduceLE, ha0, on_atB hl0, lt_add hl0, lt_at hl0, on_updB hl0, on_atU hl0, on_updU hl0, upd_same ha0]) hr (fun cF3 hr => ?_) (fun cF3 hr => ?_)
  · refine w_ret ?_
    obtain rfl := hD _ hr
    exact (w_tr (w_br (w_tr (w_br (w_endR (To.cut (os' := []) (sl := []) (h := (h.upd l0 (.cells [.val (.sl (List.map eUnit r1.units)), .val (.int .i64 r1.place), .val (.int .i64 r1.whole), .val (.int .i64 r1.fault)]))) (WF.upd hwf hl0 (by simp (disch := (apply Apart.mk; decide)) only [go_sem, Nat.reduceAdd, Nat.reduceLT, Nat.reduceMul, Nat.reduceLeDiff, Int.reduceToNat, Int.reduceLT, Int.reduceLE, ha0, on_atB hl0, lt_add hl0, lt_at hl0, on_updB hl0, on_atU hl0, on_updU hl0, upd_same ha0])) (Nat.le_refl _) (by first | rfl | (simp (disch := (apply Apart.mk; decide)) only [go_sem, Nat.reduceAdd, Nat.reduceLT, Nat.reduceMul, Nat.reduceLeDiff, Int.reduceToNat, Int.reduceLT, Int.reduceLE, ha0, on_atB hl0, lt_add hl0, lt_at hl0, on_updB hl0, on_atU hl0, on_updU hl0, upd_same ha0, cF3]; rfl)) (by simp (disch := (apply Apart.mk; decide)) only [go_sem, Nat.reduceAdd, Nat.reduceLT, Nat.reduceMul, Nat.reduceLeDiff, Int.reduceToNat, Int.reduceLT, Int.reduceLE, ha0, on_atB hl0, lt_add hl0, lt_at hl0, on_updB hl0, on_atU hl0, on_updU hl0, upd_same ha0, cF3])) (by simp (disch := (apply Apart.mk; decide)) only [go_sem, Nat.reduceAdd, Nat.reduceLT, Nat.reduceMul, Nat.reduceLeDiff, Int.reduceToNat, Int.reduceLT, Int.reduceLE, ha0, on_atB hl0, lt_add hl0, lt_at hl0, on_updB hl0, on_atU hl0, on_updU hl0, upd_same ha0, Try.results43, results_data CT_gives43, resCell, resVal.eq_2, loadOp_sv, cF3]) ⟨rfl, on_nil (h := (h.upd l0 (.cells [.val (.sl (List.map eUnit r1.units)), .val (.int .i64 r1.place), .val (.int .i64 r1.whole), .val (.int .i64 r1.fault)]))) (WF.upd hwf hl0 (by simp (disch := (apply Apart.mk; decide)) only [go_sem, Nat.reduceAdd, Nat.reduceLT, Nat.reduceMul, Nat.reduceLeDiff, Int.reduceToNat, Int.reduceLT, Int.reduceLE, ha0, on_atB hl0, lt_add hl0, lt_at hl0, on_updB hl0, on_atU hl0, on_updU hl0, upd_same ha0]))⟩)))))
  · refine w_skip ?_
    refine w_n ?_
    refine A_ops ?_
    refine w_upto 1 rfl (by simp (disch := (apply Apart.mk; decide)) only [go_sem, Nat.reduceAdd, Nat.reduceLT, Nat.reduceMul, Nat.reduceLeDiff, Int.reduceToNat, Int.reduceLT, Int.reduceLE, ha0, on_atB hl0, lt_add hl0, lt_at hl0, on_updB hl0, on_atU hl0, on_updU hl0, upd_same ha0]; rfl) ?_
    obtain ⟨r3, eF4, hr⟩ := hr.bind
    refine w_call' (out := ?o_eF4) (hp := ?p_eF4) rfl (by simp (disch := (apply Apart.mk; decide)) only [go_sem, Nat.reduceAdd, Nat.reduceLT, Nat.reduceMul, Nat.reduceLeDiff, Int.reduceToNat, Int.reduceLT, Int.reduceLE, ha0, on_atB hl0, lt_add hl0, lt_at hl0, on_updB hl0, on_atU hl0, on_updU hl0, upd_same ha0, Option.getD_some]; rfl) (by simp (disch := (apply Apart.mk; decide)) only [go_sem, Nat.reduceAdd, Nat.reduceLT, Nat.reduceMul, Nat.reduceLeDiff, Int.reduceToNat, Int.reduceLT, Int.reduceLE, ha0, on_atB hl0, lt_add hl0, lt_at hl0, on_updB hl0, on_atU hl0, on_updU hl0, upd_same ha0, Option.getD_some]; rfl) (by simp (disch := (apply Apart.mk; decide)) only [go_sem, Nat.reduceAdd, Nat.reduceLT, Nat.reduceMul, Nat.reduceLeDiff, Int.reduceToNat, Int.reduceLT, Int.reduceLE, ha0, on_atB hl0, lt_add hl0, lt_at hl0, on_updB hl0, on_atU hl0, on_updU hl0, upd_same ha0, Option.getD_some]; rfl) ?c_eF4 ?d_eF4 ?_
    case c_eF4 => (refine lex_reader_skip_runs r1 (lex_reader_blank_2) (l0) _ _ ?_ ?_ ?_ eF4; (exact (fun os x0 r e => lex_reader_blank_2_runs x0 e)); (exact (fun i => by simp [CT])); (simp (disch := (apply Apart.mk; decide)) only [go_sem, Nat.reduceAdd, Nat.reduceLT, Nat.reduceMul, Nat.reduceLeDiff, Int.reduceToNat, Int.reduceLT, Int.reduceLE, ha0, on_atB hl0, lt_add hl0, lt_at hl0, on_updB hl0, on_atU hl0, on_updU hl0, upd_same ha0]))
    case d_eF4 => rfl
    refine w_ops_nil ?_
    exact (w_bn (w_k ⟨(r3.units, r3.place, r3.whole, r3.fault), hr, (To.cut (h := (h.upd l0 (.cells [.val (.sl (List.map eUnit r3.units)), .val (.int .i64 r3.place), .val (.int .i64 r3.whole), .val (.int .i64 r3.fault)]))) (WF.upd hwf hl0 (by simp (disch := (apply Apart.mk; decide)) only [go_sem, Nat.reduceAdd, Nat.reduceLT, Nat.reduceMul, Nat.reduceLeDiff, Int.reduceToNat, Int.reduceLT, Int.reduceLE, ha0, on_atB hl0, lt_add hl0, lt_at hl0, on_updB hl0, on_atU hl0, on_updU hl0, upd_same ha0])) (Nat.le_refl _) (by first | rfl | (simp (disch := (apply Apart.mk; decide)) only [go_sem, Nat.reduceAdd, Nat.reduceLT, Nat.reduceMul, Nat.reduceLeDiff, Int.reduceToNat, Int.reduceLT, Int.reduceLE, ha0, on_atB hl0, lt_add hl0, lt_at hl0, on_updB hl0, on_atU hl0, on_updU hl0, upd_same ha0, cF3]; rfl)) (by simp (disch := (apply Apart.mk; decide)) only [go_sem, Nat.reduceAdd, Nat.reduceLT, Nat.reduceMul, Nat.reduceLeDiff, Int.reduceToNat, Int.reduceLT, Int.reduceLE, ha0, on_atB hl0, lt_add hl0, lt_at hl0, on_updB hl0, on_atU hl0, on_updU hl0, upd_same ha0, cF3]))⟩))
end Go.Val

/- part IW46 -/
/- (*scansion/lex.reader).at runs as it is read off. -/
namespace Go.Val
set_option linter.unusedVariables false
set_option linter.unusedSimpArgs false
set_option maxRecDepth 20000
open Go.Proofs
theorem lex_reader_at_runs (r : Tlex_reader) (l0 : Nat) {h : Heap} (ha0 : h.at_ l0 = some (.cells [.val (.sl (List.map eUnit r.units)), .val (.int .i64 r.place), .val (.int .i64 r.whole), .val (.int .i64 r.fault)])) {a : Int} (e : lex_reader_at r = some a) :
    Runs CT 46 [.cv (.val (.ptr (some (l0, 0))))] h fun o h' => o = [.cv (.val (.int .i64 a))] ∧ h' = h := by
  refine Runs.start Try.f46 _ Try.func46 rfl (by rw [Try.ntmps46]; simp) (by rfl) (by rfl) (fun hwf hu => ?_)
  have hl0 := (hwf _ _ ha0).1
  have kl0 := locF hl0
  obtain ⟨D, hD, hr⟩ : ∃ D : Int → Prop, (∀ z, D z → z = a) ∧ Holds (lex_reader_at r) D := ⟨fun z => z = a, fun _ h => h, Holds.intro e rfl⟩
  dsimp only [lex_reader_at] at hr
  change wpCode _ _ _ _ _ ⟨[(0, .cv (.val (.ptr (some (l0, 0)))))], h.on []⟩
  refine w_seq ?_
  refine A_region ?_
  refine w_n ?_
  refine w_seq ?_
  refine w_seq ?_
  refine w_drawn [0, 1, 2, 3, 4, 5, 6, 7, 8, 9] (by rfl) ?_
  refine p_run (l := [0, 1, 2, 3, 4, 5, 6, 7, 8, 9]) (pend' := [9, 8, 7, 6, 5, 4, 3, 2, 1, 0]) (by simp (disch := (apply Apart.mk; decide)) only [go_sem, Nat.reduceAdd, Nat.reduceLT, Nat.reduceMul, Nat.reduceLeDiff, Int.reduceToNat, Int.reduceLT, Int.reduceLE, ha0, on_atB hl0, lt_add hl0, lt_at hl0]; rfl) rfl ?_
  refine p_end (by simp (disch := (apply Apart.mk; decide)) only [go_sem, Nat.reduceAdd, Nat.reduceLT, Nat.reduceMul, Nat.reduceLeDiff, Int.reduceToNat, Int.reduceLT, Int.reduceLE, ha0, on_atB hl0, lt_add hl0, lt_at hl0]) ?_
  refine w_n ?_
  refine A_condH hr (fun cF1 hr => ?_) (fun cF1 hr => ?_)
  · refine w_seq ?_
    refine A_region ?_
    refine w_n ?_
    refine w_ret ?_
    obtain rfl := hD _ hr
    exact (w_tr (A_endR (A_cut (os' := []) (sl := [(2, .cv (.val (.int .i64 r.whole)))]) hwf) ⟨rfl, on_nil hwf⟩))
  · refine w_skip ?_
    refine w_n ?_
    refine w_seq ?_
    refine w_drawn [0, 1, 2, 3, 4, 5, 6, 7, 8, 9, 10, 11] (by rfl) ?_
    obtain ⟨x, nF2, eF3, gF4, hr⟩ := hr.idx
    refine p_run (l := [0, 1, 2, 3, 4, 5, 6, 7, 8, 9, 10]) (pend' := [10, 9, 8, 7, 6, 5, 4, 3, 2, 1, 0]) (by simp (disch := (apply Apart.mk; decide)) only [go_sem, Nat.reduceAdd, Nat.reduceLT, Nat.reduceMul, Nat.reduceLeDiff, Int.reduceToNat, Int.reduceLT, Int.reduceLE, ha0, on_atB hl0, lt_add hl0, lt_at hl0, nF2, eF3, gF4]; rfl) rfl ?_
    refine p_op (pend' := []) rfl (by simp (disch := (apply Apart.mk; decide)) only [go_sem, Nat.reduceAdd, Nat.reduceLT, Nat.reduceMul, Nat.reduceLeDiff, Int.reduceToNat, Int.reduceLT, Int.reduceLE, ha0, on_atB hl0, lt_add hl0, lt_at hl0, nF2, eF3, gF4]) (by simp (disch := (apply Apart.mk; decide)) only [go_sem, Nat.reduceAdd, Nat.reduceLT, Nat.reduceMul, Nat.reduceLeDiff, Int.reduceToNat, Int.reduceLT, Int.reduceLE, ha0, on_atB hl0, lt_add hl0, lt_at hl0, nF2, eF3, gF4]; rfl) (by rfl) ?_
    refine p_end (by simp (disch := (apply Apart.mk; decide)) only [go_sem, Nat.reduceAdd, Nat.reduceLT, Nat.reduceMul, Nat.reduceLeDiff, Int.reduceToNat, Int.reduceLT, Int.reduceLE, ha0, on_atB hl0, lt_add hl0, lt_at hl0, nF2, eF3, gF4]) ?_
    refine w_n ?_
    refine w_ret ?_
    obtain rfl := hD _ hr
    exact (A_endR (A_cut (os' := []) (sl := [(2, .cv (.val (.int .i64 x.At)))]) hwf) ⟨rfl, on_nil hwf⟩)
end Go.Val

/- part IW112 -/
/- (*scansion/lex.reader).odd runs as it is read off. -/
namespace Go.Val
set_option linter.unusedVariables false
set_option linter.unusedSimpArgs false
set_option maxRecDepth 20000
open Go.Proofs
theorem lex_reader_odd_runs (r : Tlex_reader) (l0 : Nat) {h : Heap} (ha0 : h.at_ l0 = some (.cells [.val (.sl (List.map eUnit r.units)), .val (.int .i64 r.place), .val (.int .i64 r.whole), .val (.int .i64 r.fault)])) {a : Tlex_reader} (e : lex_reader_odd r = some a) :
    Runs CT 112 [.cv (.val (.ptr (some (l0, 0))))] h fun o h' => o = [] ∧ h' = (h.upd l0 (.cells [.val (.sl (List.map eUnit a.units)), .val (.int .i64 a.place), .val (.int .i64 a.whole), .val (.int .i64 a.fault)])) := by
  refine Runs.start Try.f112 _ Try.func112 rfl (by rw [Try.ntmps112]; simp) (by rfl) (by rfl) (fun hwf hu => ?_)
  have hl0 := (hwf _ _ ha0).1
  have kl0 := locF hl0
  obtain ⟨D, hD, hr⟩ : ∃ D : Tlex_reader → Prop, (∀ z, D z → z = a) ∧ Holds (lex_reader_odd r) D := ⟨fun z => z = a, fun _ h => h, Holds.intro e rfl⟩
  dsimp only [lex_reader_odd] at hr
  change wpCode _ _ _ _ _ ⟨[(0, .cv (.val (.ptr (some (l0, 0)))))], h.on []⟩
  refine w_K (D := D) (fun xX : Int => ⟨[], (h.upd l0 (.cells [.val (.sl (List.map eUnit r.units)), .val (.int .i64 r.place), .val (.int .i64 r.whole), .val (.int .i64 xX)])).on []⟩) (fun xX : Int => lex_reader_odd.k1 r xX) (fun xX s' hr ht => ?_) ?_
  · obtain ⟨fault, rfl⟩ : ∃ z, z = xX := ⟨xX, rfl⟩
    dsimp only [lex_reader_odd.k1] at hr ht
    obtain rfl := hD _ hr
    exact (w_endN (To.trans ht (To.cut (os' := []) (sl := []) (h := (h.upd l0 (.cells [.val (.sl (List.map eUnit r.units)), .val (.int .i64 r.place), .val (.int .i64 r.whole), .val (.int .i64 fault)]))) (WF.upd hwf hl0 (by simp (disch := (apply Apart.mk; decide)) only [go_sem, Nat.reduceAdd, Nat.reduceLT, Nat.reduceMul, Nat.reduceLeDiff, Int.reduceToNat, Int.reduceLT, Int.reduceLE, ha0, on_atB hl0, lt_add hl0, lt_at hl0, on_updB hl0, on_atU hl0, on_updU hl0, upd_same ha0])) (Nat.le_refl _) (by first | rfl | (simp (disch := (apply Apart.mk; decide)) only [go_sem, Nat.reduceAdd, Nat.reduceLT, Nat.reduceMul, Nat.reduceLeDiff, Int.reduceToNat, Int.reduceLT, Int.reduceLE, ha0, on_atB hl0, lt_add hl0, lt_at hl0, on_updB hl0, on_atU hl0, on_updU hl0, upd_same ha0]; rfl)) (by simp (disch := (apply Apart.mk; decide)) only [go_sem, Nat.reduceAdd, Nat.reduceLT, Nat.reduceMul, Nat.reduceLeDiff, Int.reduceToNat, Int.reduceLT, Int.reduceLE, ha0, on_atB hl0, lt_add hl0, lt_at hl0, on_updB hl0, on_atU hl0, on_updU hl0, upd_same ha0]))) (by simp (disch := (apply Apart.mk; decide)) only [go_sem, Nat.reduceAdd, Nat.reduceLT, Nat.reduceMul, Nat.reduceLeDiff, Int.reduceToNat, Int.reduceLT, Int.reduceLE, ha0, on_atB hl0, lt_add hl0, lt_at hl0, on_updB hl0, on_atU hl0, on_updU hl0, upd_same ha0, Try.results112, results_data CT_gives112, resCell, resVal.eq_2, loadOp_sv]) ⟨rfl, on_nil (h := (h.upd l0 (.cells [.val (.sl (List.map eUnit r.units)), .val (.int .i64 r.place), .val (.int .i64 r.whole), .val (.int .i64 fault)]))) (WF.upd hwf hl0 (by simp (disch := (apply Apart.mk; decide)) only [go_sem, Nat.reduceAdd, Nat.reduceLT, Nat.reduceMul, Nat.reduceLeDiff, Int.reduceToNat, Int.reduceLT, Int.reduceLE, ha0, on_atB hl0, lt_add hl0, lt_at hl0, on_updB hl0, on_atU hl0, on_updU hl0, upd_same ha0]))⟩)
  · refine w_block ?_
    refine w_seq ?_
    refine w_region rfl (by simp (disch := (apply Apart.mk; decide)) only [go_sem, Nat.reduceAdd, Nat.reduceLT, Nat.reduceMul, Nat.reduceLeDiff, Int.reduceToNat, Int.reduceLT, Int.reduceLE, ha0, on_atB hl0, lt_add hl0, lt_at hl0, on_updB hl0, on_atU hl0, on_updU hl0, upd_same ha0]; rfl) ?_
    refine w_n ?_
    refine w_condH (by simp (disch := (apply Apart.mk; decide)) only [go_sem, Nat.reduceAdd, Nat.reduceLT, Nat.reduceMul, Nat.reduceLeDiff, Int.reduceToNat, Int.reduceLT, Int.reduceLE, ha0, on_atB hl0, lt_add hl0, lt_at hl0, on_updB hl0, on_atU hl0, on_updU hl0, upd_same ha0]) hr (fun cF1 hr => ?_) (fun cF1 hr => ?_)
    · refine w_skip ?_
      exact (w_bn (w_k ⟨r.fault, hr, (To.cut (h := (h.upd l0 (.cells [.val (.sl (List.map eUnit r.units)), .val (.int .i64 r.place), .val (.int .i64 r.whole), .val (.int .i64 r.fault)]))) (WF.upd hwf hl0 (by simp (disch := (apply Apart.mk; decide)) only [go_sem, Nat.reduceAdd, Nat.reduceLT, Nat.reduceMul, Nat.reduceLeDiff, Int.reduceToNat, Int.reduceLT, Int.reduceLE, ha0, on_atB hl0, lt_add hl0, lt_at hl0, on_updB hl0, on_atU hl0, on_updU hl0, upd_same ha0])) (Nat.le_refl _) (by first | rfl | (simp (disch := (apply Apart.mk; decide)) only [go_sem, Nat.reduceAdd, Nat.reduceLT, Nat.reduceMul, Nat.reduceLeDiff, Int.reduceToNat, Int.reduceLT, Int.reduceLE, ha0, on_atB hl0, lt_add hl0, lt_at hl0, on_updB hl0, on_atU hl0, on_updU hl0, upd_same ha0, cF1]; rfl)) (by simp (disch := (apply Apart.mk; decide)) only [go_sem, Nat.reduceAdd, Nat.reduceLT, Nat.reduceMul, Nat.reduceLeDiff, Int.reduceToNat, Int.reduceLT, Int.reduceLE, ha0, on_atB hl0, lt_add hl0, lt_at hl0, on_updB hl0, on_atU hl0, on_updU hl0, upd_same ha0, cF1]))⟩))
    · refine w_seq ?_
      refine A_ops ?_
      refine w_upto 1 rfl (by simp (disch := (apply Apart.mk; decide)) only [go_sem, Nat.reduceAdd, Nat.reduceLT, Nat.reduceMul, Nat.reduceLeDiff, Int.reduceToNat, Int.reduceLT, Int.reduceLE, ha0, on_atB hl0, lt_add hl0, lt_at hl0, on_updB hl0, on_atU hl0, on_updU hl0, upd_same ha0]; rfl) ?_
      obtain ⟨r1, eF2, hr⟩ := hr.bind
      refine w_call' (out := ?o_eF2) (hp := ?p_eF2) rfl (by simp (disch := (apply Apart.mk; decide)) only [go_sem, Nat.reduceAdd, Nat.reduceLT, Nat.reduceMul, Nat.reduceLeDiff, Int.reduceToNat, Int.reduceLT, Int.reduceLE, ha0, on_atB hl0, lt_add hl0, lt_at hl0, on_updB hl0, on_atU hl0, on_updU hl0, upd_same ha0, Option.getD_some]; rfl) (by simp (disch := (apply Apart.mk; decide)) only [go_sem, Nat.reduceAdd, Nat.reduceLT, Nat.reduceMul, Nat.reduceLeDiff, Int.reduceToNat, Int.reduceLT, Int.reduceLE, ha0, on_atB hl0, lt_add hl0, lt_at hl0, on_updB hl0, on_atU hl0, on_updU hl0, upd_same ha0, Option.getD_some]; rfl) (by simp (disch := (apply Apart.mk; decide)) only [go_sem, Nat.reduceAdd, Nat.reduceLT, Nat.reduceMul, Nat.reduceLeDiff, Int.reduceToNat, Int.reduceLT, Int.reduceLE, ha0, on_atB hl0, lt_add hl0, lt_at hl0, on_updB hl0, on_atU hl0, on_updU hl0, upd_same ha0, Option.getD_some]; rfl) ?c_eF2 ?d_eF2 ?_
      case c_eF2 => (refine lex_reader_now_runs r (l0) ?_ eF2; (simp (disch := (apply Apart.mk; decide)) only [go_sem, Nat.reduceAdd, Nat.reduceLT, Nat.reduceMul, Nat.reduceLeDiff, Int.reduceToNat, Int.reduceLT, Int.reduceLE, ha0, on_atB hl0, lt_add hl0, lt_at hl0, on_updB hl0, on_atU hl0, on_updU hl0, upd_same ha0]))
      case d_eF2 => rfl
      refine w_ops_end (by simp (disch := (apply Apart.mk; decide)) only [go_sem, Nat.reduceAdd, Nat.reduceLT, Nat.reduceMul, Nat.reduceLeDiff, Int.reduceToNat, Int.reduceLT, Int.reduceLE, ha0, on_atB hl0, lt_add hl0, lt_at hl0, on_updB hl0, on_atU hl0, on_updU hl0, upd_same ha0]; rfl) ?_
      refine w_n ?_
      refine w_condH (by simp (disch := (apply Apart.mk; decide)) only [go_sem, Nat.reduceAdd, Nat.reduceLT, Nat.reduceMul, Nat.reduceLeDiff, Int.reduceToNat, Int.reduceLT, Int.reduceLE, ha0, on_atB hl0, lt_add hl0, lt_at hl0, on_updB hl0, on_atU hl0, on_updU hl0, upd_same ha0, cF1]) hr (fun cF3 hr => ?_) (fun cF3 hr => ?_)
      · refine w_region rfl (by simp (disch := (apply Apart.mk; decide)) only [go_sem, Nat.reduceAdd, Nat.reduceLT, Nat.reduceMul, Nat.reduceLeDiff, Int.reduceToNat, Int.reduceLT, Int.reduceLE, ha0, on_atB hl0, lt_add hl0, lt_at hl0, on_updB hl0, on_atU hl0, on_updU hl0, upd_same ha0, cF1, cF3]; rfl) ?_
        exact (w_bn (w_k ⟨(7 : Int), hr, (To.cut (h := (h.upd l0 (.cells [.val (.sl (List.map eUnit r.units)), .val (.int .i64 r.place), .val (.int .i64 r.whole), .val (.int .i64 (7 : Int))]))) (WF.upd hwf hl0 (by simp (disch := (apply Apart.mk; decide)) only [go_sem, Nat.reduceAdd, Nat.reduceLT, Nat.reduceMul, Nat.reduceLeDiff, Int.reduceToNat, Int.reduceLT, Int.reduceLE, ha0, on_atB hl0, lt_add hl0, lt_at hl0, on_updB hl0, on_atU hl0, on_updU hl0, upd_same ha0])) (Nat.le_refl _) (by first | rfl | (simp (disch := (apply Apart.mk; decide)) only [go_sem, Nat.reduceAdd, Nat.reduceLT, Nat.reduceMul, Nat.reduceLeDiff, Int.reduceToNat, Int.reduceLT, Int.reduceLE, ha0, on_atB hl0, lt_add hl0, lt_at hl0, on_updB hl0, on_atU hl0, on_updU hl0, upd_same ha0, cF1, cF3]; rfl)) (by simp (disch := (apply Apart.mk; decide)) only [go_sem, Nat.reduceAdd, Nat.reduceLT, Nat.reduceMul, Nat.reduceLeDiff, Int.reduceToNat, Int.reduceLT, Int.reduceLE, ha0, on_atB hl0, lt_add hl0, lt_at hl0, on_updB hl0, on_atU hl0, on_updU hl0, upd_same ha0, cF1, cF3]))⟩))
      · refine w_region rfl (by simp (disch := (apply Apart.mk; decide)) only [go_sem, Nat.reduceAdd, Nat.reduceLT, Nat.reduceMul, Nat.reduceLeDiff, Int.reduceToNat, Int.reduceLT, Int.reduceLE, ha0, on_atB hl0, lt_add hl0, lt_at hl0, on_updB hl0, on_atU hl0, on_updU hl0, upd_same ha0, cF1, cF3]; rfl) ?_
        exact (w_bn (w_k ⟨(6 : Int), hr, (To.cut (h := (h.upd l0 (.cells [.val (.sl (List.map eUnit r.units)), .val (.int .i64 r.place), .val (.int .i64 r.whole), .val (.int .i64 (6 : Int))]))) (WF.upd hwf hl0 (by simp (disch := (apply Apart.mk; decide)) only [go_sem, Nat.reduceAdd, Nat.reduceLT, Nat.reduceMul, Nat.reduceLeDiff, Int.reduceToNat, Int.reduceLT, Int.reduceLE, ha0, on_atB hl0, lt_add hl0, lt_at hl0, on_updB hl0, on_atU hl0, on_updU hl0, upd_same ha0])) (Nat.le_refl _) (by first | rfl | (simp (disch := (apply Apart.mk; decide)) only [go_sem, Nat.reduceAdd, Nat.reduceLT, Nat.reduceMul, Nat.reduceLeDiff, Int.reduceToNat, Int.reduceLT, Int.reduceLE, ha0, on_atB hl0, lt_add hl0, lt_at hl0, on_updB hl0, on_atU hl0, on_updU hl0, upd_same ha0, cF1, cF3]; rfl)) (by simp (disch := (apply Apart.mk; decide)) only [go_sem, Nat.reduceAdd, Nat.reduceLT, Nat.reduceMul, Nat.reduceLeDiff, Int.reduceToNat, Int.reduceLT, Int.reduceLE, ha0, on_atB hl0, lt_add hl0, lt_at hl0, on_updB hl0, on_atU hl0, on_updU hl0, upd_same ha0, cF1, cF3]))⟩))
end Go.Val

/- part IW82 -/
/- (*scansion/lex.reader).take runs as it is read off. -/
namespace Go.Val
set_option linter.unusedVariables false
set_option linter.unusedSimpArgs false
set_option maxRecDepth 20000
open Go.Proofs
theorem lex_reader_take_runs (r : Tlex_reader) (is : Int → Option Bool) (l0 : Nat) (fid_is : FuncId) (caps_is : List DVal) {h : Heap} (h_is : ∀ (g : Heap) x0 r, is x0 = some r → Runs CT fid_is ([.cv (.val (.int .i64 x0))] ++ sval caps_is) g fun o h' => o = [.cv (.val (.bool r))] ∧ h' = g) (d_is : ∀ i, CT.how fid_is i = .data) (ha0 : h.at_ l0 = some (.cells [.val (.sl (List.map eUnit r.units)), .val (.int .i64 r.place), .val (.int .i64 r.whole), .val (.int .i64 r.fault)])) {a : (Int × Tlex_reader)} (e : lex_reader_take r is = some a) :
    Runs CT 82 [.cv (.val (.ptr (some (l0, 0)))), .cv (.val (.fn fid_is [] caps_is))] h fun o h' => o = [.cv (.val (.int .i64 a.1))] ∧ h' = (h.upd l0 (.cells [.val (.sl (List.map eUnit a.2.units)), .val (.int .i64 a.2.place), .val (.int .i64 a.2.whole), .val (.int .i64 a.2.fault)])) := by
  refine Runs.start Try.f82 _ Try.func82 rfl (by rw [Try.ntmps82]; simp) (by rfl) (by rfl) (fun hwf hu => ?_)
  have u_is : underL h.n caps_is := (hu (.cv (.val (.fn fid_is [] caps_is))) (by simp)).2
  have vu_is := fun k => under_add (k := k) u_is
  have hl0 := (hwf _ _ ha0).1
  have kl0 := locF hl0
  obtain ⟨D, hD, hr⟩ : ∃ D : (Int × Tlex_reader) → Prop, (∀ z, D z → z = a) ∧ Holds (lex_reader_take r is) D := ⟨fun z => z = a, fun _ h => h, Holds.intro e rfl⟩
  dsimp only [lex_reader_take] at hr
  change wpCode _ _ _ _ _ ⟨[(0, .cv (.val (.ptr (some (l0, 0))))), (1, .cv (.val (.fn fid_is [] caps_is)))], h.on []⟩
  refine w_seq ?_
  refine w_region rfl (by simp (disch := (apply Apart.mk; decide)) only [go_sem, Nat.reduceAdd, Nat.reduceLT, Nat.reduceMul, Nat.reduceLeDiff, Int.reduceToNat, Int.reduceLT, Int.reduceLE, ha0, on_atB hl0, lt_add hl0, lt_at hl0, on_updB hl0, on_atU hl0, on_updU hl0, upd_same ha0, under_add u_is, d_is]; rfl) ?_
  refine w_n ?_
  refine w_seq ?_
  refine A_ops ?_
  refine w_upto 1 rfl (by simp (disch := (apply Apart.mk; decide)) only [go_sem, Nat.reduceAdd, Nat.reduceLT, Nat.reduceMul, Nat.reduceLeDiff, Int.reduceToNat, Int.reduceLT, Int.reduceLE, ha0, on_atB hl0, lt_add hl0, lt_at hl0, on_updB hl0, on_atU hl0, on_updU hl0, upd_same ha0, under_add u_is, d_is]; rfl) ?_
  obtain ⟨r1, eF1, hr⟩ := hr.bind
  refine w_call' (out := ?o_eF1) (hp := ?p_eF1) rfl (by simp (disch := (apply Apart.mk; decide)) only [go_sem, Nat.reduceAdd, Nat.reduceLT, Nat.reduceMul, Nat.reduceLeDiff, Int.reduceToNat, Int.reduceLT, Int.reduceLE, ha0, on_atB hl0, lt_add hl0, lt_at hl0, on_updB hl0, on_atU hl0, on_updU hl0, upd_same ha0, under_add u_is, d_is, Option.getD_some]; rfl) (by simp (disch := (apply Apart.mk; decide)) only [go_sem, Nat.reduceAdd, Nat.reduceLT, Nat.reduceMul, Nat.reduceLeDiff, Int.reduceToNat, Int.reduceLT, Int.reduceLE, ha0, on_atB hl0, lt_add hl0, lt_at hl0, on_updB hl0, on_atU hl0, on_updU hl0, upd_same ha0, under_add u_is, d_is, Option.getD_some]; rfl) (by simp (disch := (apply Apart.mk; decide)) only [go_sem, Nat.reduceAdd, Nat.reduceLT, Nat.reduceMul, Nat.reduceLeDiff, Int.reduceToNat, Int.reduceLT, Int.reduceLE, ha0, on_atB hl0, lt_add hl0, lt_at hl0, on_updB hl0, on_atU hl0, on_updU hl0, upd_same ha0, under_add u_is, d_is, Option.getD_some]; rfl) ?c_eF1 ?d_eF1 ?_
  case c_eF1 => (refine lex_reader_now_runs r (l0) ?_ eF1; (simp (disch := (apply Apart.mk; decide)) only [go_sem, Nat.reduceAdd, Nat.reduceLT, Nat.reduceMul, Nat.reduceLeDiff, Int.reduceToNat, Int.reduceLT, Int.reduceLE, ha0, on_atB hl0, lt_add hl0, lt_at hl0, on_updB hl0, on_atU hl0, on_updU hl0, upd_same ha0, under_add u_is, d_is]))
  case d_eF1 => rfl
  refine w_ops_end (by simp (disch := (apply Apart.mk; decide)) only [go_sem, Nat.reduceAdd, Nat.reduceLT, Nat.reduceMul, Nat.reduceLeDiff, Int.reduceToNat, Int.reduceLT, Int.reduceLE, ha0, on_atB hl0, lt_add hl0, lt_at hl0, on_updB hl0, on_atU hl0, on_updU hl0, upd_same ha0, under_add u_is, d_is]; rfl) ?_
  refine w_n ?_
  refine w_seq ?_
  obtain ⟨v, vF4, hr⟩ := hr.bind
  refine w_joinR (sj := ⟨[(0, .cv (.val (.ptr (some (l0, 0))))), (5, .cv (.val (.int .i64 r1))), (18, .cv (.val (.bool v)))], h.on []⟩) (A_ops ?_) ?_
  · have hr := Holds.intro (D := fun z => z = v) vF4 rfl
    refine w_upto 6 rfl (by simp (disch := (apply Apart.mk; decide)) only [go_sem, Nat.reduceAdd, Nat.reduceLT, Nat.reduceMul, Nat.reduceLeDiff, Int.reduceToNat, Int.reduceLT, Int.reduceLE, ha0, on_atB hl0, lt_add hl0, lt_at hl0, on_updB hl0, on_atU hl0, on_updU hl0, upd_same ha0, under_add u_is, d_is]; rfl) ?_
    rcases hr.ite with ⟨cF2, hr⟩ | ⟨cF2, hr⟩
    · refine w_upto 2 rfl (by simp (disch := (apply Apart.mk; decide)) only [go_sem, Nat.reduceAdd, Nat.reduceLT, Nat.reduceMul, Nat.reduceLeDiff, Int.reduceToNat, Int.reduceLT, Int.reduceLE, ha0, on_atB hl0, lt_add hl0, lt_at hl0, on_updB hl0, on_atU hl0, on_updU hl0, upd_same ha0, under_add u_is, d_is, cF2]; rfl) ?_
      refine w_off (by simp (disch := (apply Apart.mk; decide)) only [go_sem, Nat.reduceAdd, Nat.reduceLT, Nat.reduceMul, Nat.reduceLeDiff, Int.reduceToNat, Int.reduceLT, Int.reduceLE, ha0, on_atB hl0, lt_add hl0, lt_at hl0, on_updB hl0, on_atU hl0, on_updU hl0, upd_same ha0, under_add u_is, d_is, cF2]) ?_
      refine w_ops_end (by simp (disch := (apply Apart.mk; decide)) only [go_sem, Nat.reduceAdd, Nat.reduceLT, Nat.reduceMul, Nat.reduceLeDiff, Int.reduceToNat, Int.reduceLT, Int.reduceLE, ha0, on_atB hl0, lt_add hl0, lt_at hl0, on_updB hl0, on_atU hl0, on_updU hl0, upd_same ha0, under_add u_is, d_is, cF2]; rfl) ?_
      obtain rfl : _ = v := hr
      exact w_k (To.cut hwf (Nat.le_refl _) (by first | rfl | (simp (disch := (apply Apart.mk; decide)) only [go_sem, Nat.reduceAdd, Nat.reduceLT, Nat.reduceMul, Nat.reduceLeDiff, Int.reduceToNat, Int.reduceLT, Int.reduceLE, ha0, on_atB hl0, lt_add hl0, lt_at hl0, on_updB hl0, on_atU hl0, on_updU hl0, upd_same ha0, under_add u_is, d_is, cF2]; rfl)) (by simp (disch := (apply Apart.mk; decide)) only [go_sem, Nat.reduceAdd, Nat.reduceLT, Nat.reduceMul, Nat.reduceLeDiff, Int.reduceToNat, Int.reduceLT, Int.reduceLE, ha0, on_atB hl0, lt_add hl0, lt_at hl0, on_updB hl0, on_atU hl0, on_updU hl0, upd_same ha0, under_add u_is, d_is, cF2]))
    · refine w_upto 2 rfl (by simp (disch := (apply Apart.mk; decide)) only [go_sem, Nat.reduceAdd, Nat.reduceLT, Nat.reduceMul, Nat.reduceLeDiff, Int.reduceToNat, Int.reduceLT, Int.reduceLE, ha0, on_atB hl0, lt_add hl0, lt_at hl0, on_updB hl0, on_atU hl0, on_updU hl0, upd_same ha0, under_add u_is, d_is, cF2]; rfl) ?_
      obtain ⟨r2, eF3, hr⟩ := hr.bind
      refine w_call' (out := ?o_eF3) (hp := ?p_eF3) (by simp (disch := (apply Apart.mk; decide)) only [go_sem, Nat.reduceAdd, Nat.reduceLT, Nat.reduceMul, Nat.reduceLeDiff, Int.reduceToNat, Int.reduceLT, Int.reduceLE, ha0, on_atB hl0, lt_add hl0, lt_at hl0, on_updB hl0, on_atU hl0, on_updU hl0, upd_same ha0, under_add u_is, d_is, cF2]) (by simp (disch := (apply Apart.mk; decide)) only [go_sem, Nat.reduceAdd, Nat.reduceLT, Nat.reduceMul, Nat.reduceLeDiff, Int.reduceToNat, Int.reduceLT, Int.reduceLE, ha0, on_atB hl0, lt_add hl0, lt_at hl0, on_updB hl0, on_atU hl0, on_updU hl0, upd_same ha0, under_add u_is, d_is, cF2]; rfl) (by simp (disch := (apply Apart.mk; decide)) only [go_sem, Nat.reduceAdd, Nat.reduceLT, Nat.reduceMul, Nat.reduceLeDiff, Int.reduceToNat, Int.reduceLT, Int.reduceLE, ha0, on_atB hl0, lt_add hl0, lt_at hl0, on_updB hl0, on_atU hl0, on_updU hl0, upd_same ha0, under_add u_is, d_is, cF2]; rfl) (by simp (disch := (apply Apart.mk; decide)) only [go_sem, Nat.reduceAdd, Nat.reduceLT, Nat.reduceMul, Nat.reduceLeDiff, Int.reduceToNat, Int.reduceLT, Int.reduceLE, ha0, on_atB hl0, lt_add hl0, lt_at hl0, on_updB hl0, on_atU hl0, on_updU hl0, upd_same ha0, under_add u_is, d_is, cF2]; rfl) ?c_eF3 ?d_eF3 ?_
      case c_eF3 => exact h_is _ _ _ eF3
      case d_eF3 => rfl
      refine w_ops_end (by simp (disch := (apply Apart.mk; decide)) only [go_sem, Nat.reduceAdd, Nat.reduceLT, Nat.reduceMul, Nat.reduceLeDiff, Int.reduceToNat, Int.reduceLT, Int.reduceLE, ha0, on_atB hl0, lt_add hl0, lt_at hl0, on_updB hl0, on_atU hl0, on_updU hl0, upd_same ha0, under_add u_is, d_is, cF2]; rfl) ?_
      obtain rfl : _ = v := hr
      exact w_k (To.cut hwf (Nat.le_refl _) (by first | rfl | (simp (disch := (apply Apart.mk; decide)) only [go_sem, Nat.reduceAdd, Nat.reduceLT, Nat.reduceMul, Nat.reduceLeDiff, Int.reduceToNat, Int.reduceLT, Int.reduceLE, ha0, on_atB hl0, lt_add hl0, lt_at hl0, on_updB hl0, on_atU hl0, on_updU hl0, upd_same ha0, under_add u_is, d_is, cF2]; rfl)) (by simp (disch := (apply Apart.mk; decide)) only [go_sem, Nat.reduceAdd, Nat.reduceLT, Nat.reduceMul, Nat.reduceLeDiff, Int.reduceToNat, Int.reduceLT, Int.reduceLE, ha0, on_atB hl0, lt_add hl0, lt_at hl0, on_updB hl0, on_atU hl0, on_updU hl0, upd_same ha0, under_add u_is, d_is, cF2]))
  refine w_condH (by simp (disch := (apply Apart.mk; decide)) only [go_sem, Nat.reduceAdd, Nat.reduceLT, Nat.reduceMul, Nat.reduceLeDiff, Int.reduceToNat, Int.reduceLT, Int.reduceLE, ha0, on_atB hl0, lt_add hl0, lt_at hl0, on_updB hl0, on_atU hl0, on_updU hl0, upd_same ha0, under_add u_is, d_is]) hr (fun cF5 hr => ?_) (fun cF5 hr => ?_)
  · refine w_seq ?_
    refine A_ops ?_
    refine w_upto 1 rfl (by simp (disch := (apply Apart.mk; decide)) only [go_sem, Nat.reduceAdd, Nat.reduceLT, Nat.reduceMul, Nat.reduceLeDiff, Int.reduceToNat, Int.reduceLT, Int.reduceLE, ha0, on_atB hl0, lt_add hl0, lt_at hl0, on_updB hl0, on_atU hl0, on_updU hl0, upd_same ha0, under_add u_is, d_is]; rfl) ?_
    obtain ⟨r3, eF6, hr⟩ := hr.bind
    refine w_call' (out := ?o_eF6) (hp := ?p_eF6) rfl (by simp (disch := (apply Apart.mk; decide)) only [go_sem, Nat.reduceAdd, Nat.reduceLT, Nat.reduceMul, Nat.reduceLeDiff, Int.reduceToNat, Int.reduceLT, Int.reduceLE, ha0, on_atB hl0, lt_add hl0, lt_at hl0, on_updB hl0, on_atU hl0, on_updU hl0, upd_same ha0, under_add u_is, d_is, Option.getD_some]; rfl) (by simp (disch := (apply Apart.mk; decide)) only [go_sem, Nat.reduceAdd, Nat.reduceLT, Nat.reduceMul, Nat.reduceLeDiff, Int.reduceToNat, Int.reduceLT, Int.reduceLE, ha0, on_atB hl0, lt_add hl0, lt_at hl0, on_updB hl0, on_atU hl0, on_updU hl0, upd_same ha0, under_add u_is, d_is, Option.getD_some]; rfl) (by simp (disch := (apply Apart.mk; decide)) only [go_sem, Nat.reduceAdd, Nat.reduceLT, Nat.reduceMul, Nat.reduceLeDiff, Int.reduceToNat, Int.reduceLT, Int.reduceLE, ha0, on_atB hl0, lt_add hl0, lt_at hl0, on_updB hl0, on_atU hl0, on_updU hl0, upd_same ha0, under_add u_is, d_is, Option.getD_some]; rfl) ?c_eF6 ?d_eF6 ?_
    case c_eF6 => (refine lex_reader_odd_runs r (l0) ?_ eF6; (simp (disch := (apply Apart.mk; decide)) only [go_sem, Nat.reduceAdd, Nat.reduceLT, Nat.reduceMul, Nat.reduceLeDiff, Int.reduceToNat, Int.reduceLT, Int.reduceLE, ha0, on_atB hl0, lt_add hl0, lt_at hl0, on_updB hl0, on_atU hl0, on_updU hl0, upd_same ha0, under_add u_is, d_is]))
    case d_eF6 => rfl
    refine w_ops_nil ?_
    refine w_n ?_
    refine w_seq ?_
    refine w_region rfl (by simp (disch := (apply Apart.mk; decide)) only [go_sem, Nat.reduceAdd, Nat.reduceLT, Nat.reduceMul, Nat.reduceLeDiff, Int.reduceToNat, Int.reduceLT, Int.reduceLE, ha0, on_atB hl0, lt_add hl0, lt_at hl0, on_updB hl0, on_atU hl0, on_updU hl0, upd_same ha0, under_add u_is, d_is, cF5]; rfl) ?_
    refine w_n ?_
    refine w_ret ?_
    obtain rfl := hD _ hr
    exact (w_tr (w_endR (To.cut (os' := []) (sl := [(4, .cv (.val (.int .i64 (0 : Int))))]) (h := (h.upd l0 (.cells [.val (.sl (List.map eUnit r3.units)), .val (.int .i64 r3.place), .val (.int .i64 r3.whole), .val (.int .i64 r3.fault)]))) (WF.upd hwf hl0 (by simp (disch := (apply Apart.mk; decide)) only [go_sem, Nat.reduceAdd, Nat.reduceLT, Nat.reduceMul, Nat.reduceLeDiff, Int.reduceToNat, Int.reduceLT, Int.reduceLE, ha0, on_atB hl0, lt_add hl0, lt_at hl0, on_updB hl0, on_atU hl0, on_updU hl0, upd_same ha0, under_add u_is, d_is])) (Nat.le_refl _) (by first | rfl | (simp (disch := (apply Apart.mk; decide)) only [go_sem, Nat.reduceAdd, Nat.reduceLT, Nat.reduceMul, Nat.reduceLeDiff, Int.reduceToNat, Int.reduceLT, Int.reduceLE, ha0, on_atB hl0, lt_add hl0, lt_at hl0, on_updB hl0, on_atU hl0, on_updU hl0, upd_same ha0, under_add u_is, d_is, cF5]; rfl)) (by simp (disch := (apply Apart.mk; decide)) only [go_sem, Nat.reduceAdd, Nat.reduceLT, Nat.reduceMul, Nat.reduceLeDiff, Int.reduceToNat, Int.reduceLT, Int.reduceLE, ha0, on_atB hl0, lt_add hl0, lt_at hl0, on_updB hl0, on_atU hl0, on_updU hl0, upd_same ha0, under_add u_is, d_is, cF5])) (by simp (disch := (apply Apart.mk; decide)) only [go_sem, Nat.reduceAdd, Nat.reduceLT, Nat.reduceMul, Nat.reduceLeDiff, Int.reduceToNat, Int.reduceLT, Int.reduceLE, ha0, on_atB hl0, lt_add hl0, lt_at hl0, on_updB hl0, on_atU hl0, on_updU hl0, upd_same ha0, under_add u_is, d_is, Try.results82, results_data CT_gives82, resCell, resVal.eq_2, loadOp_sv, cF5]) ⟨rfl, on_nil (h := (h.upd l0 (.cells [.val (.sl (List.map eUnit r3.units)), .val (.int .i64 r3.place), .val (.int .i64 r3.whole), .val (.int .i64 r3.fault)]))) (WF.upd hwf hl0 (by simp (disch := (apply Apart.mk; decide)) only [go_sem, Nat.reduceAdd, Nat.reduceLT, Nat.reduceMul, Nat.reduceLeDiff, Int.reduceToNat, Int.reduceLT, Int.reduceLE, ha0, on_atB hl0, lt_add hl0, lt_at hl0, on_updB hl0, on_atU hl0, on_updU hl0, upd_same ha0, under_add u_is, d_is]))⟩))
  · refine w_skip ?_
    refine w_n ?_
    refine w_seq ?_
    refine w_region rfl (by simp (disch := (apply Apart.mk; decide)) only [go_sem, Nat.reduceAdd, Nat.reduceLT, Nat.reduceMul, Nat.reduceLeDiff, Int.reduceToNat, Int.reduceLT, Int.reduceLE, ha0, on_atB hl0, lt_add hl0, lt_at hl0, on_updB hl0, on_atU hl0, on_updU hl0, upd_same ha0, under_add u_is, d_is, cF5]; rfl) ?_
    refine w_n ?_
    refine w_seq ?_
    refine w_region rfl (by simp (disch := (apply Apart.mk; decide)) only [go_sem, Nat.reduceAdd, Nat.reduceLT, Nat.reduceMul, Nat.reduceLeDiff, Int.reduceToNat, Int.reduceLT, Int.reduceLE, ha0, on_atB hl0, lt_add hl0, lt_at hl0, on_updB hl0, on_atU hl0, on_updU hl0, upd_same ha0, under_add u_is, d_is, cF5]; rfl) ?_
    refine w_n ?_
    refine w_ret ?_
    obtain rfl := hD _ hr
    exact (w_endR (To.cut (os' := []) (sl := [(4, .cv (.val (.int .i64 r1)))]) (h := (h.upd l0 (.cells [.val (.sl (List.map eUnit r.units)), .val (.int .i64 (IntKind.i64.wrap (r.place + (1 : Int)))), .val (.int .i64 r.whole), .val (.int .i64 r.fault)]))) (WF.upd hwf hl0 (by simp (disch := (apply Apart.mk; decide)) only [go_sem, Nat.reduceAdd, Nat.reduceLT, Nat.reduceMul, Nat.reduceLeDiff, Int.reduceToNat, Int.reduceLT, Int.reduceLE, ha0, on_atB hl0, lt_add hl0, lt_at hl0, on_updB hl0, on_atU hl0, on_updU hl0, upd_same ha0, under_add u_is, d_is])) (Nat.le_refl _) (by first | rfl | (simp (disch := (apply Apart.mk; decide)) only [go_sem, Nat.reduceAdd, Nat.reduceLT, Nat.reduceMul, Nat.reduceLeDiff, Int.reduceToNat, Int.reduceLT, Int.reduceLE, ha0, on_atB hl0, lt_add hl0, lt_at hl0, on_updB hl0, on_atU hl0, on_updU hl0, upd_same ha0, under_add u_is, d_is, cF5]; rfl)) (by simp (disch := (apply Apart.mk; decide)) only [go_sem, Nat.reduceAdd, Nat.reduceLT, Nat.reduceMul, Nat.reduceLeDiff, Int.reduceToNat, Int.reduceLT, Int.reduceLE, ha0, on_atB hl0, lt_add hl0, lt_at hl0, on_updB hl0, on_atU hl0, on_updU hl0, upd_same ha0, under_add u_is, d_is, cF5])) (by simp (disch := (apply Apart.mk; decide)) only [go_sem, Nat.reduceAdd, Nat.reduceLT, Nat.reduceMul, Nat.reduceLeDiff, Int.reduceToNat, Int.reduceLT, Int.reduceLE, ha0, on_atB hl0, lt_add hl0, lt_at hl0, on_updB hl0, on_atU hl0, on_updU hl0, upd_same ha0, under_add u_is, d_is, Try.results82, results_data CT_gives82, resCell, resVal.eq_2, loadOp_sv, cF5]) ⟨rfl, on_nil (h := (h.upd l0 (.cells [.val (.sl (List.map eUnit r.units)), .val (.int .i64 (IntKind.i64.wrap (r.place + (1 : Int)))), .val (.int .i64 r.whole), .val (.int .i64 r.fault)]))) (WF.upd hwf hl0 (by simp (disch := (apply Apart.mk; decide)) only [go_sem, Nat.reduceAdd, Nat.reduceLT, Nat.reduceMul, Nat.reduceLeDiff, Int.reduceToNat, Int.reduceLT, Int.reduceLE, ha0, on_atB hl0, lt_add hl0, lt_at hl0, on_updB hl0, on_atU hl0, on_updU hl0, upd_same ha0, under_add u_is, d_is]))⟩)
end Go.Val

/- part IW55 -/
/- scansion/lex.lower runs as it is read off. -/
namespace Go.Val
set_option linter.unusedVariables false
set_option linter.unusedSimpArgs false
set_option maxRecDepth 20000
open Go.Proofs
theorem lex_lower_runs (r : Int) {h : Heap} {a : Bool} (e : lex_lower r = some a) :
    Runs CT 55 [.cv (.val (.int .i64 r))] h fun o h' => o = [.cv (.val (.bool a))] ∧ h' = h := by
  refine Runs.start Try.f55 _ Try.func55 rfl (by rw [Try.ntmps55]; simp) (by rfl) (by rfl) (fun hwf hu => ?_)
  obtain ⟨D, hD, hr⟩ : ∃ D : Bool → Prop, (∀ z, D z → z = a) ∧ Holds (lex_lower r) D := ⟨fun z => z = a, fun _ h => h, Holds.intro e rfl⟩
  dsimp only [lex_lower] at hr
  change wpCode _ _ _ _ _ ⟨[(0, .cv (.val (.int .i64 r)))], h.on []⟩
  refine w_seq ?_
  refine A_region ?_
  refine w_n ?_
  refine w_joinR (sj := ⟨[(2, .cv (.val (.bool ((decide (r ≥ (97 : Int))) && (decide (r ≤ (122 : Int)))))))], h.on []⟩) (A_ops ?_) ?_
  · refine A_upto 3 ?_
    rcases Bool.eq_false_or_eq_true (decide (r ≥ (97 : Int))) with cF1 | cF1
    · refine A_ops_end ?_
      exact w_k (A_cut hwf)
    · refine A_ops_end ?_
      exact w_k (A_cut hwf)
  refine w_ret ?_
  obtain rfl := hD _ hr
  exact (A_endR (A_cut (os' := []) (sl := [(2, .cv (.val (.bool ((decide (r ≥ (97 : Int))) && (decide (r ≤ (122 : Int)))))))]) hwf) ⟨rfl, on_nil hwf⟩)
end Go.Val

/- part IW83 -/
/- (*scansion/lex.reader).token$1 runs as it is read off. -/
namespace Go.Val
set_option linter.unusedVariables false
set_option linter.unusedSimpArgs false
set_option maxRecDepth 20000
open Go.Proofs
theorem lex_reader_token_1_runs (n : Int) {h : Heap} {a : Bool} (e : lex_reader_token_1 n = some a) :
    Runs CT 83 [.cv (.val (.int .i64 n))] h fun o h' => o = [.cv (.val (.bool a))] ∧ h' = h := by
  refine Runs.start Try.f83 _ Try.func83 rfl (by rw [Try.ntmps83]; simp) (by rfl) (by rfl) (fun hwf hu => ?_)
  obtain ⟨D, hD, hr⟩ : ∃ D : Bool → Prop, (∀ z, D z → z = a) ∧ Holds (lex_reader_token_1 n) D := ⟨fun z => z = a, fun _ h => h, Holds.intro e rfl⟩
  dsimp only [lex_reader_token_1] at hr
  change wpCode _ _ _ _ _ ⟨[(0, .cv (.val (.int .i64 n)))], h.on []⟩
  refine w_seq ?_
  refine A_region ?_
  refine w_n ?_
  obtain ⟨v, vF5, hr⟩ := hr.bind
  refine w_joinR (sj := ⟨[(2, .cv (.val (.bool v)))], h.on []⟩) (A_ops ?_) ?_
  · have hr := Holds.intro (D := fun z => z = v) vF5 rfl
    refine A_upto 1 ?_
    obtain ⟨r, eF1, hr⟩ := hr.bind
    refine A_call (out := ?o_eF1) (hp := ?p_eF1) ?c_eF1 ?d_eF1 ?_
    case c_eF1 => exact lex_lower_runs n eF1
    case d_eF1 => rfl
    refine A_upto 1 ?_
    rcases hr.ite with ⟨cF2, hr⟩ | ⟨cF2, hr⟩
    · refine A_upto 5 ?_
      refine A_off ?_
      refine A_ops_end ?_
      obtain rfl : _ = v := hr
      exact w_k (A_cut hwf)
    · refine A_upto 4 ?_
      rcases hr.ite with ⟨cF3, hr⟩ | ⟨cF3, hr⟩
      · refine A_upto 1 ?_
        refine A_off ?_
        refine A_ops_end ?_
        obtain rfl : _ = v := hr
        exact w_k (A_cut hwf)
      · refine A_upto 1 ?_
        obtain ⟨r1, eF4, hr⟩ := hr.bind
        refine w_call' (out := ?o_eF4) (hp := ?p_eF4) (by simp (disch := (apply Apart.mk; decide)) only [go_sem, Nat.reduceAdd, Nat.reduceLT, Nat.reduceMul, Nat.reduceLeDiff, Int.reduceToNat, Int.reduceLT, Int.reduceLE, Option.getD_some, cF2, cF3]) (by simp (disch := (apply Apart.mk; decide)) only [go_sem, Nat.reduceAdd, Nat.reduceLT, Nat.reduceMul, Nat.reduceLeDiff, Int.reduceToNat, Int.reduceLT, Int.reduceLE, Option.getD_some, cF2, cF3]; rfl) (by simp (disch := (apply Apart.mk; decide)) only [go_sem, Nat.reduceAdd, Nat.reduceLT, Nat.reduceMul, Nat.reduceLeDiff, Int.reduceToNat, Int.reduceLT, Int.reduceLE, Option.getD_some, cF2, cF3]; rfl) (by simp (disch := (apply Apart.mk; decide)) only [go_sem, Nat.reduceAdd, Nat.reduceLT, Nat.reduceMul, Nat.reduceLeDiff, Int.reduceToNat, Int.reduceLT, Int.reduceLE, Option.getD_some, cF2, cF3]; rfl) ?c_eF4 ?d_eF4 ?_
        case c_eF4 => exact lex_one_runs ([61, 59, 47, 124, 42, 43, 63, 40, 41, 46, 126, 38, 45] : Str) n eF4
        case d_eF4 => rfl
        refine A_ops_end ?_
        obtain rfl : _ = v := hr
        exact w_k (A_cut hwf)
  refine w_ret ?_
  obtain rfl := hD _ hr
  exact (A_endR (A_cut (os' := []) (sl := [(2, .cv (.val (.bool v)))]) hwf) ⟨rfl, on_nil hwf⟩)
end Go.Val

/- part IW129 -/
/- (*scansion/lex.reader).letter$1 runs as it is read off. -/
namespace Go.Val
set_option linter.unusedVariables false
set_option linter.unusedSimpArgs false
set_option maxRecDepth 20000
open Go.Proofs
theorem lex_reader_letter_1_runs (n : Int) {h : Heap} {a : Bool} (e : lex_reader_letter_1 n = some a) :
    Runs CT 129 [.cv (.val (.int .i64 n))] h fun o h' => o = [.cv (.val (.bool a))] ∧ h' = h := by
  refine Runs.start Try.f129 _ Try.func129 rfl (by rw [Try.ntmps129]; simp) (by rfl) (by rfl) (fun hwf hu => ?_)
  obtain ⟨D, hD, hr⟩ : ∃ D : Bool → Prop, (∀ z, D z → z = a) ∧ Holds (lex_reader_letter_1 n) D := ⟨fun z => z = a, fun _ h => h, Holds.intro e rfl⟩
  dsimp only [lex_reader_letter_1] at hr
  change wpCode _ _ _ _ _ ⟨[(0, .cv (.val (.int .i64 n)))], h.on []⟩
  refine w_seq ?_
  refine A_region ?_
  refine w_n ?_
  obtain ⟨v, vF3, hr⟩ := hr.bind
  refine w_joinR (sj := ⟨[(2, .cv (.val (.bool v)))], h.on []⟩) (A_ops ?_) ?_
  · have hr := Holds.intro (D := fun z => z = v) vF3 rfl
    refine A_upto 3 ?_
    rcases hr.ite with ⟨cF1, hr⟩ | ⟨cF1, hr⟩
    · refine A_upto 1 ?_
      obtain ⟨r, eF2, hr⟩ := hr.bind
      refine w_call' (out := ?o_eF2) (hp := ?p_eF2) (by simp (disch := (apply Apart.mk; decide)) only [go_sem, Nat.reduceAdd, Nat.reduceLT, Nat.reduceMul, Nat.reduceLeDiff, Int.reduceToNat, Int.reduceLT, Int.reduceLE, Option.getD_some, cF1]) (by simp (disch := (apply Apart.mk; decide)) only [go_sem, Nat.reduceAdd, Nat.reduceLT, Nat.reduceMul, Nat.reduceLeDiff, Int.reduceToNat, Int.reduceLT, Int.reduceLE, Option.getD_some, cF1]; rfl) (by simp (disch := (apply Apart.mk; decide)) only [go_sem, Nat.reduceAdd, Nat.reduceLT, Nat.reduceMul, Nat.reduceLeDiff, Int.reduceToNat, Int.reduceLT, Int.reduceLE, Option.getD_some, cF1]; rfl) (by simp (disch := (apply Apart.mk; decide)) only [go_sem, Nat.reduceAdd, Nat.reduceLT, Nat.reduceMul, Nat.reduceLeDiff, Int.reduceToNat, Int.reduceLT, Int.reduceLE, Option.getD_some, cF1]; rfl) ?c_eF2 ?d_eF2 ?_
      case c_eF2 => exact lex_one_runs ([91, 93, 45] : Str) n eF2
      case d_eF2 => rfl
      refine A_ops_end ?_
      obtain rfl : _ = v := hr
      exact w_k (A_cut hwf)
    · refine A_upto 1 ?_
      refine A_off ?_
      refine A_ops_end ?_
      obtain rfl : _ = v := hr
      exact w_k (A_cut hwf)
  refine w_ret ?_
  obtain rfl := hD _ hr
  exact (A_endR (A_cut (os' := []) (sl := [(2, .cv (.val (.bool v)))]) hwf) ⟨rfl, on_nil hwf⟩)
end Go.Val

/- part IW130 -/
/- (*scansion/lex.reader).letter$2 runs as it is read off. -/
namespace Go.Val
set_option linter.unusedVariables false
set_option linter.unusedSimpArgs false
set_option maxRecDepth 20000
open Go.Proofs
theorem lex_reader_letter_2_runs (n : Int) {h : Heap} {a : Bool} (e : lex_reader_letter_2 n = some a) :
    Runs CT 130 [.cv (.val (.int .i64 n))] h fun o h' => o = [.cv (.val (.bool a))] ∧ h' = h := by
  refine Runs.start Try.f130 _ Try.func130 rfl (by rw [Try.ntmps130]; simp) (by rfl) (by rfl) (fun hwf hu => ?_)
  obtain ⟨D, hD, hr⟩ : ∃ D : Bool → Prop, (∀ z, D z → z = a) ∧ Holds (lex_reader_letter_2 n) D := ⟨fun z => z = a, fun _ h => h, Holds.intro e rfl⟩
  dsimp only [lex_reader_letter_2] at hr
  change wpCode _ _ _ _ _ ⟨[(0, .cv (.val (.int .i64 n)))], h.on []⟩
  refine w_seq ?_
  refine A_region ?_
  refine w_n ?_
  obtain ⟨v, vF3, hr⟩ := hr.bind
  refine w_joinR (sj := ⟨[(2, .cv (.val (.bool v)))], h.on []⟩) (A_ops ?_) ?_
  · have hr := Holds.intro (D := fun z => z = v) vF3 rfl
    refine A_upto 3 ?_
    rcases hr.ite with ⟨cF1, hr⟩ | ⟨cF1, hr⟩
    · refine A_upto 1 ?_
      refine A_off ?_
      refine A_ops_end ?_
      obtain rfl : _ = v := hr
      exact w_k (A_cut hwf)
    · refine A_upto 1 ?_
      obtain ⟨r, eF2, hr⟩ := hr.bind
      refine w_call' (out := ?o_eF2) (hp := ?p_eF2) (by simp (disch := (apply Apart.mk; decide)) only [go_sem, Nat.reduceAdd, Nat.reduceLT, Nat.reduceMul, Nat.reduceLeDiff, Int.reduceToNat, Int.reduceLT, Int.reduceLE, Option.getD_some, cF1]) (by simp (disch := (apply Apart.mk; decide)) only [go_sem, Nat.reduceAdd, Nat.reduceLT, Nat.reduceMul, Nat.reduceLeDiff, Int.reduceToNat, Int.reduceLT, Int.reduceLE, Option.getD_some, cF1]; rfl) (by simp (disch := (apply Apart.mk; decide)) only [go_sem, Nat.reduceAdd, Nat.reduceLT, Nat.reduceMul, Nat.reduceLeDiff, Int.reduceToNat, Int.reduceLT, Int.reduceLE, Option.getD_some, cF1]; rfl) (by simp (disch := (apply Apart.mk; decide)) only [go_sem, Nat.reduceAdd, Nat.reduceLT, Nat.reduceMul, Nat.reduceLeDiff, Int.reduceToNat, Int.reduceLT, Int.reduceLE, Option.getD_some, cF1]; rfl) ?c_eF2 ?d_eF2 ?_
      case c_eF2 => exact lex_one_runs ([91, 93, 45, 92] : Str) n eF2
      case d_eF2 => rfl
      refine A_ops_end ?_
      obtain rfl : _ = v := hr
      exact w_k (A_cut hwf)
  refine w_ret ?_
  obtain rfl := hD _ hr
  exact (A_endR (A_cut (os' := []) (sl := [(2, .cv (.val (.bool v)))]) hwf) ⟨rfl, on_nil hwf⟩)
end Go.Val

/- part IW153 -/
/- (*scansion/lex.reader).number$1 runs as it is read off. -/
namespace Go.Val
set_option linter.unusedVariables false
set_option linter.unusedSimpArgs false
set_option maxRecDepth 20000
open Go.Proofs
theorem lex_reader_number_1_runs (n : Int) {h : Heap} {a : Bool} (e : lex_reader_number_1 n = some a) :
    Runs CT 153 [.cv (.val (.int .i64 n))] h fun o h' => o = [.cv (.val (.bool a))] ∧ h' = h := by
  refine Runs.start Try.f153 _ Try.func153 rfl (by rw [Try.ntmps153]; simp) (by rfl) (by rfl) (fun hwf hu => ?_)
  obtain ⟨D, hD, hr⟩ : ∃ D : Bool → Prop, (∀ z, D z → z = a) ∧ Holds (lex_reader_number_1 n) D := ⟨fun z => z = a, fun _ h => h, Holds.intro e rfl⟩
  dsimp only [lex_reader_number_1] at hr
  change wpCode _ _ _ _ _ ⟨[(0, .cv (.val (.int .i64 n)))], h.on []⟩
  refine w_seq ?_
  refine A_region ?_
  refine w_n ?_
  refine w_seq ?_
  refine A_region ?_
  refine w_n ?_
  refine w_ret ?_
  obtain rfl := hD _ hr
  exact (A_endR (A_cut (os' := []) (sl := [(2, .cv (.val (.bool (n == (123 : Int)))))]) hwf) ⟨rfl, on_nil hwf⟩)
end Go.Val

/- part IW154 -/
/- (*scansion/lex.reader).number$2 runs as it is read off. -/
namespace Go.Val
set_option linter.unusedVariables false
set_option linter.unusedSimpArgs false
set_option maxRecDepth 20000
open Go.Proofs
theorem lex_reader_number_2_runs (n : Int) {h : Heap} {a : Bool} (e : lex_reader_number_2 n = some a) :
    Runs CT 154 [.cv (.val (.int .i64 n))] h fun o h' => o = [.cv (.val (.bool a))] ∧ h' = h := by
  refine Runs.start Try.f154 _ Try.func154 rfl (by rw [Try.ntmps154]; simp) (by rfl) (by rfl) (fun hwf hu => ?_)
  obtain ⟨D, hD, hr⟩ : ∃ D : Bool → Prop, (∀ z, D z → z = a) ∧ Holds (lex_reader_number_2 n) D := ⟨fun z => z = a, fun _ h => h, Holds.intro e rfl⟩
  dsimp only [lex_reader_number_2] at hr
  change wpCode _ _ _ _ _ ⟨[(0, .cv (.val (.int .i64 n)))], h.on []⟩
  refine w_seq ?_
  refine A_region ?_
  refine w_n ?_
  refine w_joinR (sj := ⟨[(2, .cv (.val (.bool (bif (decide (n ≥ (48 : Int))) then ((decide (n ≤ (57 : Int))) || ((decide (n ≥ (65 : Int))) && (decide (n ≤ (70 : Int))))) else ((decide (n ≥ (65 : Int))) && (decide (n ≤ (70 : Int))))))))], h.on []⟩) (A_ops ?_) ?_
  · refine A_upto 3 ?_
    rcases Bool.eq_false_or_eq_true (decide (n ≥ (48 : Int))) with cF1 | cF1
    · refine A_upto 4 ?_
      rcases Bool.eq_false_or_eq_true (decide (n ≤ (57 : Int))) with cF2 | cF2
      · refine A_ops_end ?_
        exact w_k (A_cut hwf)
      · refine A_upto 3 ?_
        rcases Bool.eq_false_or_eq_true (decide (n ≥ (65 : Int))) with cF3 | cF3
        · refine A_ops_end ?_
          exact w_k (A_cut hwf)
        · refine A_ops_end ?_
          exact w_k (A_cut hwf)
    · refine A_upto 7 ?_
      rcases Bool.eq_false_or_eq_true (decide (n ≥ (65 : Int))) with cF4 | cF4
      · refine A_ops_end ?_
        exact w_k (A_cut hwf)
      · refine A_ops_end ?_
        exact w_k (A_cut hwf)
  refine w_ret ?_
  obtain rfl := hD _ hr
  exact (A_endR (A_cut (os' := []) (sl := [(2, .cv (.val (.bool (bif (decide (n ≥ (48 : Int))) then ((decide (n ≤ (57 : Int))) || ((decide (n ≥ (65 : Int))) && (decide (n ≤ (70 : Int))))) else ((decide (n ≥ (65 : Int))) && (decide (n ≤ (70 : Int))))))))]) hwf) ⟨rfl, on_nil hwf⟩)
end Go.Val

/- part IW155 -/
/- (*scansion/lex.reader).number$3 runs as it is read off. -/
namespace Go.Val
set_option linter.unusedVariables false
set_option linter.unusedSimpArgs false
set_option maxRecDepth 20000
open Go.Proofs
theorem lex_reader_number_3_runs (n : Int) {h : Heap} {a : Bool} (e : lex_reader_number_3 n = some a) :
    Runs CT 155 [.cv (.val (.int .i64 n))] h fun o h' => o = [.cv (.val (.bool a))] ∧ h' = h := by
  refine Runs.start Try.f155 _ Try.func155 rfl (by rw [Try.ntmps155]; simp) (by rfl) (by rfl) (fun hwf hu => ?_)
  obtain ⟨D, hD, hr⟩ : ∃ D : Bool → Prop, (∀ z, D z → z = a) ∧ Holds (lex_reader_number_3 n) D := ⟨fun z => z = a, fun _ h => h, Holds.intro e rfl⟩
  dsimp only [lex_reader_number_3] at hr
  change wpCode _ _ _ _ _ ⟨[(0, .cv (.val (.int .i64 n)))], h.on []⟩
  refine w_seq ?_
  refine A_region ?_
  refine w_n ?_
  refine w_seq ?_
  refine A_region ?_
  refine w_n ?_
  refine w_ret ?_
  obtain rfl := hD _ hr
  exact (A_endR (A_cut (os' := []) (sl := [(2, .cv (.val (.bool (n == (125 : Int)))))]) hwf) ⟨rfl, on_nil hwf⟩)
end Go.Val

/- part IW131 -/
/- (*scansion/lex.reader).number runs as it is read off. -/
namespace Go.Val
set_option linter.unusedVariables false
set_option linter.unusedSimpArgs false
set_option maxRecDepth 20000
open Go.Proofs
theorem lex_reader_number_runs (r : Tlex_reader) (l0 : Nat) {h : Heap} (ha0 : h.at_ l0 = some (.cells [.val (.sl (List.map eUnit r.units)), .val (.int .i64 r.place), .val (.int .i64 r.whole), .val (.int .i64 r.fault)])) {a : (Int × Tlex_reader)} (e : lex_reader_number r = some a) :
    Runs CT 131 [.cv (.val (.ptr (some (l0, 0))))] h fun o h' => o = [.cv (.val (.int .i64 a.1))] ∧ h' = (h.upd l0 (.cells [.val (.sl (List.map eUnit a.2.units)), .val (.int .i64 a.2.place), .val (.int .i64 a.2.whole), .val (.int .i64 a.2.fault)])) := by
  refine Runs.start Try.f131 _ Try.func131 rfl (by rw [Try.ntmps131]; simp) (by rfl) (by rfl) (fun hwf hu => ?_)
  have hl0 := (hwf _ _ ha0).1
  have kl0 := locF hl0
  obtain ⟨D, hD, hr⟩ : ∃ D : (Int × Tlex_reader) → Prop, (∀ z, D z → z = a) ∧ Holds (lex_reader_number r) D := ⟨fun z => z = a, fun _ h => h, Holds.intro e rfl⟩
  dsimp only [lex_reader_number] at hr
  change wpCode _ _ _ _ _ ⟨[(0, .cv (.val (.ptr (some (l0, 0)))))], h.on []⟩
  refine w_seq ?_
  refine w_region rfl (by simp (disch := (apply Apart.mk; decide)) only [go_sem, Nat.reduceAdd, Nat.reduceLT, Nat.reduceMul, Nat.reduceLeDiff, Int.reduceToNat, Int.reduceLT, Int.reduceLE, ha0, on_atB hl0, lt_add hl0, lt_at hl0, on_updB hl0, on_atU hl0, on_updU hl0, upd_same ha0]; rfl) ?_
  refine w_n ?_
  refine w_seq ?_
  refine A_ops ?_
  refine w_upto 1 rfl (by simp (disch := (apply Apart.mk; decide)) only [go_sem, Nat.reduceAdd, Nat.reduceLT, Nat.reduceMul, Nat.reduceLeDiff, Int.reduceToNat, Int.reduceLT, Int.reduceLE, ha0, on_atB hl0, lt_add hl0, lt_at hl0, on_updB hl0, on_atU hl0, on_updU hl0, upd_same ha0]; rfl) ?_
  obtain ⟨r1, eF1, hr⟩ := hr.bind
  refine w_call' (out := ?o_eF1) (hp := ?p_eF1) rfl (by simp (disch := (apply Apart.mk; decide)) only [go_sem, Nat.reduceAdd, Nat.reduceLT, Nat.reduceMul, Nat.reduceLeDiff, Int.reduceToNat, Int.reduceLT, Int.reduceLE, ha0, on_atB hl0, lt_add hl0, lt_at hl0, on_updB hl0, on_atU hl0, on_updU hl0, upd_same ha0, Option.getD_some]; rfl) (by simp (disch := (apply Apart.mk; decide)) only [go_sem, Nat.reduceAdd, Nat.reduceLT, Nat.reduceMul, Nat.reduceLeDiff, Int.reduceToNat, Int.reduceLT, Int.reduceLE, ha0, on_atB hl0, lt_add hl0, lt_at hl0, on_updB hl0, on_atU hl0, on_updU hl0, upd_same ha0, Option.getD_some]; rfl) (by simp (disch := (apply Apart.mk; decide)) only [go_sem, Nat.reduceAdd, Nat.reduceLT, Nat.reduceMul, Nat.reduceLeDiff, Int.reduceToNat, Int.reduceLT, Int.reduceLE, ha0, on_atB hl0, lt_add hl0, lt_at hl0, on_updB hl0, on_atU hl0, on_updU hl0, upd_same ha0, Option.getD_some]; rfl) ?c_eF1 ?d_eF1 ?_
  case c_eF1 => (refine lex_reader_take_runs r (lex_reader_number_1) (l0) _ _ ?_ ?_ ?_ eF1; (exact (fun os x0 r e => lex_reader_number_1_runs x0 e)); (exact (fun i => by simp [CT])); (simp (disch := (apply Apart.mk; decide)) only [go_sem, Nat.reduceAdd, Nat.reduceLT, Nat.reduceMul, Nat.reduceLeDiff, Int.reduceToNat, Int.reduceLT, Int.reduceLE, ha0, on_atB hl0, lt_add hl0, lt_at hl0, on_updB hl0, on_atU hl0, on_updU hl0, upd_same ha0]))
  case d_eF1 => rfl
  refine w_ops_nil ?_
  refine w_n ?_
  refine w_seq ?_
  refine w_region rfl (by simp (disch := (apply Apart.mk; decide)) only [go_sem, Nat.reduceAdd, Nat.reduceLT, Nat.reduceMul, Nat.reduceLeDiff, Int.reduceToNat, Int.reduceLT, Int.reduceLE, ha0, on_atB hl0, lt_add hl0, lt_at hl0, on_updB hl0, on_atU hl0, on_updU hl0, upd_same ha0]; rfl) ?_
  refine w_n ?_
  refine w_seq ?_
  refine w_region rfl (by simp (disch := (apply Apart.mk; decide)) only [go_sem, Nat.reduceAdd, Nat.reduceLT, Nat.reduceMul, Nat.reduceLeDiff, Int.reduceToNat, Int.reduceLT, Int.reduceLE, ha0, on_atB hl0, lt_add hl0, lt_at hl0, on_updB hl0, on_atU hl0, on_updU hl0, upd_same ha0]; rfl) ?_
  refine w_n ?_
  refine w_seq ?_
  refine w_seq ?_
  refine w_region rfl (by simp (disch := (apply Apart.mk; decide)) only [go_sem, Nat.reduceAdd, Nat.reduceLT, Nat.reduceMul, Nat.reduceLeDiff, Int.reduceToNat, Int.reduceLT, Int.reduceLE, ha0, on_atB hl0, lt_add hl0, lt_at hl0, on_updB hl0, on_atU hl0, on_updU hl0, upd_same ha0]; rfl) ?_
  refine w_n ?_
  refine w_K (D := D) (fun xX : (Int × List TUnit × Int × Int × Int) => ⟨[(0, .cv (.val (.ptr (some (l0, 0))))), (3, .cv (.val (.int .i64 xX.1)))], (h.upd l0 (.cells [.val (.sl (List.map eUnit xX.2.1)), .val (.int .i64 xX.2.2.1), .val (.int .i64 xX.2.2.2.1), .val (.int .i64 xX.2.2.2.2)])).on []⟩) (fun xX : (Int × List TUnit × Int × Int × Int) => lex_reader_number.k1 xX.1 xX.2.1 xX.2.2.1 xX.2.2.2.1 xX.2.2.2.2) (fun xX s' hr ht => ?_) ?_
  · obtain ⟨out, units, place, whole, fault⟩ := xX
    dsimp only [lex_reader_number.k1] at hr ht
    refine (w_nT ht ?_)
    refine w_seq ?_
    refine A_ops ?_
    refine w_upto 1 rfl (by simp (disch := (apply Apart.mk; decide)) only [go_sem, Nat.reduceAdd, Nat.reduceLT, Nat.reduceMul, Nat.reduceLeDiff, Int.reduceToNat, Int.reduceLT, Int.reduceLE, ha0, on_atB hl0, lt_add hl0, lt_at hl0, on_updB hl0, on_atU hl0, on_updU hl0, upd_same ha0]; rfl) ?_
    obtain ⟨r2, eF2, hr⟩ := hr.bind
    refine w_call' (out := ?o_eF2) (hp := ?p_eF2) rfl (by simp (disch := (apply Apart.mk; decide)) only [go_sem, Nat.reduceAdd, Nat.reduceLT, Nat.reduceMul, Nat.reduceLeDiff, Int.reduceToNat, Int.reduceLT, Int.reduceLE, ha0, on_atB hl0, lt_add hl0, lt_at hl0, on_updB hl0, on_atU hl0, on_updU hl0, upd_same ha0, Option.getD_some]; rfl) (by simp (disch := (apply Apart.mk; decide)) only [go_sem, Nat.reduceAdd, Nat.reduceLT, Nat.reduceMul, Nat.reduceLeDiff, Int.reduceToNat, Int.reduceLT, Int.reduceLE, ha0, on_atB hl0, lt_add hl0, lt_at hl0, on_updB hl0, on_atU hl0, on_updU hl0, upd_same ha0, Option.getD_some]; rfl) (by simp (disch := (apply Apart.mk; decide)) only [go_sem, Nat.reduceAdd, Nat.reduceLT, Nat.reduceMul, Nat.reduceLeDiff, Int.reduceToNat, Int.reduceLT, Int.reduceLE, ha0, on_atB hl0, lt_add hl0, lt_at hl0, on_updB hl0, on_atU hl0, on_updU hl0, upd_same ha0, Option.getD_some]; rfl) ?c_eF2 ?d_eF2 ?_
    case c_eF2 => (refine lex_reader_take_runs (Tlex_reader.mk units place whole fault) (lex_reader_number_3) (l0) _ _ ?_ ?_ ?_ eF2; (exact (fun os x0 r e => lex_reader_number_3_runs x0 e)); (exact (fun i => by simp [CT])); (simp (disch := (apply Apart.mk; decide)) only [go_sem, Nat.reduceAdd, Nat.reduceLT, Nat.reduceMul, Nat.reduceLeDiff, Int.reduceToNat, Int.reduceLT, Int.reduceLE, ha0, on_atB hl0, lt_add hl0, lt_at hl0, on_updB hl0, on_atU hl0, on_updU hl0, upd_same ha0]))
    case d_eF2 => rfl
    refine w_ops_nil ?_
    refine w_n ?_
    refine w_seq ?_
    refine w_region rfl (by simp (disch := (apply Apart.mk; decide)) only [go_sem, Nat.reduceAdd, Nat.reduceLT, Nat.reduceMul, Nat.reduceLeDiff, Int.reduceToNat, Int.reduceLT, Int.reduceLE, ha0, on_atB hl0, lt_add hl0, lt_at hl0, on_updB hl0, on_atU hl0, on_updU hl0, upd_same ha0]; rfl) ?_
    refine w_n ?_
    refine w_ret ?_
    obtain rfl := hD _ hr
    exact (w_endR (To.cut (os' := []) (sl := [(2, .cv (.val (.int .i64 out)))]) (h := (h.upd l0 (.cells [.val (.sl (List.map eUnit r2.2.units)), .val (.int .i64 r2.2.place), .val (.int .i64 r2.2.whole), .val (.int .i64 r2.2.fault)]))) (WF.upd hwf hl0 (by simp (disch := (apply Apart.mk; decide)) only [go_sem, Nat.reduceAdd, Nat.reduceLT, Nat.reduceMul, Nat.reduceLeDiff, Int.reduceToNat, Int.reduceLT, Int.reduceLE, ha0, on_atB hl0, lt_add hl0, lt_at hl0, on_updB hl0, on_atU hl0, on_updU hl0, upd_same ha0])) (Nat.le_refl _) (by first | rfl | (simp (disch := (apply Apart.mk; decide)) only [go_sem, Nat.reduceAdd, Nat.reduceLT, Nat.reduceMul, Nat.reduceLeDiff, Int.reduceToNat, Int.reduceLT, Int.reduceLE, ha0, on_atB hl0, lt_add hl0, lt_at hl0, on_updB hl0, on_atU hl0, on_updU hl0, upd_same ha0]; rfl)) (by simp (disch := (apply Apart.mk; decide)) only [go_sem, Nat.reduceAdd, Nat.reduceLT, Nat.reduceMul, Nat.reduceLeDiff, Int.reduceToNat, Int.reduceLT, Int.reduceLE, ha0, on_atB hl0, lt_add hl0, lt_at hl0, on_updB hl0, on_atU hl0, on_updU hl0, upd_same ha0])) (by simp (disch := (apply Apart.mk; decide)) only [go_sem, Nat.reduceAdd, Nat.reduceLT, Nat.reduceMul, Nat.reduceLeDiff, Int.reduceToNat, Int.reduceLT, Int.reduceLE, ha0, on_atB hl0, lt_add hl0, lt_at hl0, on_updB hl0, on_atU hl0, on_updU hl0, upd_same ha0, Try.results131, results_data CT_gives131, resCell, resVal.eq_2, loadOp_sv]) ⟨rfl, on_nil (h := (h.upd l0 (.cells [.val (.sl (List.map eUnit r2.2.units)), .val (.int .i64 r2.2.place), .val (.int .i64 r2.2.whole), .val (.int .i64 r2.2.fault)]))) (WF.upd hwf hl0 (by simp (disch := (apply Apart.mk; decide)) only [go_sem, Nat.reduceAdd, Nat.reduceLT, Nat.reduceMul, Nat.reduceLeDiff, Int.reduceToNat, Int.reduceLT, Int.reduceLE, ha0, on_atB hl0, lt_add hl0, lt_at hl0, on_updB hl0, on_atU hl0, on_updU hl0, upd_same ha0]))⟩)
  · refine w_block ?_
    refine w_Loop (fun xX : (Int × Int × List TUnit × Int × Int × Int) => ⟨[(0, .cv (.val (.ptr (some (l0, 0))))), (3, .cv (.val (.int .i64 xX.1))), (4, .cv (.val (.fn 154 [] []))), (5, .cv (.val (.int .i64 xX.2.1)))], (h.upd l0 (.cells [.val (.sl (List.map eUnit xX.2.2.1)), .val (.int .i64 xX.2.2.2.1), .val (.int .i64 xX.2.2.2.2.1), .val (.int .i64 xX.2.2.2.2.2)])).on []⟩) hr (To.cut (h := (h.upd l0 (.cells [.val (.sl (List.map eUnit r1.2.units)), .val (.int .i64 r1.2.place), .val (.int .i64 r1.2.whole), .val (.int .i64 r1.2.fault)]))) (WF.upd hwf hl0 (by simp (disch := (apply Apart.mk; decide)) only [go_sem, Nat.reduceAdd, Nat.reduceLT, Nat.reduceMul, Nat.reduceLeDiff, Int.reduceToNat, Int.reduceLT, Int.reduceLE, ha0, on_atB hl0, lt_add hl0, lt_at hl0, on_updB hl0, on_atU hl0, on_updU hl0, upd_same ha0])) (Nat.le_refl _) (by first | rfl | (simp (disch := (apply Apart.mk; decide)) only [go_sem, Nat.reduceAdd, Nat.reduceLT, Nat.reduceMul, Nat.reduceLeDiff, Int.reduceToNat, Int.reduceLT, Int.reduceLE, ha0, on_atB hl0, lt_add hl0, lt_at hl0, on_updB hl0, on_atU hl0, on_updU hl0, upd_same ha0]; rfl)) (by simp (disch := (apply Apart.mk; decide)) only [go_sem, Nat.reduceAdd, Nat.reduceLT, Nat.reduceMul, Nat.reduceLeDiff, Int.reduceToNat, Int.reduceLT, Int.reduceLE, ha0, on_atB hl0, lt_add hl0, lt_at hl0, on_updB hl0, on_atU hl0, on_updU hl0, upd_same ha0])) (fun W1 xX hr => ?_)
    obtain ⟨out1, i, units1, place1, whole1, fault1⟩ := xX
    dsimp only [lex_reader_number.b1] at hr
    refine w_seq ?_
    obtain ⟨v, vF7, hr⟩ := hr.bind
    refine w_joinR (sj := ⟨[(0, .cv (.val (.ptr (some (l0, 0))))), (3, .cv (.val (.int .i64 out1))), (4, .cv (.val (.fn 154 [] []))), (5, .cv (.val (.int .i64 i))), (20, .cv (.val (.bool v)))], (h.upd l0 (.cells [.val (.sl (List.map eUnit units1)), .val (.int .i64 place1), .val (.int .i64 whole1), .val (.int .i64 fault1)])).on []⟩) (A_ops ?_) ?_
    · have hr := Holds.intro (D := fun z => z = v) vF7 rfl
      refine w_upto 3 rfl (by simp (disch := (apply Apart.mk; decide)) only [go_sem, Nat.reduceAdd, Nat.reduceLT, Nat.reduceMul, Nat.reduceLeDiff, Int.reduceToNat, Int.reduceLT, Int.reduceLE, ha0, on_atB hl0, lt_add hl0, lt_at hl0, on_updB hl0, on_atU hl0, on_updU hl0, upd_same ha0]; rfl) ?_
      rcases hr.ite with ⟨cF3, hr⟩ | ⟨cF3, hr⟩
      · refine w_upto 3 rfl (by simp (disch := (apply Apart.mk; decide)) only [go_sem, Nat.reduceAdd, Nat.reduceLT, Nat.reduceMul, Nat.reduceLeDiff, Int.reduceToNat, Int.reduceLT, Int.reduceLE, ha0, on_atB hl0, lt_add hl0, lt_at hl0, on_updB hl0, on_atU hl0, on_updU hl0, upd_same ha0, cF3]; rfl) ?_
        rcases hr.ite with ⟨cF4, hr⟩ | ⟨cF4, hr⟩
        · refine w_upto 2 rfl (by simp (disch := (apply Apart.mk; decide)) only [go_sem, Nat.reduceAdd, Nat.reduceLT, Nat.reduceMul, Nat.reduceLeDiff, Int.reduceToNat, Int.reduceLT, Int.reduceLE, ha0, on_atB hl0, lt_add hl0, lt_at hl0, on_updB hl0, on_atU hl0, on_updU hl0, upd_same ha0, cF3, cF4]; rfl) ?_
          refine w_off (by simp (disch := (apply Apart.mk; decide)) only [go_sem, Nat.reduceAdd, Nat.reduceLT, Nat.reduceMul, Nat.reduceLeDiff, Int.reduceToNat, Int.reduceLT, Int.reduceLE, ha0, on_atB hl0, lt_add hl0, lt_at hl0, on_updB hl0, on_atU hl0, on_updU hl0, upd_same ha0, cF3, cF4]) ?_
          refine w_off (by simp (disch := (apply Apart.mk; decide)) only [go_sem, Nat.reduceAdd, Nat.reduceLT, Nat.reduceMul, Nat.reduceLeDiff, Int.reduceToNat, Int.reduceLT, Int.reduceLE, ha0, on_atB hl0, lt_add hl0, lt_at hl0, on_updB hl0, on_atU hl0, on_updU hl0, upd_same ha0, cF3, cF4]) ?_
          refine w_ops_end (by simp (disch := (apply Apart.mk; decide)) only [go_sem, Nat.reduceAdd, Nat.reduceLT, Nat.reduceMul, Nat.reduceLeDiff, Int.reduceToNat, Int.reduceLT, Int.reduceLE, ha0, on_atB hl0, lt_add hl0, lt_at hl0, on_updB hl0, on_atU hl0, on_updU hl0, upd_same ha0, cF3, cF4]; rfl) ?_
          obtain rfl : _ = v := hr
          exact w_k (To.cut (h := (h.upd l0 (.cells [.val (.sl (List.map eUnit units1)), .val (.int .i64 place1), .val (.int .i64 whole1), .val (.int .i64 fault1)]))) (WF.upd hwf hl0 (by simp (disch := (apply Apart.mk; decide)) only [go_sem, Nat.reduceAdd, Nat.reduceLT, Nat.reduceMul, Nat.reduceLeDiff, Int.reduceToNat, Int.reduceLT, Int.reduceLE, ha0, on_atB hl0, lt_add hl0, lt_at hl0, on_updB hl0, on_atU hl0, on_updU hl0, upd_same ha0])) (Nat.le_refl _) (by first | rfl | (simp (disch := (apply Apart.mk; decide)) only [go_sem, Nat.reduceAdd, Nat.reduceLT, Nat.reduceMul, Nat.reduceLeDiff, Int.reduceToNat, Int.reduceLT, Int.reduceLE, ha0, on_atB hl0, lt_add hl0, lt_at hl0, on_updB hl0, on_atU hl0, on_updU hl0, upd_same ha0, cF3, cF4]; rfl)) (by simp (disch := (apply Apart.mk; decide)) only [go_sem, Nat.reduceAdd, Nat.reduceLT, Nat.reduceMul, Nat.reduceLeDiff, Int.reduceToNat, Int.reduceLT, Int.reduceLE, ha0, on_atB hl0, lt_add hl0, lt_at hl0, on_updB hl0, on_atU hl0, on_updU hl0, upd_same ha0, cF3, cF4]))
        · refine w_upto 2 rfl (by simp (disch := (apply Apart.mk; decide)) only [go_sem, Nat.reduceAdd, Nat.reduceLT, Nat.reduceMul, Nat.reduceLeDiff, Int.reduceToNat, Int.reduceLT, Int.reduceLE, ha0, on_atB hl0, lt_add hl0, lt_at hl0, on_updB hl0, on_atU hl0, on_updU hl0, upd_same ha0, cF3, cF4]; rfl) ?_
          obtain ⟨r3, eF5, hr⟩ := hr.bind
          refine w_call' (out := ?o_eF5) (hp := ?p_eF5) (by simp (disch := (apply Apart.mk; decide)) only [go_sem, Nat.reduceAdd, Nat.reduceLT, Nat.reduceMul, Nat.reduceLeDiff, Int.reduceToNat, Int.reduceLT, Int.reduceLE, ha0, on_atB hl0, lt_add hl0, lt_at hl0, on_updB hl0, on_atU hl0, on_updU hl0, upd_same ha0, Option.getD_some, cF3, cF4]) (by simp (disch := (apply Apart.mk; decide)) only [go_sem, Nat.reduceAdd, Nat.reduceLT, Nat.reduceMul, Nat.reduceLeDiff, Int.reduceToNat, Int.reduceLT, Int.reduceLE, ha0, on_atB hl0, lt_add hl0, lt_at hl0, on_updB hl0, on_atU hl0, on_updU hl0, upd_same ha0, Option.getD_some, cF3, cF4]; rfl) (by simp (disch := (apply Apart.mk; decide)) only [go_sem, Nat.reduceAdd, Nat.reduceLT, Nat.reduceMul, Nat.reduceLeDiff, Int.reduceToNat, Int.reduceLT, Int.reduceLE, ha0, on_atB hl0, lt_add hl0, lt_at hl0, on_updB hl0, on_atU hl0, on_updU hl0, upd_same ha0, Option.getD_some, cF3, cF4]; rfl) (by simp (disch := (apply Apart.mk; decide)) only [go_sem, Nat.reduceAdd, Nat.reduceLT, Nat.reduceMul, Nat.reduceLeDiff, Int.reduceToNat, Int.reduceLT, Int.reduceLE, ha0, on_atB hl0, lt_add hl0, lt_at hl0, on_updB hl0, on_atU hl0, on_updU hl0, upd_same ha0, Option.getD_some, cF3, cF4]; rfl) ?c_eF5 ?d_eF5 ?_
          case c_eF5 => (refine lex_reader_now_runs (Tlex_reader.mk units1 place1 whole1 fault1) (l0) ?_ eF5; (simp (disch := (apply Apart.mk; decide)) only [go_sem, Nat.reduceAdd, Nat.reduceLT, Nat.reduceMul, Nat.reduceLeDiff, Int.reduceToNat, Int.reduceLT, Int.reduceLE, ha0, on_atB hl0, lt_add hl0, lt_at hl0, on_updB hl0, on_atU hl0, on_updU hl0, upd_same ha0]))
          case d_eF5 => rfl
          obtain ⟨r4, eF6, hr⟩ := hr.bind
          refine w_call' (out := ?o_eF6) (hp := ?p_eF6) (by simp (disch := (apply Apart.mk; decide)) only [go_sem, Nat.reduceAdd, Nat.reduceLT, Nat.reduceMul, Nat.reduceLeDiff, Int.reduceToNat, Int.reduceLT, Int.reduceLE, ha0, on_atB hl0, lt_add hl0, lt_at hl0, on_updB hl0, on_atU hl0, on_updU hl0, upd_same ha0, Option.getD_some, cF3, cF4]) (by simp (disch := (apply Apart.mk; decide)) only [go_sem, Nat.reduceAdd, Nat.reduceLT, Nat.reduceMul, Nat.reduceLeDiff, Int.reduceToNat, Int.reduceLT, Int.reduceLE, ha0, on_atB hl0, lt_add hl0, lt_at hl0, on_updB hl0, on_atU hl0, on_updU hl0, upd_same ha0, Option.getD_some, cF3, cF4]; rfl) (by simp (disch := (apply Apart.mk; decide)) only [go_sem, Nat.reduceAdd, Nat.reduceLT, Nat.reduceMul, Nat.reduceLeDiff, Int.reduceToNat, Int.reduceLT, Int.reduceLE, ha0, on_atB hl0, lt_add hl0, lt_at hl0, on_updB hl0, on_atU hl0, on_updU hl0, upd_same ha0, Option.getD_some, cF3, cF4]; rfl) (by simp (disch := (apply Apart.mk; decide)) only [go_sem, Nat.reduceAdd, Nat.reduceLT, Nat.reduceMul, Nat.reduceLeDiff, Int.reduceToNat, Int.reduceLT, Int.reduceLE, ha0, on_atB hl0, lt_add hl0, lt_at hl0, on_updB hl0, on_atU hl0, on_updU hl0, upd_same ha0, Option.getD_some, cF3, cF4]; rfl) ?c_eF6 ?d_eF6 ?_
          case c_eF6 => exact lex_reader_number_2_runs r3 eF6
          case d_eF6 => rfl
          refine w_ops_end (by simp (disch := (apply Apart.mk; decide)) only [go_sem, Nat.reduceAdd, Nat.reduceLT, Nat.reduceMul, Nat.reduceLeDiff, Int.reduceToNat, Int.reduceLT, Int.reduceLE, ha0, on_atB hl0, lt_add hl0, lt_at hl0, on_updB hl0, on_atU hl0, on_updU hl0, upd_same ha0, cF3, cF4]; rfl) ?_
          obtain rfl : _ = v := hr
          exact w_k (To.cut (h := (h.upd l0 (.cells [.val (.sl (List.map eUnit units1)), .val (.int .i64 place1), .val (.int .i64 whole1), .val (.int .i64 fault1)]))) (WF.upd hwf hl0 (by simp (disch := (apply Apart.mk; decide)) only [go_sem, Nat.reduceAdd, Nat.reduceLT, Nat.reduceMul, Nat.reduceLeDiff, Int.reduceToNat, Int.reduceLT, Int.reduceLE, ha0, on_atB hl0, lt_add hl0, lt_at hl0, on_updB hl0, on_atU hl0, on_updU hl0, upd_same ha0])) (Nat.le_refl _) (by first | rfl | (simp (disch := (apply Apart.mk; decide)) only [go_sem, Nat.reduceAdd, Nat.reduceLT, Nat.reduceMul, Nat.reduceLeDiff, Int.reduceToNat, Int.reduceLT, Int.reduceLE, ha0, on_atB hl0, lt_add hl0, lt_at hl0, on_updB hl0, on_atU hl0, on_updU hl0, upd_same ha0, cF3, cF4]; rfl)) (by simp (disch := (apply Apart.mk; decide)) only [go_sem, Nat.reduceAdd, Nat.reduceLT, Nat.reduceMul, Nat.reduceLeDiff, Int.reduceToNat, Int.reduceLT, Int.reduceLE, ha0, on_atB hl0, lt_add hl0, lt_at hl0, on_updB hl0, on_atU hl0, on_updU hl0, upd_same ha0, cF3, cF4]))
      · refine w_upto 5 rfl (by simp (disch := (apply Apart.mk; decide)) only [go_sem, Nat.reduceAdd, Nat.reduceLT, Nat.reduceMul, Nat.reduceLeDiff, Int.reduceToNat, Int.reduceLT, Int.reduceLE, ha0, on_atB hl0, lt_add hl0, lt_at hl0, on_updB hl0, on_atU hl0, on_updU hl0, upd_same ha0, cF3]; rfl) ?_
        refine w_off (by simp (disch := (apply Apart.mk; decide)) only [go_sem, Nat.reduceAdd, Nat.reduceLT, Nat.reduceMul, Nat.reduceLeDiff, Int.reduceToNat, Int.reduceLT, Int.reduceLE, ha0, on_atB hl0, lt_add hl0, lt_at hl0, on_updB hl0, on_atU hl0, on_updU hl0, upd_same ha0, cF3]) ?_
        refine w_off (by simp (disch := (apply Apart.mk; decide)) only [go_sem, Nat.reduceAdd, Nat.reduceLT, Nat.reduceMul, Nat.reduceLeDiff, Int.reduceToNat, Int.reduceLT, Int.reduceLE, ha0, on_atB hl0, lt_add hl0, lt_at hl0, on_updB hl0, on_atU hl0, on_updU hl0, upd_same ha0, cF3]) ?_
        refine w_ops_end (by simp (disch := (apply Apart.mk; decide)) only [go_sem, Nat.reduceAdd, Nat.reduceLT, Nat.reduceMul, Nat.reduceLeDiff, Int.reduceToNat, Int.reduceLT, Int.reduceLE, ha0, on_atB hl0, lt_add hl0, lt_at hl0, on_updB hl0, on_atU hl0, on_updU hl0, upd_same ha0, cF3]; rfl) ?_
        obtain rfl : _ = v := hr
        exact w_k (To.cut (h := (h.upd l0 (.cells [.val (.sl (List.map eUnit units1)), .val (.int .i64 place1), .val (.int .i64 whole1), .val (.int .i64 fault1)]))) (WF.upd hwf hl0 (by simp (disch := (apply Apart.mk; decide)) only [go_sem, Nat.reduceAdd, Nat.reduceLT, Nat.reduceMul, Nat.reduceLeDiff, Int.reduceToNat, Int.reduceLT, Int.reduceLE, ha0, on_atB hl0, lt_add hl0, lt_at hl0, on_updB hl0, on_atU hl0, on_updU hl0, upd_same ha0])) (Nat.le_refl _) (by first | rfl | (simp (disch := (apply Apart.mk; decide)) only [go_sem, Nat.reduceAdd, Nat.reduceLT, Nat.reduceMul, Nat.reduceLeDiff, Int.reduceToNat, Int.reduceLT, Int.reduceLE, ha0, on_atB hl0, lt_add hl0, lt_at hl0, on_updB hl0, on_atU hl0, on_updU hl0, upd_same ha0, cF3]; rfl)) (by simp (disch := (apply Apart.mk; decide)) only [go_sem, Nat.reduceAdd, Nat.reduceLT, Nat.reduceMul, Nat.reduceLeDiff, Int.reduceToNat, Int.reduceLT, Int.reduceLE, ha0, on_atB hl0, lt_add hl0, lt_at hl0, on_updB hl0, on_atU hl0, on_updU hl0, upd_same ha0, cF3]))
    refine w_condH (by simp (disch := (apply Apart.mk; decide)) only [go_sem, Nat.reduceAdd, Nat.reduceLT, Nat.reduceMul, Nat.reduceLeDiff, Int.reduceToNat, Int.reduceLT, Int.reduceLE, ha0, on_atB hl0, lt_add hl0, lt_at hl0, on_updB hl0, on_atU hl0, on_updU hl0, upd_same ha0]) hr (fun cF8 hr => ?_) (fun cF8 hr => ?_)
    · refine w_skip ?_
      refine w_n ?_
      refine w_seq ?_
      refine w_block ?_
      refine w_seq ?_
      refine A_ops ?_
      refine w_upto 2 rfl (by simp (disch := (apply Apart.mk; decide)) only [go_sem, Nat.reduceAdd, Nat.reduceLT, Nat.reduceMul, Nat.reduceLeDiff, Int.reduceToNat, Int.reduceLT, Int.reduceLE, ha0, on_atB hl0, lt_add hl0, lt_at hl0, on_updB hl0, on_atU hl0, on_updU hl0, upd_same ha0]; rfl) ?_
      obtain ⟨r5, eF9, hr⟩ := hr.bind
      refine w_call' (out := ?o_eF9) (hp := ?p_eF9) rfl (by simp (disch := (apply Apart.mk; decide)) only [go_sem, Nat.reduceAdd, Nat.reduceLT, Nat.reduceMul, Nat.reduceLeDiff, Int.reduceToNat, Int.reduceLT, Int.reduceLE, ha0, on_atB hl0, lt_add hl0, lt_at hl0, on_updB hl0, on_atU hl0, on_updU hl0, upd_same ha0, Option.getD_some]; rfl) (by simp (disch := (apply Apart.mk; decide)) only [go_sem, Nat.reduceAdd, Nat.reduceLT, Nat.reduceMul, Nat.reduceLeDiff, Int.reduceToNat, Int.reduceLT, Int.reduceLE, ha0, on_atB hl0, lt_add hl0, lt_at hl0, on_updB hl0, on_atU hl0, on_updU hl0, upd_same ha0, Option.getD_some]; rfl) (by simp (disch := (apply Apart.mk; decide)) only [go_sem, Nat.reduceAdd, Nat.reduceLT, Nat.reduceMul, Nat.reduceLeDiff, Int.reduceToNat, Int.reduceLT, Int.reduceLE, ha0, on_atB hl0, lt_add hl0, lt_at hl0, on_updB hl0, on_atU hl0, on_updU hl0, upd_same ha0, Option.getD_some]; rfl) ?c_eF9 ?d_eF9 ?_
      case c_eF9 => (refine lex_reader_take_runs (Tlex_reader.mk units1 place1 whole1 fault1) (lex_reader_number_2) (l0) _ _ ?_ ?_ ?_ eF9; (exact (fun os x0 r e => lex_reader_number_2_runs x0 e)); (exact (fun i => by simp [CT])); (simp (disch := (apply Apart.mk; decide)) only [go_sem, Nat.reduceAdd, Nat.reduceLT, Nat.reduceMul, Nat.reduceLeDiff, Int.reduceToNat, Int.reduceLT, Int.reduceLE, ha0, on_atB hl0, lt_add hl0, lt_at hl0, on_updB hl0, on_atU hl0, on_updU hl0, upd_same ha0]))
      case d_eF9 => rfl
      refine w_ops_end (by simp (disch := (apply Apart.mk; decide)) only [go_sem, Nat.reduceAdd, Nat.reduceLT, Nat.reduceMul, Nat.reduceLeDiff, Int.reduceToNat, Int.reduceLT, Int.reduceLE, ha0, on_atB hl0, lt_add hl0, lt_at hl0, on_updB hl0, on_atU hl0, on_updU hl0, upd_same ha0]; rfl) ?_
      refine w_n ?_
      refine w_seq ?_
      refine w_seq ?_
      refine w_region rfl (by simp (disch := (apply Apart.mk; decide)) only [go_sem, Nat.reduceAdd, Nat.reduceLT, Nat.reduceMul, Nat.reduceLeDiff, Int.reduceToNat, Int.reduceLT, Int.reduceLE, ha0, on_atB hl0, lt_add hl0, lt_at hl0, on_updB hl0, on_atU hl0, on_updU hl0, upd_same ha0, cF8]; rfl) ?_
      refine w_n ?_
      refine w_K (D := (Aft W1 D)) (fun xX : Int => ⟨[(0, .cv (.val (.ptr (some (l0, 0))))), (3, .cv (.val (.int .i64 out1))), (4, .cv (.val (.fn 154 [] []))), (5, .cv (.val (.int .i64 i))), (6, .cv (.val (.int .i64 xX)))], (h.upd l0 (.cells [.val (.sl (List.map eUnit r5.2.units)), .val (.int .i64 r5.2.place), .val (.int .i64 r5.2.whole), .val (.int .i64 r5.2.fault)])).on []⟩) (fun xX : Int => lex_reader_number.k2 out1 i r5 xX) (fun xX s' hr ht => ?_) ?_
      · obtain ⟨n, rfl⟩ : ∃ z, z = xX := ⟨xX, rfl⟩
        dsimp only [lex_reader_number.k2] at hr ht
        refine (w_nT ht ?_)
        refine w_region rfl (by simp (disch := (apply Apart.mk; decide)) only [go_sem, Nat.reduceAdd, Nat.reduceLT, Nat.reduceMul, Nat.reduceLeDiff, Int.reduceToNat, Int.reduceLT, Int.reduceLE, ha0, on_atB hl0, lt_add hl0, lt_at hl0, on_updB hl0, on_atU hl0, on_updU hl0, upd_same ha0, cF8]; rfl) ?_
        refine (w_bn (w_n ?_))
        refine w_region rfl (by simp (disch := (apply Apart.mk; decide)) only [go_sem, Nat.reduceAdd, Nat.reduceLT, Nat.reduceMul, Nat.reduceLeDiff, Int.reduceToNat, Int.reduceLT, Int.reduceLE, ha0, on_atB hl0, lt_add hl0, lt_at hl0, on_updB hl0, on_atU hl0, on_updU hl0, upd_same ha0, cF8]; rfl) ?_
        exact (w_k ⟨((IntKind.i64.wrap ((IntKind.i64.wrap ((IntKind.i64.wrap (out1 * (16 : Int))) + n)) - (48 : Int))), (IntKind.i64.wrap (i + (1 : Int))), r5.2.units, r5.2.place, r5.2.whole, r5.2.fault), hr, (To.cut (h := (h.upd l0 (.cells [.val (.sl (List.map eUnit r5.2.units)), .val (.int .i64 r5.2.place), .val (.int .i64 r5.2.whole), .val (.int .i64 r5.2.fault)]))) (WF.upd hwf hl0 (by simp (disch := (apply Apart.mk; decide)) only [go_sem, Nat.reduceAdd, Nat.reduceLT, Nat.reduceMul, Nat.reduceLeDiff, Int.reduceToNat, Int.reduceLT, Int.reduceLE, ha0, on_atB hl0, lt_add hl0, lt_at hl0, on_updB hl0, on_atU hl0, on_updU hl0, upd_same ha0])) (Nat.le_refl _) (by first | rfl | (simp (disch := (apply Apart.mk; decide)) only [go_sem, Nat.reduceAdd, Nat.reduceLT, Nat.reduceMul, Nat.reduceLeDiff, Int.reduceToNat, Int.reduceLT, Int.reduceLE, ha0, on_atB hl0, lt_add hl0, lt_at hl0, on_updB hl0, on_atU hl0, on_updU hl0, upd_same ha0, cF8]; rfl)) (by simp (disch := (apply Apart.mk; decide)) only [go_sem, Nat.reduceAdd, Nat.reduceLT, Nat.reduceMul, Nat.reduceLeDiff, Int.reduceToNat, Int.reduceLT, Int.reduceLE, ha0, on_atB hl0, lt_add hl0, lt_at hl0, on_updB hl0, on_atU hl0, on_updU hl0, upd_same ha0, cF8]))⟩)
      · refine w_condH (by simp (disch := (apply Apart.mk; decide)) only [go_sem, Nat.reduceAdd, Nat.reduceLT, Nat.reduceMul, Nat.reduceLeDiff, Int.reduceToNat, Int.reduceLT, Int.reduceLE, ha0, on_atB hl0, lt_add hl0, lt_at hl0, on_updB hl0, on_atU hl0, on_updU hl0, upd_same ha0, cF8]) hr (fun cF10 hr => ?_) (fun cF10 hr => ?_)
        · refine w_region rfl (by simp (disch := (apply Apart.mk; decide)) only [go_sem, Nat.reduceAdd, Nat.reduceLT, Nat.reduceMul, Nat.reduceLeDiff, Int.reduceToNat, Int.reduceLT, Int.reduceLE, ha0, on_atB hl0, lt_add hl0, lt_at hl0, on_updB hl0, on_atU hl0, on_updU hl0, upd_same ha0, cF8, cF10]; rfl) ?_
          exact (w_k ⟨(IntKind.i64.wrap (r5.1 - (7 : Int))), hr, (To.cut (h := (h.upd l0 (.cells [.val (.sl (List.map eUnit r5.2.units)), .val (.int .i64 r5.2.place), .val (.int .i64 r5.2.whole), .val (.int .i64 r5.2.fault)]))) (WF.upd hwf hl0 (by simp (disch := (apply Apart.mk; decide)) only [go_sem, Nat.reduceAdd, Nat.reduceLT, Nat.reduceMul, Nat.reduceLeDiff, Int.reduceToNat, Int.reduceLT, Int.reduceLE, ha0, on_atB hl0, lt_add hl0, lt_at hl0, on_updB hl0, on_atU hl0, on_updU hl0, upd_same ha0])) (Nat.le_refl _) (by first | rfl | (simp (disch := (apply Apart.mk; decide)) only [go_sem, Nat.reduceAdd, Nat.reduceLT, Nat.reduceMul, Nat.reduceLeDiff, Int.reduceToNat, Int.reduceLT, Int.reduceLE, ha0, on_atB hl0, lt_add hl0, lt_at hl0, on_updB hl0, on_atU hl0, on_updU hl0, upd_same ha0, cF8, cF10]; rfl)) (by simp (disch := (apply Apart.mk; decide)) only [go_sem, Nat.reduceAdd, Nat.reduceLT, Nat.reduceMul, Nat.reduceLeDiff, Int.reduceToNat, Int.reduceLT, Int.reduceLE, ha0, on_atB hl0, lt_add hl0, lt_at hl0, on_updB hl0, on_atU hl0, on_updU hl0, upd_same ha0, cF8, cF10]))⟩)
        · refine w_skip ?_
          exact (w_k ⟨r5.1, hr, (To.cut (h := (h.upd l0 (.cells [.val (.sl (List.map eUnit r5.2.units)), .val (.int .i64 r5.2.place), .val (.int .i64 r5.2.whole), .val (.int .i64 r5.2.fault)]))) (WF.upd hwf hl0 (by simp (disch := (apply Apart.mk; decide)) only [go_sem, Nat.reduceAdd, Nat.reduceLT, Nat.reduceMul, Nat.reduceLeDiff, Int.reduceToNat, Int.reduceLT, Int.reduceLE, ha0, on_atB hl0, lt_add hl0, lt_at hl0, on_updB hl0, on_atU hl0, on_updU hl0, upd_same ha0])) (Nat.le_refl _) (by first | rfl | (simp (disch := (apply Apart.mk; decide)) only [go_sem, Nat.reduceAdd, Nat.reduceLT, Nat.reduceMul, Nat.reduceLeDiff, Int.reduceToNat, Int.reduceLT, Int.reduceLE, ha0, on_atB hl0, lt_add hl0, lt_at hl0, on_updB hl0, on_atU hl0, on_updU hl0, upd_same ha0, cF8, cF10]; rfl)) (by simp (disch := (apply Apart.mk; decide)) only [go_sem, Nat.reduceAdd, Nat.reduceLT, Nat.reduceMul, Nat.reduceLeDiff, Int.reduceToNat, Int.reduceLT, Int.reduceLE, ha0, on_atB hl0, lt_add hl0, lt_at hl0, on_updB hl0, on_atU hl0, on_updU hl0, upd_same ha0, cF8, cF10]))⟩)
    · refine w_exit ?_
      exact (w_te (w_te (w_bx (w_k ⟨(out1, units1, place1, whole1, fault1), (hr).map, (To.cut (h := (h.upd l0 (.cells [.val (.sl (List.map eUnit units1)), .val (.int .i64 place1), .val (.int .i64 whole1), .val (.int .i64 fault1)]))) (WF.upd hwf hl0 (by simp (disch := (apply Apart.mk; decide)) only [go_sem, Nat.reduceAdd, Nat.reduceLT, Nat.reduceMul, Nat.reduceLeDiff, Int.reduceToNat, Int.reduceLT, Int.reduceLE, ha0, on_atB hl0, lt_add hl0, lt_at hl0, on_updB hl0, on_atU hl0, on_updU hl0, upd_same ha0])) (Nat.le_refl _) (by first | rfl | (simp (disch := (apply Apart.mk; decide)) only [go_sem, Nat.reduceAdd, Nat.reduceLT, Nat.reduceMul, Nat.reduceLeDiff, Int.reduceToNat, Int.reduceLT, Int.reduceLE, ha0, on_atB hl0, lt_add hl0, lt_at hl0, on_updB hl0, on_atU hl0, on_updU hl0, upd_same ha0, cF8]; rfl)) (by simp (disch := (apply Apart.mk; decide)) only [go_sem, Nat.reduceAdd, Nat.reduceLT, Nat.reduceMul, Nat.reduceLeDiff, Int.reduceToNat, Int.reduceLT, Int.reduceLE, ha0, on_atB hl0, lt_add hl0, lt_at hl0, on_updB hl0, on_atU hl0, on_updU hl0, upd_same ha0, cF8]))⟩))))
end Go.Val

/- part IW113 -/
/- (*scansion/lex.reader).letter runs as it is read off. -/
namespace Go.Val
set_option linter.unusedVariables false
set_option linter.unusedSimpArgs false
set_option maxRecDepth 20000
open Go.Proofs
theorem lex_reader_letter_runs (r : Tlex_reader) (l0 : Nat) {h : Heap} (ha0 : h.at_ l0 = some (.cells [.val (.sl (List.map eUnit r.units)), .val (.int .i64 r.place), .val (.int .i64 r.whole), .val (.int .i64 r.fault)])) {a : (Int × Tlex_reader)} (e : lex_reader_letter r = some a) :
    Runs CT 113 [.cv (.val (.ptr (some (l0, 0))))] h fun o h' => o = [.cv (.val (.int .i64 a.1))] ∧ h' = (h.upd l0 (.cells [.val (.sl (List.map eUnit a.2.units)), .val (.int .i64 a.2.place), .val (.int .i64 a.2.whole), .val (.int .i64 a.2.fault)])) := by
  refine Runs.start Try.f113 _ Try.func113 rfl (by rw [Try.ntmps113]; simp) (by rfl) (by rfl) (fun hwf hu => ?_)
  have hl0 := (hwf _ _ ha0).1
  have kl0 := locF hl0
  obtain ⟨D, hD, hr⟩ : ∃ D : (Int × Tlex_reader) → Prop, (∀ z, D z → z = a) ∧ Holds (lex_reader_letter r) D := ⟨fun z => z = a, fun _ h => h, Holds.intro e rfl⟩
  dsimp only [lex_reader_letter] at hr
  change wpCode _ _ _ _ _ ⟨[(0, .cv (.val (.ptr (some (l0, 0)))))], h.on []⟩
  refine w_seq ?_
  refine w_region rfl (by simp (disch := (apply Apart.mk; decide)) only [go_sem, Nat.reduceAdd, Nat.reduceLT, Nat.reduceMul, Nat.reduceLeDiff, Int.reduceToNat, Int.reduceLT, Int.reduceLE, ha0, on_atB hl0, lt_add hl0, lt_at hl0, on_updB hl0, on_atU hl0, on_updU hl0, upd_same ha0]; rfl) ?_
  refine w_n ?_
  refine w_seq ?_
  refine A_ops ?_
  refine w_upto 1 rfl (by simp (disch := (apply Apart.mk; decide)) only [go_sem, Nat.reduceAdd, Nat.reduceLT, Nat.reduceMul, Nat.reduceLeDiff, Int.reduceToNat, Int.reduceLT, Int.reduceLE, ha0, on_atB hl0, lt_add hl0, lt_at hl0, on_updB hl0, on_atU hl0, on_updU hl0, upd_same ha0]; rfl) ?_
  obtain ⟨r1, eF1, hr⟩ := hr.bind
  refine w_call' (out := ?o_eF1) (hp := ?p_eF1) rfl (by simp (disch := (apply Apart.mk; decide)) only [go_sem, Nat.reduceAdd, Nat.reduceLT, Nat.reduceMul, Nat.reduceLeDiff, Int.reduceToNat, Int.reduceLT, Int.reduceLE, ha0, on_atB hl0, lt_add hl0, lt_at hl0, on_updB hl0, on_atU hl0, on_updU hl0, upd_same ha0, Option.getD_some]; rfl) (by simp (disch := (apply Apart.mk; decide)) only [go_sem, Nat.reduceAdd, Nat.reduceLT, Nat.reduceMul, Nat.reduceLeDiff, Int.reduceToNat, Int.reduceLT, Int.reduceLE, ha0, on_atB hl0, lt_add hl0, lt_at hl0, on_updB hl0, on_atU hl0, on_updU hl0, upd_same ha0, Option.getD_some]; rfl) (by simp (disch := (apply Apart.mk; decide)) only [go_sem, Nat.reduceAdd, Nat.reduceLT, Nat.reduceMul, Nat.reduceLeDiff, Int.reduceToNat, Int.reduceLT, Int.reduceLE, ha0, on_atB hl0, lt_add hl0, lt_at hl0, on_updB hl0, on_atU hl0, on_updU hl0, upd_same ha0, Option.getD_some]; rfl) ?c_eF1 ?d_eF1 ?_
  case c_eF1 => (refine lex_reader_take_runs r (lex_reader_letter_1) (l0) _ _ ?_ ?_ ?_ eF1; (exact (fun os x0 r e => lex_reader_letter_1_runs x0 e)); (exact (fun i => by simp [CT])); (simp (disch := (apply Apart.mk; decide)) only [go_sem, Nat.reduceAdd, Nat.reduceLT, Nat.reduceMul, Nat.reduceLeDiff, Int.reduceToNat, Int.reduceLT, Int.reduceLE, ha0, on_atB hl0, lt_add hl0, lt_at hl0, on_updB hl0, on_atU hl0, on_updU hl0, upd_same ha0]))
  case d_eF1 => rfl
  refine w_ops_end (by simp (disch := (apply Apart.mk; decide)) only [go_sem, Nat.reduceAdd, Nat.reduceLT, Nat.reduceMul, Nat.reduceLeDiff, Int.reduceToNat, Int.reduceLT, Int.reduceLE, ha0, on_atB hl0, lt_add hl0, lt_at hl0, on_updB hl0, on_atU hl0, on_updU hl0, upd_same ha0]; rfl) ?_
  refine w_n ?_
  refine w_seq ?_
  refine w_joinR (sj := ⟨[(0, .cv (.val (.ptr (some (l0, 0))))), (3, .cv (.val (.int .i64 r1.1))), (14, .cv (.val (.bool ((r1.1 != (92 : Int)) || (r1.2.fault != (0 : Int))))))], (h.upd l0 (.cells [.val (.sl (List.map eUnit r1.2.units)), .val (.int .i64 r1.2.place), .val (.int .i64 r1.2.whole), .val (.int .i64 r1.2.fault)])).on []⟩) (A_ops ?_) ?_
  · refine w_upto 3 rfl (by simp (disch := (apply Apart.mk; decide)) only [go_sem, Nat.reduceAdd, Nat.reduceLT, Nat.reduceMul, Nat.reduceLeDiff, Int.reduceToNat, Int.reduceLT, Int.reduceLE, ha0, on_atB hl0, lt_add hl0, lt_at hl0, on_updB hl0, on_atU hl0, on_updU hl0, upd_same ha0]; rfl) ?_
    rcases Bool.eq_false_or_eq_true (r1.1 != (92 : Int)) with cF2 | cF2
    · refine w_ops_end (by simp (disch := (apply Apart.mk; decide)) only [go_sem, Nat.reduceAdd, Nat.reduceLT, Nat.reduceMul, Nat.reduceLeDiff, Int.reduceToNat, Int.reduceLT, Int.reduceLE, ha0, on_atB hl0, lt_add hl0, lt_at hl0, on_updB hl0, on_atU hl0, on_updU hl0, upd_same ha0, cF2]; rfl) ?_
      exact w_k (To.cut (h := (h.upd l0 (.cells [.val (.sl (List.map eUnit r1.2.units)), .val (.int .i64 r1.2.place), .val (.int .i64 r1.2.whole), .val (.int .i64 r1.2.fault)]))) (WF.upd hwf hl0 (by simp (disch := (apply Apart.mk; decide)) only [go_sem, Nat.reduceAdd, Nat.reduceLT, Nat.reduceMul, Nat.reduceLeDiff, Int.reduceToNat, Int.reduceLT, Int.reduceLE, ha0, on_atB hl0, lt_add hl0, lt_at hl0, on_updB hl0, on_atU hl0, on_updU hl0, upd_same ha0])) (Nat.le_refl _) (by first | rfl | (simp (disch := (apply Apart.mk; decide)) only [go_sem, Nat.reduceAdd, Nat.reduceLT, Nat.reduceMul, Nat.reduceLeDiff, Int.reduceToNat, Int.reduceLT, Int.reduceLE, ha0, on_atB hl0, lt_add hl0, lt_at hl0, on_updB hl0, on_atU hl0, on_updU hl0, upd_same ha0, cF2]; rfl)) (by simp (disch := (apply Apart.mk; decide)) only [go_sem, Nat.reduceAdd, Nat.reduceLT, Nat.reduceMul, Nat.reduceLeDiff, Int.reduceToNat, Int.reduceLT, Int.reduceLE, ha0, on_atB hl0, lt_add hl0, lt_at hl0, on_updB hl0, on_atU hl0, on_updU hl0, upd_same ha0, cF2]))
    · refine w_ops_end (by simp (disch := (apply Apart.mk; decide)) only [go_sem, Nat.reduceAdd, Nat.reduceLT, Nat.reduceMul, Nat.reduceLeDiff, Int.reduceToNat, Int.reduceLT, Int.reduceLE, ha0, on_atB hl0, lt_add hl0, lt_at hl0, on_updB hl0, on_atU hl0, on_updU hl0, upd_same ha0, cF2]; rfl) ?_
      exact w_k (To.cut (h := (h.upd l0 (.cells [.val (.sl (List.map eUnit r1.2.units)), .val (.int .i64 r1.2.place), .val (.int .i64 r1.2.whole), .val (.int .i64 r1.2.fault)]))) (WF.upd hwf hl0 (by simp (disch := (apply Apart.mk; decide)) only [go_sem, Nat.reduceAdd, Nat.reduceLT, Nat.reduceMul, Nat.reduceLeDiff, Int.reduceToNat, Int.reduceLT, Int.reduceLE, ha0, on_atB hl0, lt_add hl0, lt_at hl0, on_updB hl0, on_atU hl0, on_updU hl0, upd_same ha0])) (Nat.le_refl _) (by first | rfl | (simp (disch := (apply Apart.mk; decide)) only [go_sem, Nat.reduceAdd, Nat.reduceLT, Nat.reduceMul, Nat.reduceLeDiff, Int.reduceToNat, Int.reduceLT, Int.reduceLE, ha0, on_atB hl0, lt_add hl0, lt_at hl0, on_updB hl0, on_atU hl0, on_updU hl0, upd_same ha0, cF2]; rfl)) (by simp (disch := (apply Apart.mk; decide)) only [go_sem, Nat.reduceAdd, Nat.reduceLT, Nat.reduceMul, Nat.reduceLeDiff, Int.reduceToNat, Int.reduceLT, Int.reduceLE, ha0, on_atB hl0, lt_add hl0, lt_at hl0, on_updB hl0, on_atU hl0, on_updU hl0, upd_same ha0, cF2]))
  refine w_condH (by simp (disch := (apply Apart.mk; decide)) only [go_sem, Nat.reduceAdd, Nat.reduceLT, Nat.reduceMul, Nat.reduceLeDiff, Int.reduceToNat, Int.reduceLT, Int.reduceLE, ha0, on_atB hl0, lt_add hl0, lt_at hl0, on_updB hl0, on_atU hl0, on_updU hl0, upd_same ha0]) hr (fun cF3 hr => ?_) (fun cF3 hr => ?_)
  · refine w_seq ?_
    refine w_region rfl (by simp (disch := (apply Apart.mk; decide)) only [go_sem, Nat.reduceAdd, Nat.reduceLT, Nat.reduceMul, Nat.reduceLeDiff, Int.reduceToNat, Int.reduceLT, Int.reduceLE, ha0, on_atB hl0, lt_add hl0, lt_at hl0, on_updB hl0, on_atU hl0, on_updU hl0, upd_same ha0, cF3]; rfl) ?_
    refine w_n ?_
    refine w_ret ?_
    obtain rfl := hD _ hr
    exact (w_tr (w_endR (To.cut (os' := []) (sl := [(2, .cv (.val (.int .i64 r1.1)))]) (h := (h.upd l0 (.cells [.val (.sl (List.map eUnit r1.2.units)), .val (.int .i64 r1.2.place), .val (.int .i64 r1.2.whole), .val (.int .i64 r1.2.fault)]))) (WF.upd hwf hl0 (by simp (disch := (apply Apart.mk; decide)) only [go_sem, Nat.reduceAdd, Nat.reduceLT, Nat.reduceMul, Nat.reduceLeDiff, Int.reduceToNat, Int.reduceLT, Int.reduceLE, ha0, on_atB hl0, lt_add hl0, lt_at hl0, on_updB hl0, on_atU hl0, on_updU hl0, upd_same ha0])) (Nat.le_refl _) (by first | rfl | (simp (disch := (apply Apart.mk; decide)) only [go_sem, Nat.reduceAdd, Nat.reduceLT, Nat.reduceMul, Nat.reduceLeDiff, Int.reduceToNat, Int.reduceLT, Int.reduceLE, ha0, on_atB hl0, lt_add hl0, lt_at hl0, on_updB hl0, on_atU hl0, on_updU hl0, upd_same ha0, cF3]; rfl)) (by simp (disch := (apply Apart.mk; decide)) only [go_sem, Nat.reduceAdd, Nat.reduceLT, Nat.reduceMul, Nat.reduceLeDiff, Int.reduceToNat, Int.reduceLT, Int.reduceLE, ha0, on_atB hl0, lt_add hl0, lt_at hl0, on_updB hl0, on_atU hl0, on_updU hl0, upd_same ha0, cF3])) (by simp (disch := (apply Apart.mk; decide)) only [go_sem, Nat.reduceAdd, Nat.reduceLT, Nat.reduceMul, Nat.reduceLeDiff, Int.reduceToNat, Int.reduceLT, Int.reduceLE, ha0, on_atB hl0, lt_add hl0, lt_at hl0, on_updB hl0, on_atU hl0, on_updU hl0, upd_same ha0, Try.results113, results_data CT_gives113, resCell, resVal.eq_2, loadOp_sv, cF3]) ⟨rfl, on_nil (h := (h.upd l0 (.cells [.val (.sl (List.map eUnit r1.2.units)), .val (.int .i64 r1.2.place), .val (.int .i64 r1.2.whole), .val (.int .i64 r1.2.fault)]))) (WF.upd hwf hl0 (by simp (disch := (apply Apart.mk; decide)) only [go_sem, Nat.reduceAdd, Nat.reduceLT, Nat.reduceMul, Nat.reduceLeDiff, Int.reduceToNat, Int.reduceLT, Int.reduceLE, ha0, on_atB hl0, lt_add hl0, lt_at hl0, on_updB hl0, on_atU hl0, on_updU hl0, upd_same ha0]))⟩))
  · refine w_skip ?_
    refine w_n ?_
    refine w_seq ?_
    refine A_ops ?_
    refine w_upto 1 rfl (by simp (disch := (apply Apart.mk; decide)) only [go_sem, Nat.reduceAdd, Nat.reduceLT, Nat.reduceMul, Nat.reduceLeDiff, Int.reduceToNat, Int.reduceLT, Int.reduceLE, ha0, on_atB hl0, lt_add hl0, lt_at hl0, on_updB hl0, on_atU hl0, on_updU hl0, upd_same ha0]; rfl) ?_
    obtain ⟨r2, eF4, hr⟩ := hr.bind
    refine w_call' (out := ?o_eF4) (hp := ?p_eF4) rfl (by simp (disch := (apply Apart.mk; decide)) only [go_sem, Nat.reduceAdd, Nat.reduceLT, Nat.reduceMul, Nat.reduceLeDiff, Int.reduceToNat, Int.reduceLT, Int.reduceLE, ha0, on_atB hl0, lt_add hl0, lt_at hl0, on_updB hl0, on_atU hl0, on_updU hl0, upd_same ha0, Option.getD_some]; rfl) (by simp (disch := (apply Apart.mk; decide)) only [go_sem, Nat.reduceAdd, Nat.reduceLT, Nat.reduceMul, Nat.reduceLeDiff, Int.reduceToNat, Int.reduceLT, Int.reduceLE, ha0, on_atB hl0, lt_add hl0, lt_at hl0, on_updB hl0, on_atU hl0, on_updU hl0, upd_same ha0, Option.getD_some]; rfl) (by simp (disch := (apply Apart.mk; decide)) only [go_sem, Nat.reduceAdd, Nat.reduceLT, Nat.reduceMul, Nat.reduceLeDiff, Int.reduceToNat, Int.reduceLT, Int.reduceLE, ha0, on_atB hl0, lt_add hl0, lt_at hl0, on_updB hl0, on_atU hl0, on_updU hl0, upd_same ha0, Option.getD_some]; rfl) ?c_eF4 ?d_eF4 ?_
    case c_eF4 => (refine lex_reader_take_runs r1.2 (lex_reader_letter_2) (l0) _ _ ?_ ?_ ?_ eF4; (exact (fun os x0 r e => lex_reader_letter_2_runs x0 e)); (exact (fun i => by simp [CT])); (simp (disch := (apply Apart.mk; decide)) only [go_sem, Nat.reduceAdd, Nat.reduceLT, Nat.reduceMul, Nat.reduceLeDiff, Int.reduceToNat, Int.reduceLT, Int.reduceLE, ha0, on_atB hl0, lt_add hl0, lt_at hl0, on_updB hl0, on_atU hl0, on_updU hl0, upd_same ha0]))
    case d_eF4 => rfl
    refine w_ops_end (by simp (disch := (apply Apart.mk; decide)) only [go_sem, Nat.reduceAdd, Nat.reduceLT, Nat.reduceMul, Nat.reduceLeDiff, Int.reduceToNat, Int.reduceLT, Int.reduceLE, ha0, on_atB hl0, lt_add hl0, lt_at hl0, on_updB hl0, on_atU hl0, on_updU hl0, upd_same ha0]; rfl) ?_
    refine w_n ?_
    refine w_seq ?_
    refine w_seq ?_
    refine w_region rfl (by simp (disch := (apply Apart.mk; decide)) only [go_sem, Nat.reduceAdd, Nat.reduceLT, Nat.reduceMul, Nat.reduceLeDiff, Int.reduceToNat, Int.reduceLT, Int.reduceLE, ha0, on_atB hl0, lt_add hl0, lt_at hl0, on_updB hl0, on_atU hl0, on_updU hl0, upd_same ha0, cF3]; rfl) ?_
    refine w_n ?_
    refine w_condH (by simp (disch := (apply Apart.mk; decide)) only [go_sem, Nat.reduceAdd, Nat.reduceLT, Nat.reduceMul, Nat.reduceLeDiff, Int.reduceToNat, Int.reduceLT, Int.reduceLE, ha0, on_atB hl0, lt_add hl0, lt_at hl0, on_updB hl0, on_atU hl0, on_updU hl0, upd_same ha0, cF3]) hr (fun cF5 hr => ?_) (fun cF5 hr => ?_)
    · refine w_seq ?_
      refine w_region rfl (by simp (disch := (apply Apart.mk; decide)) only [go_sem, Nat.reduceAdd, Nat.reduceLT, Nat.reduceMul, Nat.reduceLeDiff, Int.reduceToNat, Int.reduceLT, Int.reduceLE, ha0, on_atB hl0, lt_add hl0, lt_at hl0, on_updB hl0, on_atU hl0, on_updU hl0, upd_same ha0, cF3, cF5]; rfl) ?_
      refine w_n ?_
      refine w_ret ?_
      obtain rfl := hD _ hr
      exact (w_tr (w_endR (To.cut (os' := []) (sl := [(2, .cv (.val (.int .i64 r2.1)))]) (h := (h.upd l0 (.cells [.val (.sl (List.map eUnit r2.2.units)), .val (.int .i64 r2.2.place), .val (.int .i64 r2.2.whole), .val (.int .i64 r2.2.fault)]))) (WF.upd hwf hl0 (by simp (disch := (apply Apart.mk; decide)) only [go_sem, Nat.reduceAdd, Nat.reduceLT, Nat.reduceMul, Nat.reduceLeDiff, Int.reduceToNat, Int.reduceLT, Int.reduceLE, ha0, on_atB hl0, lt_add hl0, lt_at hl0, on_updB hl0, on_atU hl0, on_updU hl0, upd_same ha0])) (Nat.le_refl _) (by first | rfl | (simp (disch := (apply Apart.mk; decide)) only [go_sem, Nat.reduceAdd, Nat.reduceLT, Nat.reduceMul, Nat.reduceLeDiff, Int.reduceToNat, Int.reduceLT, Int.reduceLE, ha0, on_atB hl0, lt_add hl0, lt_at hl0, on_updB hl0, on_atU hl0, on_updU hl0, upd_same ha0, cF3, cF5]; rfl)) (by simp (disch := (apply Apart.mk; decide)) only [go_sem, Nat.reduceAdd, Nat.reduceLT, Nat.reduceMul, Nat.reduceLeDiff, Int.reduceToNat, Int.reduceLT, Int.reduceLE, ha0, on_atB hl0, lt_add hl0, lt_at hl0, on_updB hl0, on_atU hl0, on_updU hl0, upd_same ha0, cF3, cF5])) (by simp (disch := (apply Apart.mk; decide)) only [go_sem, Nat.reduceAdd, Nat.reduceLT, Nat.reduceMul, Nat.reduceLeDiff, Int.reduceToNat, Int.reduceLT, Int.reduceLE, ha0, on_atB hl0, lt_add hl0, lt_at hl0, on_updB hl0, on_atU hl0, on_updU hl0, upd_same ha0, Try.results113, results_data CT_gives113, resCell, resVal.eq_2, loadOp_sv, cF3, cF5]) ⟨rfl, on_nil (h := (h.upd l0 (.cells [.val (.sl (List.map eUnit r2.2.units)), .val (.int .i64 r2.2.place), .val (.int .i64 r2.2.whole), .val (.int .i64 r2.2.fault)]))) (WF.upd hwf hl0 (by simp (disch := (apply Apart.mk; decide)) only [go_sem, Nat.reduceAdd, Nat.reduceLT, Nat.reduceMul, Nat.reduceLeDiff, Int.reduceToNat, Int.reduceLT, Int.reduceLE, ha0, on_atB hl0, lt_add hl0, lt_at hl0, on_updB hl0, on_atU hl0, on_updU hl0, upd_same ha0]))⟩))
    · refine w_skip ?_
      refine w_n ?_
      refine w_seq ?_
      refine A_ops ?_
      refine w_upto 1 rfl (by simp (disch := (apply Apart.mk; decide)) only [go_sem, Nat.reduceAdd, Nat.reduceLT, Nat.reduceMul, Nat.reduceLeDiff, Int.reduceToNat, Int.reduceLT, Int.reduceLE, ha0, on_atB hl0, lt_add hl0, lt_at hl0, on_updB hl0, on_atU hl0, on_updU hl0, upd_same ha0]; rfl) ?_
      obtain ⟨r3, eF6, hr⟩ := hr.bind
      refine w_call' (out := ?o_eF6) (hp := ?p_eF6) rfl (by simp (disch := (apply Apart.mk; decide)) only [go_sem, Nat.reduceAdd, Nat.reduceLT, Nat.reduceMul, Nat.reduceLeDiff, Int.reduceToNat, Int.reduceLT, Int.reduceLE, ha0, on_atB hl0, lt_add hl0, lt_at hl0, on_updB hl0, on_atU hl0, on_updU hl0, upd_same ha0, Option.getD_some]; rfl) (by simp (disch := (apply Apart.mk; decide)) only [go_sem, Nat.reduceAdd, Nat.reduceLT, Nat.reduceMul, Nat.reduceLeDiff, Int.reduceToNat, Int.reduceLT, Int.reduceLE, ha0, on_atB hl0, lt_add hl0, lt_at hl0, on_updB hl0, on_atU hl0, on_updU hl0, upd_same ha0, Option.getD_some]; rfl) (by simp (disch := (apply Apart.mk; decide)) only [go_sem, Nat.reduceAdd, Nat.reduceLT, Nat.reduceMul, Nat.reduceLeDiff, Int.reduceToNat, Int.reduceLT, Int.reduceLE, ha0, on_atB hl0, lt_add hl0, lt_at hl0, on_updB hl0, on_atU hl0, on_updU hl0, upd_same ha0, Option.getD_some]; rfl) ?c_eF6 ?d_eF6 ?_
      case c_eF6 => (refine lex_reader_number_runs r2.2 (l0) ?_ eF6; (simp (disch := (apply Apart.mk; decide)) only [go_sem, Nat.reduceAdd, Nat.reduceLT, Nat.reduceMul, Nat.reduceLeDiff, Int.reduceToNat, Int.reduceLT, Int.reduceLE, ha0, on_atB hl0, lt_add hl0, lt_at hl0, on_updB hl0, on_atU hl0, on_updU hl0, upd_same ha0]))
      case d_eF6 => rfl
      refine w_ops_end (by simp (disch := (apply Apart.mk; decide)) only [go_sem, Nat.reduceAdd, Nat.reduceLT, Nat.reduceMul, Nat.reduceLeDiff, Int.reduceToNat, Int.reduceLT, Int.reduceLE, ha0, on_atB hl0, lt_add hl0, lt_at hl0, on_updB hl0, on_atU hl0, on_updU hl0, upd_same ha0]; rfl) ?_
      refine w_n ?_
      refine w_ret ?_
      obtain rfl := hD _ hr
      exact (w_endR (To.cut (os' := []) (sl := [(2, .cv (.val (.int .i64 r3.1)))]) (h := (h.upd l0 (.cells [.val (.sl (List.map eUnit r3.2.units)), .val (.int .i64 r3.2.place), .val (.int .i64 r3.2.whole), .val (.int .i64 r3.2.fault)]))) (WF.upd hwf hl0 (by simp (disch := (apply Apart.mk; decide)) only [go_sem, Nat.reduceAdd, Nat.reduceLT, Nat.reduceMul, Nat.reduceLeDiff, Int.reduceToNat, Int.reduceLT, Int.reduceLE, ha0, on_atB hl0, lt_add hl0, lt_at hl0, on_updB hl0, on_atU hl0, on_updU hl0, upd_same ha0])) (Nat.le_refl _) (by first | rfl | (simp (disch := (apply Apart.mk; decide)) only [go_sem, Nat.reduceAdd, Nat.reduceLT, Nat.reduceMul, Nat.reduceLeDiff, Int.reduceToNat, Int.reduceLT, Int.reduceLE, ha0, on_atB hl0, lt_add hl0, lt_at hl0, on_updB hl0, on_atU hl0, on_updU hl0, upd_same ha0, cF3, cF5]; rfl)) (by simp (disch := (apply Apart.mk; decide)) only [go_sem, Nat.reduceAdd, Nat.reduceLT, Nat.reduceMul, Nat.reduceLeDiff, Int.reduceToNat, Int.reduceLT, Int.reduceLE, ha0, on_atB hl0, lt_add hl0, lt_at hl0, on_updB hl0, on_atU hl0, on_updU hl0, upd_same ha0, cF3, cF5])) (by simp (disch := (apply Apart.mk; decide)) only [go_sem, Nat.reduceAdd, Nat.reduceLT, Nat.reduceMul, Nat.reduceLeDiff, Int.reduceToNat, Int.reduceLT, Int.reduceLE, ha0, on_atB hl0, lt_add hl0, lt_at hl0, on_updB hl0, on_atU hl0, on_updU hl0, upd_same ha0, Try.results113, results_data CT_gives113, resCell, resVal.eq_2, loadOp_sv, cF3, cF5]) ⟨rfl, on_nil (h := (h.upd l0 (.cells [.val (.sl (List.map eUnit r3.2.units)), .val (.int .i64 r3.2.place), .val (.int .i64 r3.2.whole), .val (.int .i64 r3.2.fault)]))) (WF.upd hwf hl0 (by simp (disch := (apply Apart.mk; decide)) only [go_sem, Nat.reduceAdd, Nat.reduceLT, Nat.reduceMul, Nat.reduceLeDiff, Int.reduceToNat, Int.reduceLT, Int.reduceLE, ha0, on_atB hl0, lt_add hl0, lt_at hl0, on_updB hl0, on_atU hl0, on_updU hl0, upd_same ha0]))⟩)
end Go.Val

/- part IW93 -/
/- slices.Clone at ranges: by hand (an empty slice may be nil, or not). -/
namespace Go.Val
set_option linter.unusedVariables false
set_option linter.unusedSimpArgs false
set_option maxRecDepth 20000
open Go.Proofs
theorem slices_Clone_api_Range_api_Range_runs (s : List TRange) {h : Heap} {a : List TRange} (e : slices_Clone_api_Range_api_Range s = some a) :
    Runs CT 93 [.cv (.val (.sl (List.map eRange s)))] h fun o h' => o = [.cv (.row 80 (List.map eRange a))] ∧ h' = h := by
  refine Runs.start Try.f93 _ Try.func93 rfl (by rw [Try.ntmps93]; simp) (by rfl) (by rfl) (fun hwf hu => ?_)
  have hr : Holds (slices_Clone_api_Range_api_Range s) (fun z => z = a) := Holds.intro e rfl
  unfold slices_Clone_api_Range_api_Range at hr
  obtain ⟨nF1, hr⟩ := hr.room
  obtain rfl : s = a := hr
  change wpCode _ _ _ _ _ ⟨[(0, .cv (.val (.sl (List.map eRange s))))], h.on []⟩
  refine w_seq ?_
  refine A_region ?_
  refine w_n ?_
  refine w_seq ?_
  refine w_seq ?_
  refine A_ops ?_
  refine A_upto 1 ?_
  refine w_nilCmp rfl Try.underlying31 (by simp (disch := (apply Apart.mk; decide)) only [go_sem, Nat.reduceAdd, Nat.reduceLT]; rfl) (fun b hb => ?_)
  refine w_ops_nil ?_
  refine w_n ?_
  cases b with
  | true =>
    have hs : s = [] := by
      cases s with
      | nil => rfl
      | cons x l => exact absurd (hb (by simp)) (by simp)
    subst hs
    refine A_cond true (fun _ => ?_) (fun e => by cases e)
    refine w_seq ?_
    refine A_region ?_
    refine w_n ?_
    refine w_ret ?_
    exact (w_tr (A_endR (A_cut (os' := []) (sl := [(2, .cv (.row 80 (List.map eRange ([] : List TRange))))]) hwf) ⟨rfl, on_nil hwf⟩))
  | false =>
    refine A_cond false (fun e => by cases e) (fun _ => ?_)
    refine w_skip ?_
    refine w_n ?_
    refine w_seq ?_
    refine A_region ?_
    refine w_n ?_
    refine w_ret ?_
    exact (A_endR (A_cut (os' := []) (sl := [(2, .cv (.row 80 (List.map eRange s)))]) hwf) ⟨rfl, on_nil hwf⟩)
end Go.Val

/- part IW91 -/
/- scansion/ranges.Make$1 runs as it is read off. -/
namespace Go.Val
set_option linter.unusedVariables false
set_option linter.unusedSimpArgs false
set_option maxRecDepth 20000
open Go.Proofs
theorem ranges_Make_1_runs (x : TRange) {h : Heap} {a : Bool} (e : ranges_Make_1 x = some a) :
    Runs CT 91 [.cv (.val (.agg [.int .i64 x.Low, .int .i64 x.High]))] h fun o h' => o = [.cv (.val (.bool a))] ∧ h' = h := by
  refine Runs.start Try.f91 _ Try.func91 rfl (by rw [Try.ntmps91]; simp) (by rfl) (by rfl) (fun hwf hu => ?_)
  obtain ⟨D, hD, hr⟩ : ∃ D : Bool → Prop, (∀ z, D z → z = a) ∧ Holds (ranges_Make_1 x) D := ⟨fun z => z = a, fun _ h => h, Holds.intro e rfl⟩
  dsimp only [ranges_Make_1] at hr
  change wpCode _ _ _ _ _ ⟨[(0, .cv (.val (.agg [.int .i64 x.Low, .int .i64 x.High])))], h.on []⟩
  refine w_seq ?_
  refine A_region ?_
  refine w_n ?_
  refine w_joinR (sj := ⟨[(2, .cv (.val (.bool ((decide (x.Low < (0 : Int))) || ((decide (x.High > (1114111 : Int))) || (decide (x.Low > x.High)))))))], h.on []⟩) (A_ops ?_) ?_
  · refine A_upto 4 ?_
    rcases Bool.eq_false_or_eq_true (decide (x.Low < (0 : Int))) with cF1 | cF1
    · refine A_ops_end ?_
      exact w_k (A_cut hwf)
    · refine A_upto 5 ?_
      rcases Bool.eq_false_or_eq_true (decide (x.High > (1114111 : Int))) with cF2 | cF2
      · refine A_ops_end ?_
        exact w_k (A_cut hwf)
      · refine A_ops_end ?_
        exact w_k (A_cut hwf)
  refine w_ret ?_
  obtain rfl := hD _ hr
  exact (A_endR (A_cut (os' := []) (sl := [(2, .cv (.val (.bool ((decide (x.Low < (0 : Int))) || ((decide (x.High > (1114111 : Int))) || (decide (x.Low > x.High)))))))]) hwf) ⟨rfl, on_nil hwf⟩)
end Go.Val
