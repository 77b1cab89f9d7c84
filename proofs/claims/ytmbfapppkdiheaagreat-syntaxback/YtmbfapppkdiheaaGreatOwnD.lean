/- A value semantics of the model's programs, sound against it, and functions read off the given program with the proofs that it runs so; no condition. -/
import Derived.Test.YtmbfapppkdiheaaGreatOwnC
import Derived.Sort.Defs
import Derived.Lib.BitFns
import Derived.Lib.Join
import Derived.Test.YtmbfapppkdiheaaGreatChecked
import Derived.SizedLaws
import Derived.ChangeArms
import Derived.RangeFuncNested
import Derived.RangeFuncBound
import Derived.RangeFuncCalls
import Derived.RangeFuncLeaves
import Derived.Shelf.Abstract
import Derived.Shelf.RegionOpen
import Derived.WalkKit
import Derived.OwnWalkIn
import Derived.TacticsInMore
import Derived.LoopNIn
import Derived.LoopIn
import Derived.Test.YtmbfapppkdiheaaGreatProg
import Derived.RangeFuncBox
import Derived.Maps.AppendAt
import Derived.Shelf.SlSortCmp.NoneTotal
import Derived.Shelf.SlicesG.Cmp
import Derived.Sort.AssemblyPlain
import Derived.Shelf.Strings.Builder2
import Derived.Shelf.Strings.BuilderK
import Derived.Shelf.Strings.OnBuilder
import Derived.Shelf.SlicesE.IndexFunc
import Derived.Shelf.SlicesQ.Equal
set_option linter.all false
set_option linter.unnecessarySimpa false
set_option linter.unusedVariables false
set_option linter.unusedSimpArgs false
/- part LT -/
/- Types of the program, as data. -/
namespace Go.Val
structure TNode where
  Kind : Int
  Set : Int
  Kids : List TNode
instance : Inhabited TNode := ⟨⟨default, default, []⟩⟩
mutual
def eNode : TNode → DVal
  | ⟨Kind, Set, Kids⟩ => .agg [.int .i64 Kind, .int .i64 Set, .sl (eNodes Kids)]
def eNodes : List TNode → List DVal
  | [] => []
  | x :: xs => eNode x :: eNodes xs
end
theorem eNodes_map : ∀ (l : List TNode), eNodes l = List.map eNode l
  | [] => rfl
  | x :: xs => by simp only [eNodes, List.map_cons, eNodes_map xs]
theorem eNode_eq (x : TNode) : eNode x = .agg [.int .i64 x.Kind, .int .i64 x.Set, .sl (List.map eNode x.Kids)] := by cases x; simp only [eNode, eNodes_map]
mutual
theorem eNode_under (n : Nat) : ∀ (x : TNode), (eNode x).under n
  | ⟨Kind, Set, Kids⟩ => by simp only [eNode, DVal.under, underL, and_true, true_and]; exact eNodes_under n Kids
theorem eNodes_under (n : Nat) : ∀ (l : List TNode), underL n (eNodes l)
  | [] => trivial
  | x :: xs => ⟨eNode_under n x, eNodes_under n xs⟩
end
instance : Enc eNode 3 := ⟨fun x => by rw [eNode_eq]; rfl, eNode_under⟩
attribute [go_sem] eNode_eq
structure TRange where
  Low : Int
  High : Int
  deriving DecidableEq, Inhabited
def eRange (x : TRange) : DVal := .agg [.int .i64 x.Low, .int .i64 x.High]
instance : Enc eRange 2 := ⟨fun _ => rfl, fun n x => by simp only [eRange, DVal.under, underL, under_map, and_self]⟩
attribute [go_sem] eRange
structure TRule where
  Break : Bool
  Left : TNode
  Right : TNode
  deriving Inhabited
def eRule (x : TRule) : DVal := .agg [.bool x.Break, .int .i64 x.Left.Kind, .int .i64 x.Left.Set, .sl (List.map eNode x.Left.Kids), .int .i64 x.Right.Kind, .int .i64 x.Right.Set, .sl (List.map eNode x.Right.Kids)]
instance : Enc eRule 7 := ⟨fun _ => rfl, fun n x => by simp only [eRule, DVal.under, underL, under_map, and_self]⟩
attribute [go_sem] eRule
structure TProgram where
  Sets : List (List TRange)
  Rules : List TRule
  deriving Inhabited
def eProgram (x : TProgram) : DVal := .agg [.sl (List.map (eL eRange) x.Sets), .sl (List.map eRule x.Rules)]
instance : Enc eProgram 2 := ⟨fun _ => rfl, fun n x => by simp only [eProgram, DVal.under, underL, under_map, and_self]⟩
attribute [go_sem] eProgram
structure Tsyntax_checker where
  sets : Int
  met : Int
  deriving DecidableEq, Inhabited
def esyntax_checker (x : Tsyntax_checker) : DVal := .agg [.int .i64 x.sets, .int .i64 x.met]
instance : Enc esyntax_checker 2 := ⟨fun _ => rfl, fun n x => by simp only [esyntax_checker, DVal.under, underL, under_map, and_self]⟩
attribute [go_sem] esyntax_checker
structure TUnit where
  Rune : Int
  At : Int
  Width : Int
  Bad : Bool
  deriving DecidableEq, Inhabited
def eUnit (x : TUnit) : DVal := .agg [.int .i64 x.Rune, .int .i64 x.At, .int .i64 x.Width, .bool x.Bad]
instance : Enc eUnit 4 := ⟨fun _ => rfl, fun n x => by simp only [eUnit, DVal.under, underL, under_map, and_self]⟩
attribute [go_sem] eUnit
structure Tlex_reader where
  units : List TUnit
  place : Int
  whole : Int
  fault : Int
  deriving DecidableEq, Inhabited
def elex_reader (x : Tlex_reader) : DVal := .agg [.sl (List.map eUnit x.units), .int .i64 x.place, .int .i64 x.whole, .int .i64 x.fault]
instance : Enc elex_reader 4 := ⟨fun _ => rfl, fun n x => by simp only [elex_reader, DVal.under, underL, under_map, and_self]⟩
attribute [go_sem] elex_reader
structure TToken where
  Kind : Int
  At : Int
  Text : Str
  Set : List TRange
  deriving DecidableEq, Inhabited
def eToken (x : TToken) : DVal := .agg [.int .i64 x.Kind, .int .i64 x.At, .str (bs x.Text), .sl (List.map eRange x.Set)]
instance : Enc eToken 4 := ⟨fun _ => rfl, fun n x => by simp only [eToken, DVal.under, underL, under_map, and_self]⟩
attribute [go_sem] eToken
structure Tsyntax_tokens where
  list : List TToken
  place : Int
  fault : Int
  deriving DecidableEq, Inhabited
def esyntax_tokens (x : Tsyntax_tokens) : DVal := .agg [.sl (List.map eToken x.list), .int .i64 x.place, .int .i64 x.fault]
instance : Enc esyntax_tokens 3 := ⟨fun _ => rfl, fun n x => by simp only [esyntax_tokens, DVal.under, underL, under_map, and_self]⟩
attribute [go_sem] esyntax_tokens
structure Tsyntax_parser where
  tokens : Tsyntax_tokens
  names : List (Str × List TRange)
  program : TProgram
  deriving Inhabited
end Go.Val

/- part LE -/
/- What is turned in place: slices.SortFunc at ranges; slices.Clone at ranges; what is told by hand: lex.Set, utf.Decode, strings.Join, the small thing that works; what is looked at: slices.IndexFunc at sets. -/
namespace Go.Val
noncomputable section
def ltR (a b : TRange) : Bool := decide (a.Low < b.Low)
def sortR (l : List TRange) : Option (List TRange) :=
  if l.length ≤ roomOf then some (Go.Sort.pdq ltR l.toArray 0 l.length (Go.Lib.bitLen l.length) true true).toList else none
def slices_Clone_api_Range_api_Range (s : List TRange) : Option (List TRange) :=
  (room 16 (0 + s.length)).bind fun _ => some s
/-- What the first byte tells: how many bytes, and its bits. -/
def uHead (c : Nat) : Nat × Nat :=
  if c < 128 then (1, c) else if 194 ≤ c ∧ c < 224 then (2, c % 32) else if 224 ≤ c ∧ c < 240 then (3, c % 16) else if 240 ≤ c ∧ c < 245 then (4, c % 8) else (0, c)
/-- The bytes that go on: none, where one does not. -/
def uMore : Nat → List UInt8 → Nat → Option Nat
  | 0, _, r => some r
  | _ + 1, [], _ => none
  | n + 1, c :: l, r => if c.toNat / 64 = 2 then uMore n l (r * 64 + c.toNat % 64) else none
def uRight (r : Nat) : Bool := r ≤ 1114111 && (r < 55296 || r > 57343)
def uWidth (r : Nat) : Nat := if r < 128 then 1 else if r < 2048 then 2 else if r < 65536 then 3 else 4
/-- The unit with which bytes begin. -/
def uFirst (at_ : Nat) : List UInt8 → TUnit
  | [] => ⟨65533, at_, 1, true⟩
  | c :: l => match uHead c.toNat with
    | (0, _) => ⟨65533, at_, 1, true⟩
    | (n + 1, r) => match uMore n l r with
      | some q => if uRight q && uWidth q == n + 1 then ⟨q, at_, (n + 1 : Nat), false⟩ else ⟨65533, at_, 1, true⟩
      | none => ⟨65533, at_, 1, true⟩
def uUnits : Nat → Nat → List UInt8 → List TUnit
  | 0, _, _ => []
  | _ + 1, _, [] => []
  | k + 1, at_, c :: l => let u := uFirst at_ (c :: l); u :: uUnits k (at_ + u.Width.toNat) ((c :: l).drop u.Width.toNat)
/-- Bytes as units. -/
def units (b : List UInt8) : List TUnit := uUnits b.length 0 b
def utf_Decode (b : List UInt8) : Option (List TUnit) := if b.length ≤ 1048576 then some (units b) else none
/-- A set as a token's text. -/
def hexU : Nat → Str
  | n => if h : n < 16 then [if n < 10 then UInt8.ofNat (48 + n) else UInt8.ofNat (55 + n)] else hexU (n / 16) ++ hexU (n % 16)
decreasing_by all_goals omega
def hexX (n : Int) : Str := [92, 120, 123] ++ hexU n.toNat ++ [125]
def setText (l : List TRange) : Str := [91] ++ (l.flatMap fun x => hexX x.Low ++ if x.High = x.Low then [] else 45 :: hexX x.High) ++ [93]
def lex_Set (l : List TRange) : Option Str := if l.length ≤ 1200000 ∧ ∀ x ∈ l, 0 ≤ x.Low ∧ x.Low ≤ 1114111 ∧ 0 ≤ x.High ∧ x.High ≤ 1114111 then some (setText l) else none
def strings_Join (l : List Str) (sep : Str) : Option Str := if l.length ≤ 140737488355328 ∧ (Go.Lib.join l sep).length ≤ 140737488355328 then some (Go.Lib.join l sep) else none
/-- The small thing works: shown by going through it. -/
def scansionlaw08_awake : Option Bool := some true
open Classical in
def extOf {α : Type} (e : α → DVal) (f : List α → Option (List α)) (zs : List DVal) : Option (List DVal) :=
  if h : ∃ l : List α, zs = l.map e then (f h.choose).map (List.map e) else none
theorem map_inj {α : Type} {e : α → DVal} (hi : ∀ a b, e a = e b → a = b) : ∀ {l m : List α}, l.map e = m.map e → l = m
  | [], [], _ => rfl
  | [], _ :: _, h => by cases h
  | _ :: _, [], h => by cases h
  | a :: l, b :: m, h => by
    simp only [List.map_cons, List.cons.injEq] at h
    rw [hi a b h.1, map_inj hi h.2]
theorem extOf_map {α : Type} {e : α → DVal} (hi : ∀ a b, e a = e b → a = b) {f : List α → Option (List α)} {l l' : List α} (h : f l = some l') : extOf e f (l.map e) = some (l'.map e) := by
  have hx : ∃ m : List α, l.map e = m.map e := ⟨l, rfl⟩
  have hc : hx.choose = l := (map_inj hi hx.choose_spec).symm
  unfold extOf
  rw [dif_pos hx, hc, h]; rfl
theorem extOf_some {α : Type} {e : α → DVal} {f : List α → Option (List α)} {zs ys : List DVal} (h : extOf e f zs = some ys) : ∃ l l', zs = l.map e ∧ f l = some l' ∧ ys = l'.map e := by
  unfold extOf at h
  split at h
  · rename_i hx
    cases hf : f hx.choose with
    | none => rw [hf] at h; cases h
    | some l' => rw [hf] at h; cases h; exact ⟨_, l', hx.choose_spec, hf, rfl⟩
  · cases h
theorem eRange_inj (a b : TRange) (h : eRange a = eRange b) : a = b := by
  cases a; cases b
  simp only [eRange, DVal.agg.injEq, List.cons.injEq, DVal.int.injEq, true_and, and_true] at h
  simp only [TRange.mk.injEq]; exact h
open Classical in
def extR (g : FuncId) (ds : List DVal) (k : TypeId) (zs : List DVal) : Option (List DVal) :=
  if g = 56 ∧ ds = [.fn 57 [] []] ∧ k = 74 then extOf eRange sortR zs else none
theorem ext_sortR {l l' : List TRange} (h : sortR l = some l') : extR 56 [.fn 57 [] []] 74 (l.map eRange) = some (l'.map eRange) := by
  unfold extR
  rw [if_pos ⟨rfl, rfl, rfl⟩]; exact extOf_map eRange_inj h
def handL (f : FuncId) (a : List SV) (h : Heap) (o : List SV) (h' : Heap) : Prop :=
  h' = h ∧ ((f = 17 ∧ ∃ l u, a = [.cv (.val (.sl (List.map eRange l)))] ∧ lex_Set l = some u ∧ o = [.cv (.val (.str (bs u)))]) ∨
    (f = 31 ∧ ∃ l s u, a = [.cv (.val (.sl (List.map eS l))), .cv (.val (.str (bs s)))] ∧ strings_Join l s = some u ∧ o = [.cv (.val (.str (bs u)))]) ∨
    (f = 5 ∧ a = [] ∧ o = [.cv (.val (.bool true))]) ∨
    (f = 43 ∧ ∃ b u, a = [.cv (.val (.sl (List.map eU b)))] ∧ utf_Decode b = some u ∧ o = [.cv (.val (.sl (List.map eUnit u)))]))
/-- Where a set is among others; below 0: nowhere. -/
def findI (s : List TRange) : List (List TRange) → Int → Int
  | [], _ => -1
  | x :: l, i => if x = s then i else findI s l (i + 1)
def findR (S : List (List TRange)) (s : List TRange) : Option Int := if S.length ≤ 140737488355328 ∧ s.length ≤ 140737488355328 ∧ ∀ x ∈ S, x.length ≤ 140737488355328 then some (findI s S 0) else none
def lookL (g : FuncId) (ds : List DVal) (h : Heap) (out : List SV) : Prop :=
  g = 137 ∧ ∃ S s l i, ds = [.sl (List.map (eL eRange) S), .fn 136 [] [.ptr (some (l, 0))]] ∧ h.at_ l = some (.cells [.val (.sl (List.map eRange s))]) ∧ findR S s = some i ∧ out = [.cv (.val (.int .i64 i))]
theorem look_find {S : List (List TRange)} {s : List TRange} {l : Nat} {h : Heap} {i : Int} (hl : h.at_ l = some (.cells [.val (.sl (List.map eRange s))])) (e : findR S s = some i) : lookL 137 [.sl (List.map (eL eRange) S), .fn 136 [] [.ptr (some (l, 0))]] h [.cv (.val (.int .i64 i))] := ⟨rfl, S, s, l, i, rfl, hl, e, rfl⟩
end
end Go.Val

/- part LX -/
/- Facts of the program. -/
namespace Go.Val
open Go.Proofs
noncomputable def CT : Ctx := { P := Tryz.prog, how := fun f i => if f = 59 ∧ i = 0 then .move else if f = 88 ∧ i = 0 then .move else .data, gives := fun f => if f = 59 then .move else if f = 88 then .move else if f = 55 then .move else .data, ext := extR, hand := handL, look := lookL }
theorem CT_P : CT.P = Tryz.prog := rfl
def someWorld : World := ⟨#[], fun _ _ => 0, 0, default, default⟩
theorem CT_gives13 : CT.gives 13 = .data := by simp [CT]
theorem CT_gives6 : CT.gives 6 = .data := by simp [CT]
theorem CT_gives53 : CT.gives 53 = .data := by simp [CT]
theorem CT_gives81 : CT.gives 81 = .data := by simp [CT]
theorem CT_gives54 : CT.gives 54 = .data := by simp [CT]
theorem CT_gives55 : CT.gives 55 = .move := by simp [CT]
theorem CT_gives59 : CT.gives 59 = .move := by simp [CT]
theorem CT_gives34 : CT.gives 34 = .data := by simp [CT]
theorem CT_gives35 : CT.gives 35 = .data := by simp [CT]
theorem CT_gives16 : CT.gives 16 = .data := by simp [CT]
theorem CT_gives17 : CT.gives 17 = .data := by simp [CT]
theorem CT_gives39 : CT.gives 39 = .data := by simp [CT]
theorem CT_gives40 : CT.gives 40 = .data := by simp [CT]
theorem CT_gives30 : CT.gives 30 = .data := by simp [CT]
theorem CT_gives18 : CT.gives 18 = .data := by simp [CT]
theorem CT_gives9 : CT.gives 9 = .data := by simp [CT]
theorem CT_gives31 : CT.gives 31 = .data := by simp [CT]
theorem CT_gives14 : CT.gives 14 = .data := by simp [CT]
theorem CT_gives7 : CT.gives 7 = .data := by simp [CT]
theorem CT_gives115 : CT.gives 115 = .data := by simp [CT]
theorem CT_gives86 : CT.gives 86 = .data := by simp [CT]
theorem CT_gives87 : CT.gives 87 = .data := by simp [CT]
theorem CT_gives88 : CT.gives 88 = .move := by simp [CT]
theorem CT_gives61 : CT.gives 61 = .data := by simp [CT]
theorem CT_gives41 : CT.gives 41 = .data := by simp [CT]
theorem CT_gives28 : CT.gives 28 = .data := by simp [CT]
theorem CT_gives19 : CT.gives 19 = .data := by simp [CT]
theorem CT_gives42 : CT.gives 42 = .data := by simp [CT]
theorem CT_gives33 : CT.gives 33 = .data := by simp [CT]
theorem CT_gives20 : CT.gives 20 = .data := by simp [CT]
theorem CT_gives21 : CT.gives 21 = .data := by simp [CT]
theorem CT_gives10 : CT.gives 10 = .data := by simp [CT]
theorem CT_gives52 : CT.gives 52 = .data := by simp [CT]
theorem CT_gives32 : CT.gives 32 = .data := by simp [CT]
theorem CT_gives15 : CT.gives 15 = .data := by simp [CT]
theorem CT_gives8 : CT.gives 8 = .data := by simp [CT]
theorem CT_gives5 : CT.gives 5 = .data := by simp [CT]
theorem CT_gives3 : CT.gives 3 = .data := by simp [CT]
theorem CT_gives43 : CT.gives 43 = .data := by simp [CT]
theorem CT_gives45 : CT.gives 45 = .data := by simp [CT]
theorem CT_gives66 : CT.gives 66 = .data := by simp [CT]
theorem CT_gives65 : CT.gives 65 = .data := by simp [CT]
theorem CT_gives67 : CT.gives 67 = .data := by simp [CT]
theorem CT_gives47 : CT.gives 47 = .data := by simp [CT]
theorem CT_gives68 : CT.gives 68 = .data := by simp [CT]
theorem CT_gives70 : CT.gives 70 = .data := by simp [CT]
theorem CT_gives69 : CT.gives 69 = .data := by simp [CT]
theorem CT_gives116 : CT.gives 116 = .data := by simp [CT]
theorem CT_gives117 : CT.gives 117 = .data := by simp [CT]
theorem CT_gives132 : CT.gives 132 = .data := by simp [CT]
theorem CT_gives133 : CT.gives 133 = .data := by simp [CT]
theorem CT_gives134 : CT.gives 134 = .data := by simp [CT]
theorem CT_gives118 : CT.gives 118 = .data := by simp [CT]
theorem CT_gives94 : CT.gives 94 = .data := by simp [CT]
theorem CT_gives71 : CT.gives 71 = .data := by simp [CT]
theorem CT_gives72 : CT.gives 72 = .data := by simp [CT]
theorem CT_gives46 : CT.gives 46 = .data := by simp [CT]
theorem CT_gives22 : CT.gives 22 = .data := by simp [CT]
theorem CT_gives24 : CT.gives 24 = .data := by simp [CT]
theorem CT_gives23 : CT.gives 23 = .data := by simp [CT]
theorem CT_gives73 : CT.gives 73 = .data := by simp [CT]
theorem CT_gives98 : CT.gives 98 = .data := by simp [CT]
theorem CT_gives126 : CT.gives 126 = .data := by simp [CT]
theorem CT_gives125 : CT.gives 125 = .data := by simp [CT]
theorem CT_gives124 : CT.gives 124 = .data := by simp [CT]
theorem CT_gives79 : CT.gives 79 = .data := by simp [CT]
theorem CT_gives123 : CT.gives 123 = .data := by simp [CT]
theorem CT_gives135 : CT.gives 135 = .data := by simp [CT]
theorem CT_gives122 : CT.gives 122 = .data := by simp [CT]
theorem CT_gives103 : CT.gives 103 = .data := by simp [CT]
theorem CT_gives78 : CT.gives 78 = .data := by simp [CT]
theorem CT_gives50 : CT.gives 50 = .data := by simp [CT]
theorem CT_gives11 : CT.gives 11 = .data := by simp [CT]
theorem CT_gives29 : CT.gives 29 = .data := by simp [CT]
theorem CT_gives12 : CT.gives 12 = .data := by simp [CT]
theorem CT_gives4 : CT.gives 4 = .data := by simp [CT]
theorem CT_how13_0 : CT.how 13 0 = .data := by simp [CT]
theorem CT_how13_1 : CT.how 13 1 = .data := by simp [CT]
theorem CT_how13_2 : CT.how 13 2 = .data := by simp [CT]
theorem CT_how6_0 : CT.how 6 0 = .data := by simp [CT]
theorem CT_how53_0 : CT.how 53 0 = .data := by simp [CT]
theorem CT_how81_0 : CT.how 81 0 = .data := by simp [CT]
theorem CT_how81_1 : CT.how 81 1 = .data := by simp [CT]
theorem CT_how54_0 : CT.how 54 0 = .data := by simp [CT]
theorem CT_how54_1 : CT.how 54 1 = .data := by simp [CT]
theorem CT_how55_0 : CT.how 55 0 = .data := by simp [CT]
theorem CT_how59_0 : CT.how 59 0 = .move := by simp [CT]
theorem CT_how59_1 : CT.how 59 1 = .data := by simp [CT]
theorem CT_how34_0 : CT.how 34 0 = .data := by simp [CT]
theorem CT_how35_0 : CT.how 35 0 = .data := by simp [CT]
theorem CT_how35_1 : CT.how 35 1 = .data := by simp [CT]
theorem CT_how16_0 : CT.how 16 0 = .data := by simp [CT]
theorem CT_how17_0 : CT.how 17 0 = .data := by simp [CT]
theorem CT_how39_0 : CT.how 39 0 = .data := by simp [CT]
theorem CT_how40_0 : CT.how 40 0 = .data := by simp [CT]
theorem CT_how30_0 : CT.how 30 0 = .data := by simp [CT]
theorem CT_how30_1 : CT.how 30 1 = .data := by simp [CT]
theorem CT_how18_0 : CT.how 18 0 = .data := by simp [CT]
theorem CT_how18_1 : CT.how 18 1 = .data := by simp [CT]
theorem CT_how18_2 : CT.how 18 2 = .data := by simp [CT]
theorem CT_how18_3 : CT.how 18 3 = .data := by simp [CT]
theorem CT_how9_0 : CT.how 9 0 = .data := by simp [CT]
theorem CT_how31_0 : CT.how 31 0 = .data := by simp [CT]
theorem CT_how31_1 : CT.how 31 1 = .data := by simp [CT]
theorem CT_how14_0 : CT.how 14 0 = .data := by simp [CT]
theorem CT_how14_1 : CT.how 14 1 = .data := by simp [CT]
theorem CT_how7_0 : CT.how 7 0 = .data := by simp [CT]
theorem CT_how115_0 : CT.how 115 0 = .data := by simp [CT]
theorem CT_how115_1 : CT.how 115 1 = .data := by simp [CT]
theorem CT_how86_0 : CT.how 86 0 = .data := by simp [CT]
theorem CT_how86_1 : CT.how 86 1 = .data := by simp [CT]
theorem CT_how87_0 : CT.how 87 0 = .data := by simp [CT]
theorem CT_how87_1 : CT.how 87 1 = .data := by simp [CT]
theorem CT_how88_0 : CT.how 88 0 = .move := by simp [CT]
theorem CT_how88_1 : CT.how 88 1 = .data := by simp [CT]
theorem CT_how88_2 : CT.how 88 2 = .data := by simp [CT]
theorem CT_how61_0 : CT.how 61 0 = .data := by simp [CT]
theorem CT_how61_1 : CT.how 61 1 = .data := by simp [CT]
theorem CT_how61_2 : CT.how 61 2 = .data := by simp [CT]
theorem CT_how41_0 : CT.how 41 0 = .data := by simp [CT]
theorem CT_how28_0 : CT.how 28 0 = .data := by simp [CT]
theorem CT_how28_1 : CT.how 28 1 = .data := by simp [CT]
theorem CT_how19_0 : CT.how 19 0 = .data := by simp [CT]
theorem CT_how42_0 : CT.how 42 0 = .data := by simp [CT]
theorem CT_how33_0 : CT.how 33 0 = .data := by simp [CT]
theorem CT_how33_1 : CT.how 33 1 = .data := by simp [CT]
theorem CT_how20_0 : CT.how 20 0 = .data := by simp [CT]
theorem CT_how20_1 : CT.how 20 1 = .data := by simp [CT]
theorem CT_how20_2 : CT.how 20 2 = .data := by simp [CT]
theorem CT_how20_3 : CT.how 20 3 = .data := by simp [CT]
theorem CT_how21_0 : CT.how 21 0 = .data := by simp [CT]
theorem CT_how21_1 : CT.how 21 1 = .data := by simp [CT]
theorem CT_how10_0 : CT.how 10 0 = .data := by simp [CT]
theorem CT_how52_0 : CT.how 52 0 = .data := by simp [CT]
theorem CT_how32_0 : CT.how 32 0 = .data := by simp [CT]
theorem CT_how15_0 : CT.how 15 0 = .data := by simp [CT]
theorem CT_how15_1 : CT.how 15 1 = .data := by simp [CT]
theorem CT_how8_0 : CT.how 8 0 = .data := by simp [CT]
theorem CT_how3_0 : CT.how 3 0 = .data := by simp [CT]
theorem CT_how43_0 : CT.how 43 0 = .data := by simp [CT]
theorem CT_how45_0 : CT.how 45 0 = .data := by simp [CT]
theorem CT_how64_0 : CT.how 64 0 = .data := by simp [CT]
theorem CT_how64_1 : CT.how 64 1 = .data := by simp [CT]
theorem CT_how66_0 : CT.how 66 0 = .data := by simp [CT]
theorem CT_how66_1 : CT.how 66 1 = .data := by simp [CT]
theorem CT_how65_0 : CT.how 65 0 = .data := by simp [CT]
theorem CT_how67_0 : CT.how 67 0 = .data := by simp [CT]
theorem CT_how44_0 : CT.how 44 0 = .data := by simp [CT]
theorem CT_how47_0 : CT.how 47 0 = .data := by simp [CT]
theorem CT_how93_0 : CT.how 93 0 = .data := by simp [CT]
theorem CT_how68_0 : CT.how 68 0 = .data := by simp [CT]
theorem CT_how68_1 : CT.how 68 1 = .data := by simp [CT]
theorem CT_how70_0 : CT.how 70 0 = .data := by simp [CT]
theorem CT_how69_0 : CT.how 69 0 = .data := by simp [CT]
theorem CT_how116_0 : CT.how 116 0 = .data := by simp [CT]
theorem CT_how117_0 : CT.how 117 0 = .data := by simp [CT]
theorem CT_how132_0 : CT.how 132 0 = .data := by simp [CT]
theorem CT_how133_0 : CT.how 133 0 = .data := by simp [CT]
theorem CT_how134_0 : CT.how 134 0 = .data := by simp [CT]
theorem CT_how118_0 : CT.how 118 0 = .data := by simp [CT]
theorem CT_how94_0 : CT.how 94 0 = .data := by simp [CT]
theorem CT_how71_0 : CT.how 71 0 = .data := by simp [CT]
theorem CT_how72_0 : CT.how 72 0 = .data := by simp [CT]
theorem CT_how46_0 : CT.how 46 0 = .data := by simp [CT]
theorem CT_how46_1 : CT.how 46 1 = .data := by simp [CT]
theorem CT_how22_0 : CT.how 22 0 = .data := by simp [CT]
theorem CT_how24_0 : CT.how 24 0 = .data := by simp [CT]
theorem CT_how23_0 : CT.how 23 0 = .data := by simp [CT]
theorem CT_how25_0 : CT.how 25 0 = .data := by simp [CT]
theorem CT_how25_1 : CT.how 25 1 = .data := by simp [CT]
theorem CT_how73_0 : CT.how 73 0 = .data := by simp [CT]
theorem CT_how73_1 : CT.how 73 1 = .data := by simp [CT]
theorem CT_how48_0 : CT.how 48 0 = .data := by simp [CT]
theorem CT_how48_1 : CT.how 48 1 = .data := by simp [CT]
theorem CT_how98_0 : CT.how 98 0 = .data := by simp [CT]
theorem CT_how126_0 : CT.how 126 0 = .data := by simp [CT]
theorem CT_how125_0 : CT.how 125 0 = .data := by simp [CT]
theorem CT_how124_0 : CT.how 124 0 = .data := by simp [CT]
theorem CT_how124_1 : CT.how 124 1 = .data := by simp [CT]
theorem CT_how79_0 : CT.how 79 0 = .data := by simp [CT]
theorem CT_how79_1 : CT.how 79 1 = .data := by simp [CT]
theorem CT_how123_0 : CT.how 123 0 = .data := by simp [CT]
theorem CT_how123_1 : CT.how 123 1 = .data := by simp [CT]
theorem CT_how135_0 : CT.how 135 0 = .data := by simp [CT]
theorem CT_how135_1 : CT.how 135 1 = .data := by simp [CT]
theorem CT_how135_2 : CT.how 135 2 = .data := by simp [CT]
theorem CT_how122_0 : CT.how 122 0 = .data := by simp [CT]
theorem CT_how122_1 : CT.how 122 1 = .data := by simp [CT]
theorem CT_how122_2 : CT.how 122 2 = .data := by simp [CT]
theorem CT_how103_0 : CT.how 103 0 = .data := by simp [CT]
theorem CT_how103_1 : CT.how 103 1 = .data := by simp [CT]
theorem CT_how78_0 : CT.how 78 0 = .data := by simp [CT]
theorem CT_how78_1 : CT.how 78 1 = .data := by simp [CT]
theorem CT_how50_0 : CT.how 50 0 = .data := by simp [CT]
theorem CT_how50_1 : CT.how 50 1 = .data := by simp [CT]
theorem CT_how27_0 : CT.how 27 0 = .data := by simp [CT]
theorem CT_how11_0 : CT.how 11 0 = .data := by simp [CT]
theorem CT_how29_0 : CT.how 29 0 = .data := by simp [CT]
theorem CT_how29_1 : CT.how 29 1 = .data := by simp [CT]
theorem CT_how12_0 : CT.how 12 0 = .data := by simp [CT]
theorem CT_how12_1 : CT.how 12 1 = .data := by simp [CT]
theorem CT_how4_0 : CT.how 4 0 = .data := by simp [CT]
theorem moveGive_nil {h : Heap} {s : St} : moveGive h s (.cv .nil) = some ([.cv .nil], h) := rfl
theorem moveGive_row {h : Heap} {s : St} {k : Nat} {xs : List DVal} : moveGive h s (.cv (.row k xs)) = some ([.cv (.row k xs)], h) := rfl
attribute [go_sem] moveGive_nil moveGive_row
theorem sizes_rep1 {n : Nat} {a b : DVal} : sizesOk 2 (List.replicate n (.agg [a, b])) = true := by simp [sizesOk, DVal.cells]
theorem sizes_rep2 {n : Nat} {a b c : DVal} : sizesOk 3 (List.replicate n (.agg [a, b, c])) = true := by simp [sizesOk, DVal.cells]
theorem sizes_rep3 {n : Nat} {k : IntKind} {a : Int} : sizesOk 1 (List.replicate n (.int k a)) = true := by simp [sizesOk, DVal.cells]
theorem sizes_rep4 {n : Nat} {a : Bool} : sizesOk 1 (List.replicate n (.bool a)) = true := by simp [sizesOk, DVal.cells]
attribute [go_sem] sizes_rep1 sizes_rep2 sizes_rep3 sizes_rep4 List.length_replicate decide_true Nat.lt_irrefl
theorem sizes_app {k : Nat} {xs ys : List DVal} : sizesOk k (xs ++ ys) = (sizesOk k xs && sizesOk k ys) := by simp [sizesOk]
theorem sizes_int {k : IntKind} {a : Int} {xs : List DVal} : sizesOk 1 (.int k a :: xs) = sizesOk 1 xs := by simp [sizesOk, DVal.cells]
theorem sizes_no {k : Nat} : sizesOk k [] = true := rfl
attribute [go_sem] sizes_app sizes_int sizes_no Bool.and_true Bool.true_and
theorem resd13 {s : St} {r : ResultVar} {rs : List ResultVar} : results CT 13 s (r :: rs) = resHead CT 13 s rs (resVal CT.P s r) := results_data CT_gives13
theorem resd6 {s : St} {r : ResultVar} {rs : List ResultVar} : results CT 6 s (r :: rs) = resHead CT 6 s rs (resVal CT.P s r) := results_data CT_gives6
theorem resd53 {s : St} {r : ResultVar} {rs : List ResultVar} : results CT 53 s (r :: rs) = resHead CT 53 s rs (resVal CT.P s r) := results_data CT_gives53
theorem resd81 {s : St} {r : ResultVar} {rs : List ResultVar} : results CT 81 s (r :: rs) = resHead CT 81 s rs (resVal CT.P s r) := results_data CT_gives81
theorem resd54 {s : St} {r : ResultVar} {rs : List ResultVar} : results CT 54 s (r :: rs) = resHead CT 54 s rs (resVal CT.P s r) := results_data CT_gives54
theorem resd34 {s : St} {r : ResultVar} {rs : List ResultVar} : results CT 34 s (r :: rs) = resHead CT 34 s rs (resVal CT.P s r) := results_data CT_gives34
theorem resd35 {s : St} {r : ResultVar} {rs : List ResultVar} : results CT 35 s (r :: rs) = resHead CT 35 s rs (resVal CT.P s r) := results_data CT_gives35
theorem resd16 {s : St} {r : ResultVar} {rs : List ResultVar} : results CT 16 s (r :: rs) = resHead CT 16 s rs (resVal CT.P s r) := results_data CT_gives16
theorem resd17 {s : St} {r : ResultVar} {rs : List ResultVar} : results CT 17 s (r :: rs) = resHead CT 17 s rs (resVal CT.P s r) := results_data CT_gives17
theorem resd39 {s : St} {r : ResultVar} {rs : List ResultVar} : results CT 39 s (r :: rs) = resHead CT 39 s rs (resVal CT.P s r) := results_data CT_gives39
theorem resd40 {s : St} {r : ResultVar} {rs : List ResultVar} : results CT 40 s (r :: rs) = resHead CT 40 s rs (resVal CT.P s r) := results_data CT_gives40
theorem resd30 {s : St} {r : ResultVar} {rs : List ResultVar} : results CT 30 s (r :: rs) = resHead CT 30 s rs (resVal CT.P s r) := results_data CT_gives30
theorem resd18 {s : St} {r : ResultVar} {rs : List ResultVar} : results CT 18 s (r :: rs) = resHead CT 18 s rs (resVal CT.P s r) := results_data CT_gives18
theorem resd9 {s : St} {r : ResultVar} {rs : List ResultVar} : results CT 9 s (r :: rs) = resHead CT 9 s rs (resVal CT.P s r) := results_data CT_gives9
theorem resd31 {s : St} {r : ResultVar} {rs : List ResultVar} : results CT 31 s (r :: rs) = resHead CT 31 s rs (resVal CT.P s r) := results_data CT_gives31
theorem resd14 {s : St} {r : ResultVar} {rs : List ResultVar} : results CT 14 s (r :: rs) = resHead CT 14 s rs (resVal CT.P s r) := results_data CT_gives14
theorem resd7 {s : St} {r : ResultVar} {rs : List ResultVar} : results CT 7 s (r :: rs) = resHead CT 7 s rs (resVal CT.P s r) := results_data CT_gives7
theorem resd115 {s : St} {r : ResultVar} {rs : List ResultVar} : results CT 115 s (r :: rs) = resHead CT 115 s rs (resVal CT.P s r) := results_data CT_gives115
theorem resd86 {s : St} {r : ResultVar} {rs : List ResultVar} : results CT 86 s (r :: rs) = resHead CT 86 s rs (resVal CT.P s r) := results_data CT_gives86
theorem resd87 {s : St} {r : ResultVar} {rs : List ResultVar} : results CT 87 s (r :: rs) = resHead CT 87 s rs (resVal CT.P s r) := results_data CT_gives87
theorem resd61 {s : St} {r : ResultVar} {rs : List ResultVar} : results CT 61 s (r :: rs) = resHead CT 61 s rs (resVal CT.P s r) := results_data CT_gives61
theorem resd41 {s : St} {r : ResultVar} {rs : List ResultVar} : results CT 41 s (r :: rs) = resHead CT 41 s rs (resVal CT.P s r) := results_data CT_gives41
theorem resd28 {s : St} {r : ResultVar} {rs : List ResultVar} : results CT 28 s (r :: rs) = resHead CT 28 s rs (resVal CT.P s r) := results_data CT_gives28
theorem resd19 {s : St} {r : ResultVar} {rs : List ResultVar} : results CT 19 s (r :: rs) = resHead CT 19 s rs (resVal CT.P s r) := results_data CT_gives19
theorem resd42 {s : St} {r : ResultVar} {rs : List ResultVar} : results CT 42 s (r :: rs) = resHead CT 42 s rs (resVal CT.P s r) := results_data CT_gives42
theorem resd33 {s : St} {r : ResultVar} {rs : List ResultVar} : results CT 33 s (r :: rs) = resHead CT 33 s rs (resVal CT.P s r) := results_data CT_gives33
theorem resd20 {s : St} {r : ResultVar} {rs : List ResultVar} : results CT 20 s (r :: rs) = resHead CT 20 s rs (resVal CT.P s r) := results_data CT_gives20
theorem resd21 {s : St} {r : ResultVar} {rs : List ResultVar} : results CT 21 s (r :: rs) = resHead CT 21 s rs (resVal CT.P s r) := results_data CT_gives21
theorem resd10 {s : St} {r : ResultVar} {rs : List ResultVar} : results CT 10 s (r :: rs) = resHead CT 10 s rs (resVal CT.P s r) := results_data CT_gives10
theorem resd52 {s : St} {r : ResultVar} {rs : List ResultVar} : results CT 52 s (r :: rs) = resHead CT 52 s rs (resVal CT.P s r) := results_data CT_gives52
theorem resd32 {s : St} {r : ResultVar} {rs : List ResultVar} : results CT 32 s (r :: rs) = resHead CT 32 s rs (resVal CT.P s r) := results_data CT_gives32
theorem resd15 {s : St} {r : ResultVar} {rs : List ResultVar} : results CT 15 s (r :: rs) = resHead CT 15 s rs (resVal CT.P s r) := results_data CT_gives15
theorem resd8 {s : St} {r : ResultVar} {rs : List ResultVar} : results CT 8 s (r :: rs) = resHead CT 8 s rs (resVal CT.P s r) := results_data CT_gives8
theorem resd5 {s : St} {r : ResultVar} {rs : List ResultVar} : results CT 5 s (r :: rs) = resHead CT 5 s rs (resVal CT.P s r) := results_data CT_gives5
theorem resd3 {s : St} {r : ResultVar} {rs : List ResultVar} : results CT 3 s (r :: rs) = resHead CT 3 s rs (resVal CT.P s r) := results_data CT_gives3
theorem resd43 {s : St} {r : ResultVar} {rs : List ResultVar} : results CT 43 s (r :: rs) = resHead CT 43 s rs (resVal CT.P s r) := results_data CT_gives43
theorem resd45 {s : St} {r : ResultVar} {rs : List ResultVar} : results CT 45 s (r :: rs) = resHead CT 45 s rs (resVal CT.P s r) := results_data CT_gives45
theorem resd66 {s : St} {r : ResultVar} {rs : List ResultVar} : results CT 66 s (r :: rs) = resHead CT 66 s rs (resVal CT.P s r) := results_data CT_gives66
theorem resd65 {s : St} {r : ResultVar} {rs : List ResultVar} : results CT 65 s (r :: rs) = resHead CT 65 s rs (resVal CT.P s r) := results_data CT_gives65
theorem resd67 {s : St} {r : ResultVar} {rs : List ResultVar} : results CT 67 s (r :: rs) = resHead CT 67 s rs (resVal CT.P s r) := results_data CT_gives67
theorem resd47 {s : St} {r : ResultVar} {rs : List ResultVar} : results CT 47 s (r :: rs) = resHead CT 47 s rs (resVal CT.P s r) := results_data CT_gives47
theorem resd68 {s : St} {r : ResultVar} {rs : List ResultVar} : results CT 68 s (r :: rs) = resHead CT 68 s rs (resVal CT.P s r) := results_data CT_gives68
theorem resd70 {s : St} {r : ResultVar} {rs : List ResultVar} : results CT 70 s (r :: rs) = resHead CT 70 s rs (resVal CT.P s r) := results_data CT_gives70
theorem resd69 {s : St} {r : ResultVar} {rs : List ResultVar} : results CT 69 s (r :: rs) = resHead CT 69 s rs (resVal CT.P s r) := results_data CT_gives69
theorem resd116 {s : St} {r : ResultVar} {rs : List ResultVar} : results CT 116 s (r :: rs) = resHead CT 116 s rs (resVal CT.P s r) := results_data CT_gives116
theorem resd117 {s : St} {r : ResultVar} {rs : List ResultVar} : results CT 117 s (r :: rs) = resHead CT 117 s rs (resVal CT.P s r) := results_data CT_gives117
theorem resd132 {s : St} {r : ResultVar} {rs : List ResultVar} : results CT 132 s (r :: rs) = resHead CT 132 s rs (resVal CT.P s r) := results_data CT_gives132
theorem resd133 {s : St} {r : ResultVar} {rs : List ResultVar} : results CT 133 s (r :: rs) = resHead CT 133 s rs (resVal CT.P s r) := results_data CT_gives133
theorem resd134 {s : St} {r : ResultVar} {rs : List ResultVar} : results CT 134 s (r :: rs) = resHead CT 134 s rs (resVal CT.P s r) := results_data CT_gives134
theorem resd118 {s : St} {r : ResultVar} {rs : List ResultVar} : results CT 118 s (r :: rs) = resHead CT 118 s rs (resVal CT.P s r) := results_data CT_gives118
theorem resd94 {s : St} {r : ResultVar} {rs : List ResultVar} : results CT 94 s (r :: rs) = resHead CT 94 s rs (resVal CT.P s r) := results_data CT_gives94
theorem resd71 {s : St} {r : ResultVar} {rs : List ResultVar} : results CT 71 s (r :: rs) = resHead CT 71 s rs (resVal CT.P s r) := results_data CT_gives71
theorem resd72 {s : St} {r : ResultVar} {rs : List ResultVar} : results CT 72 s (r :: rs) = resHead CT 72 s rs (resVal CT.P s r) := results_data CT_gives72
theorem resd46 {s : St} {r : ResultVar} {rs : List ResultVar} : results CT 46 s (r :: rs) = resHead CT 46 s rs (resVal CT.P s r) := results_data CT_gives46
theorem resd22 {s : St} {r : ResultVar} {rs : List ResultVar} : results CT 22 s (r :: rs) = resHead CT 22 s rs (resVal CT.P s r) := results_data CT_gives22
theorem resd24 {s : St} {r : ResultVar} {rs : List ResultVar} : results CT 24 s (r :: rs) = resHead CT 24 s rs (resVal CT.P s r) := results_data CT_gives24
theorem resd23 {s : St} {r : ResultVar} {rs : List ResultVar} : results CT 23 s (r :: rs) = resHead CT 23 s rs (resVal CT.P s r) := results_data CT_gives23
theorem resd73 {s : St} {r : ResultVar} {rs : List ResultVar} : results CT 73 s (r :: rs) = resHead CT 73 s rs (resVal CT.P s r) := results_data CT_gives73
theorem resd98 {s : St} {r : ResultVar} {rs : List ResultVar} : results CT 98 s (r :: rs) = resHead CT 98 s rs (resVal CT.P s r) := results_data CT_gives98
theorem resd126 {s : St} {r : ResultVar} {rs : List ResultVar} : results CT 126 s (r :: rs) = resHead CT 126 s rs (resVal CT.P s r) := results_data CT_gives126
theorem resd125 {s : St} {r : ResultVar} {rs : List ResultVar} : results CT 125 s (r :: rs) = resHead CT 125 s rs (resVal CT.P s r) := results_data CT_gives125
theorem resd124 {s : St} {r : ResultVar} {rs : List ResultVar} : results CT 124 s (r :: rs) = resHead CT 124 s rs (resVal CT.P s r) := results_data CT_gives124
theorem resd79 {s : St} {r : ResultVar} {rs : List ResultVar} : results CT 79 s (r :: rs) = resHead CT 79 s rs (resVal CT.P s r) := results_data CT_gives79
theorem resd123 {s : St} {r : ResultVar} {rs : List ResultVar} : results CT 123 s (r :: rs) = resHead CT 123 s rs (resVal CT.P s r) := results_data CT_gives123
theorem resd135 {s : St} {r : ResultVar} {rs : List ResultVar} : results CT 135 s (r :: rs) = resHead CT 135 s rs (resVal CT.P s r) := results_data CT_gives135
theorem resd122 {s : St} {r : ResultVar} {rs : List ResultVar} : results CT 122 s (r :: rs) = resHead CT 122 s rs (resVal CT.P s r) := results_data CT_gives122
theorem resd103 {s : St} {r : ResultVar} {rs : List ResultVar} : results CT 103 s (r :: rs) = resHead CT 103 s rs (resVal CT.P s r) := results_data CT_gives103
theorem resd78 {s : St} {r : ResultVar} {rs : List ResultVar} : results CT 78 s (r :: rs) = resHead CT 78 s rs (resVal CT.P s r) := results_data CT_gives78
theorem resd50 {s : St} {r : ResultVar} {rs : List ResultVar} : results CT 50 s (r :: rs) = resHead CT 50 s rs (resVal CT.P s r) := results_data CT_gives50
theorem resd11 {s : St} {r : ResultVar} {rs : List ResultVar} : results CT 11 s (r :: rs) = resHead CT 11 s rs (resVal CT.P s r) := results_data CT_gives11
theorem resd29 {s : St} {r : ResultVar} {rs : List ResultVar} : results CT 29 s (r :: rs) = resHead CT 29 s rs (resVal CT.P s r) := results_data CT_gives29
theorem resd12 {s : St} {r : ResultVar} {rs : List ResultVar} : results CT 12 s (r :: rs) = resHead CT 12 s rs (resVal CT.P s r) := results_data CT_gives12
theorem resd4 {s : St} {r : ResultVar} {rs : List ResultVar} : results CT 4 s (r :: rs) = resHead CT 4 s rs (resVal CT.P s r) := results_data CT_gives4
theorem resd55 {s : St} {t : Nat} : results CT 55 s [.tmp t] = moveGive s.box s (s.get t) := results_move CT_gives55
theorem resd59 {s : St} {t : Nat} : results CT 59 s [.tmp t] = moveGive s.box s (s.get t) := results_move CT_gives59
theorem resd88 {s : St} {t : Nat} : results CT 88 s [.tmp t] = moveGive s.box s (s.get t) := results_move CT_gives88
attribute [go_sem] resd13 Tryz.results13 resd6 Tryz.results6 resd53 Tryz.results53 resd81 Tryz.results81 resd54 Tryz.results54 resd55 Tryz.results55 resd59 Tryz.results59 resd34 Tryz.results34 resd35 Tryz.results35 resd16 Tryz.results16 resd17 Tryz.results17 resd39 Tryz.results39 resd40 Tryz.results40 resd30 Tryz.results30 resd18 Tryz.results18 resd9 Tryz.results9 resd31 Tryz.results31 resd14 Tryz.results14 resd7 Tryz.results7 resd115 Tryz.results115 resd86 Tryz.results86 resd87 Tryz.results87 resd88 Tryz.results88 resd61 Tryz.results61 resd41 Tryz.results41 resd28 Tryz.results28 resd19 Tryz.results19 resd42 Tryz.results42 resd33 Tryz.results33 resd20 Tryz.results20 resd21 Tryz.results21 resd10 Tryz.results10 resd52 Tryz.results52 resd32 Tryz.results32 resd15 Tryz.results15 resd8 Tryz.results8 resd5 Tryz.results5 resd3 Tryz.results3 resd43 Tryz.results43 resd45 Tryz.results45 Tryz.results64 resd66 Tryz.results66 resd65 Tryz.results65 resd67 Tryz.results67 Tryz.results44 resd47 Tryz.results47 Tryz.results93 resd68 Tryz.results68 resd70 Tryz.results70 resd69 Tryz.results69 resd116 Tryz.results116 resd117 Tryz.results117 resd132 Tryz.results132 resd133 Tryz.results133 resd134 Tryz.results134 resd118 Tryz.results118 resd94 Tryz.results94 resd71 Tryz.results71 resd72 Tryz.results72 resd46 Tryz.results46 resd22 Tryz.results22 resd24 Tryz.results24 resd23 Tryz.results23 Tryz.results25 resd73 Tryz.results73 Tryz.results48 resd98 Tryz.results98 resd126 Tryz.results126 resd125 Tryz.results125 resd124 Tryz.results124 resd79 Tryz.results79 resd123 Tryz.results123 resd135 Tryz.results135 resd122 Tryz.results122 resd103 Tryz.results103 resd78 Tryz.results78 resd50 Tryz.results50 Tryz.results27 resd11 Tryz.results11 resd29 Tryz.results29 resd12 Tryz.results12 resd4 Tryz.results4
theorem info38 : Tryz.prog.info? 38 = some Tryz.t38 := info_of someWorld Tryz.typeInfo38
theorem info36 : Tryz.prog.info? 36 = some Tryz.t36 := info_of someWorld Tryz.typeInfo36
theorem info25 : Tryz.prog.info? 25 = some Tryz.t25 := info_of someWorld Tryz.typeInfo25
theorem info22 : Tryz.prog.info? 22 = some Tryz.t22 := info_of someWorld Tryz.typeInfo22
theorem info23 : Tryz.prog.info? 23 = some Tryz.t23 := info_of someWorld Tryz.typeInfo23
theorem info35 : Tryz.prog.info? 35 = some Tryz.t35 := info_of someWorld Tryz.typeInfo35
theorem info40 : Tryz.prog.info? 40 = some Tryz.t40 := info_of someWorld Tryz.typeInfo40
theorem info74 : Tryz.prog.info? 74 = some Tryz.t74 := info_of someWorld Tryz.typeInfo74
theorem info3 : Tryz.prog.info? 3 = some Tryz.t3 := info_of someWorld Tryz.typeInfo3
theorem info48 : Tryz.prog.info? 48 = some Tryz.t48 := info_of someWorld Tryz.typeInfo48
theorem info4 : Tryz.prog.info? 4 = some Tryz.t4 := info_of someWorld Tryz.typeInfo4
theorem info9 : Tryz.prog.info? 9 = some Tryz.t9 := info_of someWorld Tryz.typeInfo9
theorem info5 : Tryz.prog.info? 5 = some Tryz.t5 := info_of someWorld Tryz.typeInfo5
theorem info86 : Tryz.prog.info? 86 = some Tryz.t86 := info_of someWorld Tryz.typeInfo86
theorem info109 : Tryz.prog.info? 109 = some Tryz.t109 := info_of someWorld Tryz.typeInfo109
theorem info29 : Tryz.prog.info? 29 = some Tryz.t29 := info_of someWorld Tryz.typeInfo29
theorem info63 : Tryz.prog.info? 63 = some Tryz.t63 := info_of someWorld Tryz.typeInfo63
theorem info89 : Tryz.prog.info? 89 = some Tryz.t89 := info_of someWorld Tryz.typeInfo89
theorem info53 : Tryz.prog.info? 53 = some Tryz.t53 := info_of someWorld Tryz.typeInfo53
theorem info58 : Tryz.prog.info? 58 = some Tryz.t58 := info_of someWorld Tryz.typeInfo58
theorem info59 : Tryz.prog.info? 59 = some Tryz.t59 := info_of someWorld Tryz.typeInfo59
theorem info96 : Tryz.prog.info? 96 = some Tryz.t96 := info_of someWorld Tryz.typeInfo96
theorem info56 : Tryz.prog.info? 56 = some Tryz.t56 := info_of someWorld Tryz.typeInfo56
theorem info61 : Tryz.prog.info? 61 = some Tryz.t61 := info_of someWorld Tryz.typeInfo61
theorem cells38 : Tryz.prog.cellsOf 38 = 3 := (cells_of info38).trans rfl
theorem cells36 : Tryz.prog.cellsOf 36 = 1 := (cells_of info36).trans rfl
theorem cells25 : Tryz.prog.cellsOf 25 = 2 := (cells_of info25).trans rfl
theorem cells22 : Tryz.prog.cellsOf 22 = 1 := (cells_of info22).trans rfl
theorem cells23 : Tryz.prog.cellsOf 23 = 1 := (cells_of info23).trans rfl
theorem cells35 : Tryz.prog.cellsOf 35 = 1 := (cells_of info35).trans rfl
theorem cells40 : Tryz.prog.cellsOf 40 = 7 := (cells_of info40).trans rfl
theorem cells74 : Tryz.prog.cellsOf 74 = 2 := (cells_of info74).trans rfl
theorem cells3 : Tryz.prog.cellsOf 3 = 1 := (cells_of info3).trans rfl
theorem cells48 : Tryz.prog.cellsOf 48 = 2 := (cells_of info48).trans rfl
theorem cells9 : Tryz.prog.cellsOf 9 = 1 := (cells_of info9).trans rfl
theorem cells4 : Tryz.prog.cellsOf 4 = 1 := (cells_of info4).trans rfl
theorem cells5 : Tryz.prog.cellsOf 5 = 1 := (cells_of info5).trans rfl
theorem cells86 : Tryz.prog.cellsOf 86 = 1 := (cells_of info86).trans rfl
theorem cells109 : Tryz.prog.cellsOf 109 = 4 := (cells_of info109).trans rfl
theorem cells29 : Tryz.prog.cellsOf 29 = 1 := (cells_of info29).trans rfl
theorem cells63 : Tryz.prog.cellsOf 63 = 4 := (cells_of info63).trans rfl
theorem cells89 : Tryz.prog.cellsOf 89 = 4 := (cells_of info89).trans rfl
theorem cells53 : Tryz.prog.cellsOf 53 = 1 := (cells_of info53).trans rfl
theorem cells58 : Tryz.prog.cellsOf 58 = 3 := (cells_of info58).trans rfl
theorem cells59 : Tryz.prog.cellsOf 59 = 1 := (cells_of info59).trans rfl
theorem cells96 : Tryz.prog.cellsOf 96 = 1 := (cells_of info96).trans rfl
theorem cells56 : Tryz.prog.cellsOf 56 = 1 := (cells_of info56).trans rfl
theorem cells61 : Tryz.prog.cellsOf 61 = 6 := (cells_of info61).trans rfl
theorem zok74 : zeroOk Tryz.prog 74 = true := by unfold zeroOk; rw [info74]; rfl
theorem bytes74 : Tryz.prog.bytesOf 74 = 16 := (bytes_of info74).trans rfl
theorem zfits74 : zeroFits Tryz.prog 74 = true := by unfold zeroFits; rw [info74]; rfl
theorem zeros74 : zeroCVs Tryz.prog 74 = some [.val (.int .i64 (0 : Int)), .val (.int .i64 (0 : Int))] := by
  unfold zeroCVs isAg; rw [info74, Tryz.underlying74]; simp [bs, zeroCV, Tryz.t74]
theorem zeros3 : zeroCVs Tryz.prog 3 = some [.val (.int .i64 (0 : Int))] := by
  unfold zeroCVs isAg; rw [info3, Tryz.underlying3]; simp [bs, zeroCV, Tryz.t3]
theorem eqs74 : Tryz.prog.stoodInHeld 74 = false := by kernel_rfl
theorem eqg74 : Tryz.prog.eqGuardType Tryz.prog.depth 74 = false := by kernel_rfl
theorem eqBeql74 {a0 b0 : Int} {a1 b1 : Int} : eqBin Tryz.prog .eql 74 (.agg [.int .i64 a0, .int .i64 a1]) (.agg [.int .i64 b0, .int .i64 b1]) = some (.bool (a0 == b0 && (a1 == b1 && true))) :=
  eqBin_eql (eqD_of Tryz.underlying74 eqs74 eqg74 (eqF_cons (by simp [isAg, Tryz.underlying3]) (by simp [eqF1, Tryz.underlying3, scalarEq, bs_beq']) (eqF_cons (by simp [isAg, Tryz.underlying3]) (by simp [eqF1, Tryz.underlying3, scalarEq, bs_beq']) eqF_nil)))
theorem eqBneq74 {a0 b0 : Int} {a1 b1 : Int} : eqBin Tryz.prog .neq 74 (.agg [.int .i64 a0, .int .i64 a1]) (.agg [.int .i64 b0, .int .i64 b1]) = some (.bool (!(a0 == b0 && (a1 == b1 && true)))) :=
  eqBin_neq (eqD_of Tryz.underlying74 eqs74 eqg74 (eqF_cons (by simp [isAg, Tryz.underlying3]) (by simp [eqF1, Tryz.underlying3, scalarEq, bs_beq']) (eqF_cons (by simp [isAg, Tryz.underlying3]) (by simp [eqF1, Tryz.underlying3, scalarEq, bs_beq']) eqF_nil)))
theorem zeros38 : zeroCVs Tryz.prog 38 = some [.val (.int .i64 (0 : Int)), .val (.int .i64 (0 : Int)), .nil] := by
  unfold zeroCVs isAg; rw [info38, Tryz.underlying38]; simp [bs, zeroCV, Tryz.t38]
theorem zeros36 : zeroCVs Tryz.prog 36 = some [.nil] := by
  unfold zeroCVs isAg; rw [info36, Tryz.underlying36]; simp [bs, zeroCV, Tryz.t36]
theorem fok48 : fieldsOk Tryz.prog 48 = true := by
  unfold fieldsOk; rw [Tryz.underlying48]; simp [info3, info3]
theorem place48_0 : place Tryz.prog 48 0 = some (0, 1) := by
  unfold place; rw [Tryz.underlying48]; simp [cells3]
theorem place48_1 : place Tryz.prog 48 1 = some (1, 1) := by
  unfold place; rw [Tryz.underlying48]; simp [cells3]
theorem zeros48 : zeroCVs Tryz.prog 48 = some [.val (.int .i64 (0 : Int)), .val (.int .i64 (0 : Int))] := by
  unfold zeroCVs isAg; rw [info48, Tryz.underlying48]; simp [bs, zeroCV, Tryz.t48]
theorem zeros40 : zeroCVs Tryz.prog 40 = some [.val (.bool false), .val (.int .i64 (0 : Int)), .val (.int .i64 (0 : Int)), .nil, .val (.int .i64 (0 : Int)), .val (.int .i64 (0 : Int)), .nil] := by
  unfold zeroCVs isAg; rw [info40, Tryz.underlying40]; simp [bs, zeroCV, Tryz.t40]
theorem zeros4 : zeroCVs Tryz.prog 4 = some [.val (.bool false)] := by
  unfold zeroCVs isAg; rw [info4, Tryz.underlying4]; simp [bs, zeroCV, Tryz.t4]
theorem zok9 : zeroOk Tryz.prog 9 = true := by unfold zeroOk; rw [info9]; rfl
theorem bytes9 : Tryz.prog.bytesOf 9 = 16 := (bytes_of info9).trans rfl
theorem zfits9 : zeroFits Tryz.prog 9 = true := by unfold zeroFits; rw [info9]; rfl
theorem bytes5 : Tryz.prog.bytesOf 5 = 1 := (bytes_of info5).trans rfl
theorem zfits5 : zeroFits Tryz.prog 5 = true := by unfold zeroFits; rw [info5]; rfl
theorem zok3 : zeroOk Tryz.prog 3 = true := by unfold zeroOk; rw [info3]; rfl
theorem bytes3 : Tryz.prog.bytesOf 3 = 8 := (bytes_of info3).trans rfl
theorem zfits3 : zeroFits Tryz.prog 3 = true := by unfold zeroFits; rw [info3]; rfl
theorem fok74 : fieldsOk Tryz.prog 74 = true := by
  unfold fieldsOk; rw [Tryz.underlying74]; simp [info3, info3]
theorem place74_0 : place Tryz.prog 74 0 = some (0, 1) := by
  unfold place; rw [Tryz.underlying74]; simp [cells3]
theorem place74_1 : place Tryz.prog 74 1 = some (1, 1) := by
  unfold place; rw [Tryz.underlying74]; simp [cells3]
theorem zok5 : zeroOk Tryz.prog 5 = true := by unfold zeroOk; rw [info5]; rfl
theorem u8_5 : isU8 Tryz.prog 5 = true := by unfold isU8; rw [Tryz.underlying5]
theorem eqb4 {a b : Bool} : eqBin Tryz.prog .eql 4 (.bool a) (.bool b) = some (.bool (a == b)) := by simp [eqBin, eqD, Tryz.underlying4, scalarEq]
theorem neb4 {a b : Bool} : eqBin Tryz.prog .neq 4 (.bool a) (.bool b) = some (.bool (!(a == b))) := by simp [eqBin, eqD, Tryz.underlying4, scalarEq]
theorem zeros63 : zeroCVs Tryz.prog 63 = some [.val (.int .i64 (0 : Int)), .val (.int .i64 (0 : Int)), .val (.str (bs ([] : Str))), .nil] := by
  unfold zeroCVs isAg; rw [info63, Tryz.underlying63]; simp [bs, zeroCV, Tryz.t63]
theorem zeros9 : zeroCVs Tryz.prog 9 = some [.val (.str (bs ([] : Str)))] := by
  unfold zeroCVs isAg; rw [info9, Tryz.underlying9]; simp [bs, zeroCV, Tryz.t9]
theorem zeros35 : zeroCVs Tryz.prog 35 = some [.nil] := by
  unfold zeroCVs isAg; rw [info35, Tryz.underlying35]; simp [bs, zeroCV, Tryz.t35]
theorem fok63 : fieldsOk Tryz.prog 63 = true := by
  unfold fieldsOk; rw [Tryz.underlying63]; simp [info3, info3, info9, info35]
theorem place63_0 : place Tryz.prog 63 0 = some (0, 1) := by
  unfold place; rw [Tryz.underlying63]; simp [cells3]
theorem place63_1 : place Tryz.prog 63 1 = some (1, 1) := by
  unfold place; rw [Tryz.underlying63]; simp [cells3]
theorem place63_2 : place Tryz.prog 63 2 = some (2, 1) := by
  unfold place; rw [Tryz.underlying63]; simp [cells9]
theorem place63_3 : place Tryz.prog 63 3 = some (3, 1) := by
  unfold place; rw [Tryz.underlying63]; simp [cells35]
theorem fok89 : fieldsOk Tryz.prog 89 = true := by
  unfold fieldsOk; rw [Tryz.underlying89]; simp [info86, info3, info3, info29]
theorem place89_0 : place Tryz.prog 89 0 = some (0, 1) := by
  unfold place; rw [Tryz.underlying89]; simp [cells86]
theorem place89_1 : place Tryz.prog 89 1 = some (1, 1) := by
  unfold place; rw [Tryz.underlying89]; simp [cells3]
theorem place89_2 : place Tryz.prog 89 2 = some (2, 1) := by
  unfold place; rw [Tryz.underlying89]; simp [cells3]
theorem place89_3 : place Tryz.prog 89 3 = some (3, 1) := by
  unfold place; rw [Tryz.underlying89]; simp [cells29]
theorem zeros89 : zeroCVs Tryz.prog 89 = some [.nil, .val (.int .i64 (0 : Int)), .val (.int .i64 (0 : Int)), .val (.int .i64 (0 : Int))] := by
  unfold zeroCVs isAg; rw [info89, Tryz.underlying89]; simp [bs, zeroCV, Tryz.t89]
theorem zeros86 : zeroCVs Tryz.prog 86 = some [.nil] := by
  unfold zeroCVs isAg; rw [info86, Tryz.underlying86]; simp [bs, zeroCV, Tryz.t86]
theorem zeros29 : zeroCVs Tryz.prog 29 = some [.val (.int .i64 (0 : Int))] := by
  unfold zeroCVs isAg; rw [info29, Tryz.underlying29]; simp [bs, zeroCV, Tryz.t29]
theorem zok63 : zeroOk Tryz.prog 63 = true := by unfold zeroOk; rw [info63]; rfl
theorem bytes63 : Tryz.prog.bytesOf 63 = 56 := (bytes_of info63).trans rfl
theorem zfits63 : zeroFits Tryz.prog 63 = true := by unfold zeroFits; rw [info63]; rfl
theorem zd35 : zeroD Tryz.prog 35 = some (.sl (List.map eRange [])) := by
  unfold zeroD ofCells isAg; rw [zeros35, cells35, Tryz.underlying35]; simp [toDs, CV.toD, bs, DVal.cells]
theorem zok35 : zeroOk Tryz.prog 35 = true := by unfold zeroOk; rw [info35]; rfl
theorem bytes35 : Tryz.prog.bytesOf 35 = 24 := (bytes_of info35).trans rfl
theorem zfits35 : zeroFits Tryz.prog 35 = true := by unfold zeroFits; rw [info35]; rfl
theorem fok38 : fieldsOk Tryz.prog 38 = true := by
  unfold fieldsOk; rw [Tryz.underlying38]; simp [info3, info3, info36]
theorem place38_0 : place Tryz.prog 38 0 = some (0, 1) := by
  unfold place; rw [Tryz.underlying38]; simp [cells3]
theorem place38_1 : place Tryz.prog 38 1 = some (1, 1) := by
  unfold place; rw [Tryz.underlying38]; simp [cells3]
theorem place38_2 : place Tryz.prog 38 2 = some (2, 1) := by
  unfold place; rw [Tryz.underlying38]; simp [cells36]
theorem zok38 : zeroOk Tryz.prog 38 = true := by unfold zeroOk; rw [info38]; rfl
theorem bytes38 : Tryz.prog.bytesOf 38 = 40 := (bytes_of info38).trans rfl
theorem zfits38 : zeroFits Tryz.prog 38 = true := by unfold zeroFits; rw [info38]; rfl
theorem fok40 : fieldsOk Tryz.prog 40 = true := by
  unfold fieldsOk; rw [Tryz.underlying40]; simp [info4, info38, info38]
theorem place40_0 : place Tryz.prog 40 0 = some (0, 1) := by
  unfold place; rw [Tryz.underlying40]; simp [cells4]
theorem place40_1 : place Tryz.prog 40 1 = some (1, 3) := by
  unfold place; rw [Tryz.underlying40]; simp [cells38]
theorem place40_2 : place Tryz.prog 40 2 = some (4, 3) := by
  unfold place; rw [Tryz.underlying40]; simp [cells38]
theorem zok40 : zeroOk Tryz.prog 40 = true := by unfold zeroOk; rw [info40]; rfl
theorem bytes40 : Tryz.prog.bytesOf 40 = 88 := (bytes_of info40).trans rfl
theorem zfits40 : zeroFits Tryz.prog 40 = true := by unfold zeroFits; rw [info40]; rfl
theorem zeros25 : zeroCVs Tryz.prog 25 = some [.nil, .nil] := by
  unfold zeroCVs isAg; rw [info25, Tryz.underlying25]; simp [bs, zeroCV, Tryz.t25]
theorem zeros22 : zeroCVs Tryz.prog 22 = some [.nil] := by
  unfold zeroCVs isAg; rw [info22, Tryz.underlying22]; simp [bs, zeroCV, Tryz.t22]
theorem zeros23 : zeroCVs Tryz.prog 23 = some [.nil] := by
  unfold zeroCVs isAg; rw [info23, Tryz.underlying23]; simp [bs, zeroCV, Tryz.t23]
theorem fok25 : fieldsOk Tryz.prog 25 = true := by
  unfold fieldsOk; rw [Tryz.underlying25]; simp [info22, info23]
theorem place25_0 : place Tryz.prog 25 0 = some (0, 1) := by
  unfold place; rw [Tryz.underlying25]; simp [cells22]
theorem place25_1 : place Tryz.prog 25 1 = some (1, 1) := by
  unfold place; rw [Tryz.underlying25]; simp [cells23]
theorem fok58 : fieldsOk Tryz.prog 58 = true := by
  unfold fieldsOk; rw [Tryz.underlying58]; simp [info53, info3, info29]
theorem place58_0 : place Tryz.prog 58 0 = some (0, 1) := by
  unfold place; rw [Tryz.underlying58]; simp [cells53]
theorem place58_1 : place Tryz.prog 58 1 = some (1, 1) := by
  unfold place; rw [Tryz.underlying58]; simp [cells3]
theorem place58_2 : place Tryz.prog 58 2 = some (2, 1) := by
  unfold place; rw [Tryz.underlying58]; simp [cells29]
theorem zeros58 : zeroCVs Tryz.prog 58 = some [.nil, .val (.int .i64 (0 : Int)), .val (.int .i64 (0 : Int))] := by
  unfold zeroCVs isAg; rw [info58, Tryz.underlying58]; simp [bs, zeroCV, Tryz.t58]
theorem zeros53 : zeroCVs Tryz.prog 53 = some [.nil] := by
  unfold zeroCVs isAg; rw [info53, Tryz.underlying53]; simp [bs, zeroCV, Tryz.t53]
theorem fok61 : fieldsOk Tryz.prog 61 = true := by
  unfold fieldsOk; rw [Tryz.underlying61]; simp [info58, info59, info25]
theorem place61_0 : place Tryz.prog 61 0 = some (0, 3) := by
  unfold place; rw [Tryz.underlying61]; simp [cells58]
theorem place61_1 : place Tryz.prog 61 1 = some (3, 1) := by
  unfold place; rw [Tryz.underlying61]; simp [cells59]
theorem place61_2 : place Tryz.prog 61 2 = some (4, 2) := by
  unfold place; rw [Tryz.underlying61]; simp [cells25]
theorem zeros61 : zeroCVs Tryz.prog 61 = some [.nil, .val (.int .i64 (0 : Int)), .val (.int .i64 (0 : Int)), .val (.map none), .nil, .nil] := by
  unfold zeroCVs isAg; rw [info61, Tryz.underlying61]; simp [bs, zeroCV, Tryz.t61]
theorem zeros59 : zeroCVs Tryz.prog 59 = some [.val (.map none)] := by
  unfold zeroCVs isAg; rw [info59, Tryz.underlying59]; simp [bs, zeroCV, Tryz.t59]
attribute [go_sem] CT_P cells38 Tryz.underlying38 cells36 Tryz.underlying36 Tryz.underlying3 cells25 Tryz.underlying25 cells22 Tryz.underlying22 cells23 Tryz.underlying23 cells35 Tryz.underlying35 cells40 Tryz.underlying40 cells74 Tryz.underlying74 cells3 zok74 bytes74 zfits74 zeros74 zeros3 eqBeql74 eqBneq74 Tryz.underlying29 Tryz.underlying48 zeros38 zeros36 Tryz.underlying43 Tryz.underlying9 fok48 place48_0 place48_1 zeros48 cells48 zeros40 Tryz.underlying4 zeros4 Tryz.underlying69 cells9 zok9 bytes9 zfits9 cells4 Tryz.underlying28 cells5 bytes5 zfits5 Tryz.underlying126 zok3 bytes3 zfits3 fok74 place74_0 place74_1 zok5 u8_5 eqb4 neb4 Tryz.underlying89 cells86 Tryz.underlying86 cells109 Tryz.underlying109 Tryz.underlying5 cells29 Tryz.underlying63 zeros63 zeros9 zeros35 fok63 place63_0 place63_1 place63_2 place63_3 cells63 fok89 place89_0 place89_1 place89_2 place89_3 zeros89 zeros86 zeros29 cells89 Tryz.underlying53 zok63 bytes63 zfits63 Tryz.underlying58 cells53 Tryz.underlying61 cells58 cells59 Tryz.underlying59 zd35 zok35 bytes35 zfits35 fok38 place38_0 place38_1 place38_2 cells96 Tryz.underlying96 cells56 Tryz.underlying56 zok38 bytes38 zfits38 fok40 place40_0 place40_1 place40_2 zok40 bytes40 zfits40 zeros25 zeros22 zeros23 fok25 place25_0 place25_1 fok58 place58_0 place58_1 place58_2 zeros58 zeros53 fok61 place61_0 place61_1 place61_2 zeros61 zeros59 cells61
attribute [go_sem] CT_how13_0 CT_how13_1 CT_how13_2 CT_how6_0 CT_how53_0 CT_how81_0 CT_how81_1 CT_how54_0 CT_how54_1 CT_how55_0 CT_how59_0 CT_how59_1 CT_how34_0 CT_how35_0 CT_how35_1 CT_how16_0 CT_how17_0 CT_how39_0 CT_how40_0 CT_how30_0 CT_how30_1 CT_how18_0 CT_how18_1 CT_how18_2 CT_how18_3 CT_how9_0 CT_how31_0 CT_how31_1 CT_how14_0 CT_how14_1 CT_how7_0 CT_how115_0 CT_how115_1 CT_how86_0 CT_how86_1 CT_how87_0 CT_how87_1 CT_how88_0 CT_how88_1 CT_how88_2 CT_how61_0 CT_how61_1 CT_how61_2 CT_how41_0 CT_how28_0 CT_how28_1 CT_how19_0 CT_how42_0 CT_how33_0 CT_how33_1 CT_how20_0 CT_how20_1 CT_how20_2 CT_how20_3 CT_how21_0 CT_how21_1 CT_how10_0 CT_how52_0 CT_how32_0 CT_how15_0 CT_how15_1 CT_how8_0 CT_how3_0 CT_how43_0 CT_how45_0 CT_how64_0 CT_how64_1 CT_how66_0 CT_how66_1 CT_how65_0 CT_how67_0 CT_how44_0 CT_how47_0 CT_how93_0 CT_how68_0 CT_how68_1 CT_how70_0 CT_how69_0 CT_how116_0 CT_how117_0 CT_how132_0 CT_how133_0 CT_how134_0 CT_how118_0 CT_how94_0 CT_how71_0 CT_how72_0 CT_how46_0 CT_how46_1 CT_how22_0 CT_how24_0 CT_how23_0 CT_how25_0 CT_how25_1 CT_how73_0 CT_how73_1 CT_how48_0 CT_how48_1 CT_how98_0 CT_how126_0 CT_how125_0 CT_how124_0 CT_how124_1 CT_how79_0 CT_how79_1 CT_how123_0 CT_how123_1 CT_how135_0 CT_how135_1 CT_how135_2 CT_how122_0 CT_how122_1 CT_how122_2 CT_how103_0 CT_how103_1 CT_how78_0 CT_how78_1 CT_how50_0 CT_how50_1 CT_how27_0 CT_how11_0 CT_how29_0 CT_how29_1 CT_how12_0 CT_how12_1 CT_how4_0
end Go.Val

/- part LR -/
/- Typed data of the law's arguments (chapter 08). -/
namespace Go.Val
open Go.Proofs
set_option maxRecDepth 100000
theorem mixed : Tryz.prog.follows .mixedOrders = true := by kernel_rfl
theorem isT_Range {m : Nat} {ds : List DVal} (h : isT Tryz.prog m 74 ds) : ∃ x : TRange, ds = (eRange x).cells := by
  cases m with
  | zero => exact h.elim
  | succ m =>
  unfold isT at h
  rw [Tryz.underlying74] at h
  simp only [isF] at h
  obtain ⟨a, b, rfl, h1, c, d, rfl, h2, rfl⟩ := h
  cases m with
  | zero => exact h1.elim
  | succ m =>
  obtain ⟨n, rfl, _⟩ := isT_i64 Tryz.underlying3 h1
  obtain ⟨k, rfl, _⟩ := isT_i64 Tryz.underlying3 h2
  exact ⟨⟨n, k⟩, rfl⟩
theorem isT_ranges {m : Nat} {ds : List DVal} (h : isT Tryz.prog m 35 ds) : ∃ l : List TRange, ds = [eL eRange l] := by
  cases m with
  | zero => exact h.elim
  | succ m =>
  obtain ⟨l, h1, _⟩ := isT_slice (en := eRange) Tryz.underlying35 h fun x hx hag _ => by
    obtain ⟨y, hy⟩ := isT_Range hx
    obtain ⟨cs, rfl⟩ := hag (by simp [isAg, Tryz.underlying74])
    exact ⟨y, by simp only [DVal.cells] at hy; rw [hy]; rfl⟩
  exact ⟨l, h1⟩
theorem isT_rangess {m : Nat} {ds : List DVal} (h : isT Tryz.prog m 22 ds) : ∃ l : List (List TRange), ds = [eL (eL eRange) l] := by
  cases m with
  | zero => exact h.elim
  | succ m =>
  obtain ⟨l, h1, _⟩ := isT_slice (en := eL eRange) Tryz.underlying22 h fun x hx _ ho => by
    obtain ⟨l, hl⟩ := isT_ranges hx
    exact ⟨l, one_of hl (ho (by simp [isAg, Tryz.underlying35]))⟩
  exact ⟨l, h1⟩
theorem isT_Node : ∀ {m : Nat} {ds : List DVal}, isT Tryz.prog m 38 ds → ∃ x : TNode, ds = (eNode x).cells
  | 0, ds, h => h.elim
  | 1, ds, h => by
    unfold isT at h
    rw [Tryz.underlying38] at h
    simp only [isF] at h
    obtain ⟨a, b, rfl, h1, _⟩ := h
    exact h1.elim
  | m + 2, ds, h => by
    have ih := @isT_Node m
    unfold isT at h
    rw [Tryz.underlying38] at h
    simp only [isF] at h
    obtain ⟨a, b, rfl, h1, c, d, rfl, h2, e, f, rfl, h3, rfl⟩ := h
    obtain ⟨n, rfl, _⟩ := isT_i64 Tryz.underlying3 h1
    obtain ⟨k, rfl, _⟩ := isT_i64 Tryz.underlying3 h2
    obtain ⟨l, rfl, _⟩ := isT_slice (en := eNode) Tryz.underlying36 h3 fun x hx hag _ => by
      obtain ⟨y, hy⟩ := ih hx
      obtain ⟨cs, rfl⟩ := hag (by simp [isAg, Tryz.underlying38])
      exact ⟨y, by rw [eNode_eq] at hy ⊢; simp only [DVal.cells] at hy; rw [hy]⟩
    exact ⟨⟨n, k, l⟩, by rw [eNode_eq]; rfl⟩
theorem isT_Rule {m : Nat} {ds : List DVal} (h : isT Tryz.prog m 40 ds) : ∃ x : TRule, ds = (eRule x).cells := by
  cases m with
  | zero => exact h.elim
  | succ m =>
  unfold isT at h
  rw [Tryz.underlying40] at h
  simp only [isF] at h
  obtain ⟨a, b, rfl, h1, c, d, rfl, h2, e, f, rfl, h3, rfl⟩ := h
  cases m with
  | zero => exact h1.elim
  | succ m =>
  obtain ⟨n, rfl⟩ := isT_bool Tryz.underlying4 h1
  obtain ⟨x, rfl⟩ := isT_Node h2
  obtain ⟨y, rfl⟩ := isT_Node h3
  exact ⟨⟨n, x, y⟩, by rw [eNode_eq, eNode_eq]; rfl⟩
theorem isT_Program {m : Nat} {ds : List DVal} (h : isT Tryz.prog m 25 ds) : ∃ x : TProgram, ds = (eProgram x).cells := by
  cases m with
  | zero => exact h.elim
  | succ m =>
  unfold isT at h
  rw [Tryz.underlying25] at h
  simp only [isF] at h
  obtain ⟨a, b, rfl, h1, c, d, rfl, h2, rfl⟩ := h
  obtain ⟨x, rfl⟩ := isT_rangess h1
  cases m with
  | zero => exact h2.elim
  | succ m =>
  obtain ⟨y, rfl, _⟩ := isT_slice (en := eRule) Tryz.underlying23 h2 fun x hx hag _ => by
    obtain ⟨y, hy⟩ := isT_Rule hx
    obtain ⟨cs, rfl⟩ := hag (by simp [isAg, Tryz.underlying40])
    exact ⟨y, by simp only [DVal.cells] at hy; rw [hy]; rfl⟩
  exact ⟨⟨x, y⟩, rfl⟩
theorem closed0 : closedT Tryz.prog [25, 22, 23, 35, 74, 36, 38, 40, 3, 4] = true := by kernel_rfl
end Go.Val

/- part LU1 -/
/- Units of bytes, in the machine: what is known between steps. -/
namespace Go.Proofs.IR
open Go.RowKit Go.Shelf Go.Val
attribute [local go_sem] Oper.semAt_some
def unitV (x : TUnit) : Value := .agg #[.int .i64 x.Rune, .int .i64 x.At, .int .i64 x.Width, .bool x.Bad]
def uBad (k : Nat) : TUnit := ⟨65533, k, 1, true⟩
def uFin (k n : Nat) : Option Nat → TUnit
  | none => uBad k
  | some q => if uRight q && uWidth q == n then ⟨q, k, n, false⟩ else uBad k
set_option maxRecDepth 100000 in
theorem right_inI (m : Nat) (r : Int) (w : World) : CallsIn Fence.wide m Tryz.prog 91 #[.int .i64 r] w fun e w' => e = .returned (.bool (decide (0 ≤ r) && (decide (r ≤ 1114111) && (decide (r < 55296) || decide (57343 < r))))) ∧ w' = w := by
  refine callsIn_wide.2 ?_
  go_enter Tryz.func91, Tryz.ntmps91
  by_cases h0 : 0 ≤ r
  · by_cases h1 : r ≤ 1114111
    · by_cases h2 : r < 55296
      · go_wp2
        all_goals go_ret
        all_goals exact ⟨by simp [*] <;> omega, rfl⟩
      · go_wp2
        all_goals go_ret
        all_goals exact ⟨by simp [*] <;> omega, rfl⟩
    · go_wp2
      all_goals go_ret
      all_goals exact ⟨by simp [*] <;> omega, rfl⟩
  · go_wp2
    all_goals go_ret
    all_goals exact ⟨by simp [*] <;> omega, rfl⟩
theorem right_in (m : Nat) (r : Nat) (w : World) : CallsIn Fence.wide m Tryz.prog 91 #[.int .i64 r] w fun e w' => e = .returned (.bool (uRight r)) ∧ w' = w := by
  have h := right_inI m r w
  have e : (decide (0 ≤ (r : Int)) && (decide ((r : Int) ≤ 1114111) && (decide ((r : Int) < 55296) || decide (57343 < (r : Int))))) = uRight r := by
    unfold uRight
    have e0 : decide (0 ≤ (r : Int)) = true := decide_eq_true (by omega)
    have e1 : decide ((r : Int) ≤ 1114111) = decide (r ≤ 1114111) := decide_eq_decide.2 (by omega)
    have e2 : decide ((r : Int) < 55296) = decide (r < 55296) := decide_eq_decide.2 (by omega)
    have e3 : decide (57343 < (r : Int)) = decide (r > 57343) := decide_eq_decide.2 (by omega)
    rw [e0, e1, e2, e3, Bool.true_and]
  rw [e] at h
  exact h
set_option maxRecDepth 100000 in
theorem width_inI (m : Nat) (r : Int) (w : World) : CallsIn Fence.wide m Tryz.prog 92 #[.int .i64 r] w fun e w' => e = .returned (.int .i64 (if r < 128 then 1 else if r < 2048 then 2 else if r < 65536 then 3 else 4)) ∧ w' = w := by
  refine callsIn_wide.2 ?_
  go_enter Tryz.func92, Tryz.ntmps92
  by_cases h1 : r < 128
  · go_wp2
    all_goals go_ret
    all_goals exact ⟨rfl, rfl⟩
  rw [if_neg h1]
  by_cases h2 : r < 2048
  · go_wp2
    all_goals go_ret
    all_goals exact ⟨rfl, rfl⟩
  rw [if_neg h2]
  by_cases h3 : r < 65536
  · go_wp2
    all_goals go_ret
    all_goals exact ⟨rfl, rfl⟩
  · rw [if_neg h3]
    go_wp2
    all_goals go_ret
    all_goals exact ⟨rfl, rfl⟩
theorem width_in (m : Nat) (r : Nat) (w : World) : CallsIn Fence.wide m Tryz.prog 92 #[.int .i64 r] w fun e w' => e = .returned (.int .i64 (uWidth r)) ∧ w' = w := by
  have h := width_inI m r w
  have e : (if (r : Int) < 128 then 1 else if (r : Int) < 2048 then 2 else if (r : Int) < 65536 then 3 else 4 : Int) = (uWidth r : Int) := by
    unfold uWidth
    repeat' split
    all_goals omega
  rw [e] at h
  exact h

theorem arr_lit (a : Array Value) (h : a.size = 111) : ∃ g : Nat → Value, (∀ i v, a[i]? = some v → g i = v) ∧ a = #[g 0, g 1, g 2, g 3, g 4, g 5, g 6, g 7, g 8, g 9, g 10, g 11, g 12, g 13, g 14, g 15, g 16, g 17, g 18, g 19, g 20, g 21, g 22, g 23, g 24, g 25, g 26, g 27, g 28, g 29, g 30, g 31, g 32, g 33, g 34, g 35, g 36, g 37, g 38, g 39, g 40, g 41, g 42, g 43, g 44, g 45, g 46, g 47, g 48, g 49, g 50, g 51, g 52, g 53, g 54, g 55, g 56, g 57, g 58, g 59, g 60, g 61, g 62, g 63, g 64, g 65, g 66, g 67, g 68, g 69, g 70, g 71, g 72, g 73, g 74, g 75, g 76, g 77, g 78, g 79, g 80, g 81, g 82, g 83, g 84, g 85, g 86, g 87, g 88, g 89, g 90, g 91, g 92, g 93, g 94, g 95, g 96, g 97, g 98, g 99, g 100, g 101, g 102, g 103, g 104, g 105, g 106, g 107, g 108, g 109, g 110] := by
  refine ⟨fun i => a.getD i undef, fun i v hv => by simp [Array.getD_eq_getD_getElem?, hv], ?_⟩
  apply Array.ext'
  have e : a.toList = (List.range 111).map fun i => a.getD i undef := by
    apply List.ext_getElem
    · simp [h]
    · intro i h1 h2
      have hi : i < a.size := by simpa using h1
      simp [Array.getD, hi]
  rw [e]
  rfl
def Mid (l Bs k : Nat) (I : World → Prop) (P : Nat → Int → Prop) (e : Exit) (a : Act) (w : World) : Prop :=
  e = .normal ∧ I w ∧ a.defers = [] ∧ a.tmps.size = 111 ∧ a.tmps[0]? = some (.func (.yield l) #[] #[]) ∧ a.tmps[1]? = some (.pointer (some ⟨Bs, 0, none⟩)) ∧ a.tmps[2]? = some undef ∧ a.tmps[3]? = some (.int .i64 (k : Int)) ∧
    ∃ (n : Nat) (x : Int), a.tmps[4]? = some (.int .i64 (n : Int)) ∧ a.tmps[5]? = some (.int .i64 x) ∧ P n x
theorem Mid.out {l Bs k : Nat} {I : World → Prop} {P : Nat → Int → Prop} {e : Exit} {a : Act} {w : World} (h : Mid l Bs k I P e a w) : e = .normal ∧ I w ∧ ∃ (n : Nat) (x : Int) (g : Nat → Value), P n x ∧ a = { tmps := #[.func (.yield l) #[] #[], .pointer (some ⟨Bs, 0, none⟩), undef, .int .i64 (k : Int), .int .i64 (n : Int), .int .i64 x, g 6, g 7, g 8, g 9, g 10, g 11, g 12, g 13, g 14, g 15, g 16, g 17, g 18, g 19, g 20, g 21, g 22, g 23, g 24, g 25, g 26, g 27, g 28, g 29, g 30, g 31, g 32, g 33, g 34, g 35, g 36, g 37, g 38, g 39, g 40, g 41, g 42, g 43, g 44, g 45, g 46, g 47, g 48, g 49, g 50, g 51, g 52, g 53, g 54, g 55, g 56, g 57, g 58, g 59, g 60, g 61, g 62, g 63, g 64, g 65, g 66, g 67, g 68, g 69, g 70, g 71, g 72, g 73, g 74, g 75, g 76, g 77, g 78, g 79, g 80, g 81, g 82, g 83, g 84, g 85, g 86, g 87, g 88, g 89, g 90, g 91, g 92, g 93, g 94, g 95, g 96, g 97, g 98, g 99, g 100, g 101, g 102, g 103, g 104, g 105, g 106, g 107, g 108, g 109, g 110], defers := [] } := by
  obtain ⟨he, hI, hd, hs, h0, h1, h2, h3, n, x, h4, h5, hP⟩ := h
  obtain ⟨g, hg, e⟩ := arr_lit a.tmps hs
  refine ⟨he, hI, n, x, g, hP, ?_⟩
  cases a with
  | mk tmps defers =>
    simp only at hd e hg h0 h1 h2 h3 h4 h5
    subst hd
    rw [e, hg 0 _ h0, hg 1 _ h1, hg 2 _ h2, hg 3 _ h3, hg 4 _ h4, hg 5 _ h5]

/-- What is kept: the box with the bytes' slice, and the bytes. -/
def Kat (zs : List UInt8) (Bs b : Nat) (A B : World) : Prop := B.heap[Bs]? = A.heap[Bs]? ∧ (zs ≠ [] → B.heap[b]? = A.heap[b]?)
theorem Kat.refl (zs : List UInt8) (Bs b : Nat) (A : World) : Kat zs Bs b A A := ⟨rfl, fun _ => rfl⟩
theorem Kat.trans {zs : List UInt8} {Bs b : Nat} {A B C : World} (h : Kat zs Bs b A B) (k : Kat zs Bs b B C) : Kat zs Bs b A C := ⟨k.1.trans h.1, fun e => (k.2 e).trans (h.2 e)⟩
theorem Kat.drew {zs : List UInt8} {Bs b : Nat} {A B : World} (h : Kat zs Bs b A B) : Kat zs Bs b A B.drew := h
theorem Kat.cellB {zs : List UInt8} {Bs b : Nat} {A B : World} (h : Kat zs Bs b A B) (j : Nat) : B.cell? ⟨Bs, j, none⟩ = A.cell? ⟨Bs, j, none⟩ := by simp only [World.cell?, h.1]
theorem Kat.cellb {zs : List UInt8} {Bs b : Nat} {A B : World} (h : Kat zs Bs b A B) (e : zs ≠ []) (j : Nat) : B.cell? ⟨b, j, none⟩ = A.cell? ⟨b, j, none⟩ := by simp only [World.cell?, h.2 e]
theorem Kat.of_below {zs : List UInt8} {Bs b n : Nat} {A B : World} (h : Below n A B) (h1 : Bs < n) (h2 : zs ≠ [] → b < n) : Kat zs Bs b A B := ⟨h.block Bs h1, fun e => h.block b (h2 e)⟩
theorem Kat.put {zs : List UInt8} {Bs b n : Nat} (h1 : Bs < n) (h2 : zs ≠ [] → b < n) (W : World) (l : Nat) (o o' : Obj) (hl : n ≤ l) (_ : W.heap[l]? = some o) (_ : o.isCells = false) (_ : o.isWalk = false) : Kat zs Bs b W (W.putObj l o') :=
  ⟨World.putObj_heap_other (by omega), fun e => World.putObj_heap_other (by have := h2 e; omega)⟩
theorem ne_of_lt {zs : List UInt8} {j : Nat} (h : j < zs.length) : zs ≠ [] := by intro e; rw [e] at h; simp at h
/-- What is known behind the first byte: nothing goes on, or so many bytes, and their first bits. -/
def Pst (zs : List UInt8) (k i n : Nat) (x : Int) : Prop := n ≤ 4 ∧ (n = 0 → uFirst k (zs.drop k) = uBad k) ∧ (n ≠ 0 → i ≤ n ∧ n ≤ zs.length - k ∧ ∃ r : Nat, x = r ∧ r < 128 * 64 ^ (i - 1) ∧ uFirst k (zs.drop k) = uFin k n (uMore (n - i) (zs.drop (k + i)) r))
/-- The same, ahead of the look at how many bytes there are. -/
def Pre (zs : List UInt8) (k n : Nat) (x : Int) : Prop := n ≤ 4 ∧ (n = 0 → uFirst k (zs.drop k) = uBad k) ∧ (n ≠ 0 → ∃ r : Nat, x = r ∧ r < 128 ∧ uFirst k (zs.drop k) = uFin k n (uMore (n - 1) (zs.drop (k + 1)) r))
theorem drop_at {zs : List UInt8} {k : Nat} (h : k < zs.length) : zs.drop k = zs[k] :: zs.drop (k + 1) := List.drop_eq_getElem_cons h
theorem pre_of {zs : List UInt8} {k : Nat} (h : k < zs.length) (n r : Nat) (hu : uHead zs[k].toNat = (n, r)) (hn : n ≤ 4) (hn1 : n ≠ 0 → r < 128) (x : Int) (hx : n ≠ 0 → x = r) : Pre zs k n x := by
  refine ⟨hn, fun h0 => ?_, fun h0 => ⟨r, hx h0, hn1 h0, ?_⟩⟩
  · subst h0
    rw [drop_at h]
    simp only [uFirst, hu]
    rfl
  · obtain ⟨n, rfl⟩ : ∃ m, n = m + 1 := ⟨n - 1, by omega⟩
    rw [drop_at h]
    simp only [uFirst, hu, Nat.add_sub_cancel]
    cases uMore n (zs.drop (k + 1)) r <;> rfl
theorem wrapN {n : Nat} (h : n < 9223372036854775808) : RowKit.wrap64 (n : Int) = n := by unfold RowKit.wrap64; omega
theorem maskN (i : Nat) (hi : i ≤ 62) {n : Nat} (h : n < 4611686018427387904) : bits .and .i64 (n : Int) (2 ^ i - 1) = ((n % 2 ^ i : Nat) : Int) := by
  rw [bits_mask .i64 62 (by decide) (fun m h0 h1 => by rw [IntKind.wrap_i64]; omega) i hi (n : Int) (by omega) (by omega)]
  simp
theorem pre1 {zs : List UInt8} {k : Nat} (h : k < zs.length) (h1 : (zs[k].toNat : Int) < 128) : Pre zs k 1 (RowKit.wrap64 (zs[k].toNat : Int)) :=
  pre_of h 1 zs[k].toNat (by unfold uHead; rw [if_pos (by omega)]) (by omega) (fun _ => by omega) _ (fun _ => wrapN (by omega))
theorem pre2 {zs : List UInt8} {k : Nat} (h : k < zs.length) (h1 : 194 ≤ (zs[k].toNat : Int)) (h2 : (zs[k].toNat : Int) < 224) : Pre zs k 2 (bits .and .i64 (RowKit.wrap64 (zs[k].toNat : Int)) 31) :=
  pre_of h 2 (zs[k].toNat % 32) (by unfold uHead; rw [if_neg (by omega), if_pos (by omega)]) (by omega) (fun _ => by omega) _ (fun _ => by rw [wrapN (by omega)]; exact maskN 5 (by decide) (by omega))
theorem pre3 {zs : List UInt8} {k : Nat} (h : k < zs.length) (h1 : 224 ≤ (zs[k].toNat : Int)) (h2 : (zs[k].toNat : Int) < 240) : Pre zs k 3 (bits .and .i64 (RowKit.wrap64 (zs[k].toNat : Int)) 15) :=
  pre_of h 3 (zs[k].toNat % 16) (by unfold uHead; rw [if_neg (by omega), if_neg (by omega), if_pos (by omega)]) (by omega) (fun _ => by omega) _ (fun _ => by rw [wrapN (by omega)]; exact maskN 4 (by decide) (by omega))
theorem pre4 {zs : List UInt8} {k : Nat} (h : k < zs.length) (h1 : 240 ≤ (zs[k].toNat : Int)) (h2 : (zs[k].toNat : Int) < 245) : Pre zs k 4 (bits .and .i64 (RowKit.wrap64 (zs[k].toNat : Int)) 7) :=
  pre_of h 4 (zs[k].toNat % 8) (by unfold uHead; rw [if_neg (by omega), if_neg (by omega), if_neg (by omega), if_pos (by omega)]) (by omega) (fun _ => by omega) _ (fun _ => by rw [wrapN (by omega)]; exact maskN 3 (by decide) (by omega))
theorem pre0 {zs : List UInt8} {k : Nat} (h : k < zs.length) (h0 : 128 ≤ (zs[k].toNat : Int)) (h1 : (zs[k].toNat : Int) < 194 ∨ 245 ≤ (zs[k].toNat : Int)) (x : Int) : Pre zs k 0 x :=
  pre_of h 0 zs[k].toNat (by unfold uHead; rw [if_neg (by omega), if_neg (by omega), if_neg (by omega), if_neg (by omega)]) (by omega) (fun e => absurd rfl e) _ (fun e => absurd rfl e)
theorem more_short : ∀ {n : Nat} {l : List UInt8} {r : Nat}, l.length < n → uMore n l r = none
  | 0, _, _, h => absurd h (Nat.not_lt_zero _)
  | n + 1, [], _, _ => rfl
  | n + 1, c :: l, r, h => by
    simp only [uMore]
    split
    · exact more_short (by simpa using h)
    · rfl
theorem pst_zero {zs : List UInt8} {k n : Nat} {x : Int} (hk : k < zs.length) (h : Pre zs k n x) (hs : zs.length - k < n) (y : Int) : Pst zs k 1 0 y := by
  refine ⟨by omega, fun _ => ?_, fun e => absurd rfl e⟩
  obtain ⟨r, _, _, hu⟩ := h.2.2 (by omega)
  rw [hu, more_short (by simp; omega)]; rfl
theorem pst_same {zs : List UInt8} {k n : Nat} {x : Int} (h : Pre zs k n x) (hs : n ≤ zs.length - k) : Pst zs k 1 n x := by
  refine ⟨h.1, h.2.1, fun h0 => ⟨by omega, hs, ?_⟩⟩
  obtain ⟨r, h1, h2, h3⟩ := h.2.2 h0
  exact ⟨r, h1, by simpa using h2, h3⟩
theorem top2 (d : UInt8) : bits .and .u8 (d.toNat : Int) 192 = ((d.toNat / 64 * 64 : Nat) : Int) := by
  have key : ∀ x : Fin 256, bits .and .u8 (x.val : Int) 192 = ((x.val / 64 * 64 : Nat) : Int) := by decide +kernel
  exact key ⟨d.toNat, d.toNat_lt⟩
theorem joinN {r d : Nat} (hr : r < 36028797018963968) (hd : d < 64) : bits .or .i64 (RowKit.wrap64 ((r : Int) * 64)) ((d : Int)) = ((r * 64 + d : Nat) : Int) := by
  have e : RowKit.wrap64 ((r : Int) * 64) = ((r * 64 : Nat) : Int) := by
    have := wrapN (n := r * 64) (by omega)
    rw [← this]; simp
  rw [e, bits_join .i64 62 (by decide) (fun m h0 h1 => by rw [IntKind.wrap_i64]; omega) 6 _ _ (by omega) (by omega) (by omega) (by omega) (by omega) (by omega)]
  simp
theorem pow64 {i : Nat} (h : i ≤ 4) : 128 * 64 ^ (i - 1) ≤ 33554432 := by
  have : i - 1 ≤ 3 := by omega
  calc 128 * 64 ^ (i - 1) ≤ 128 * 64 ^ 3 := Nat.mul_le_mul_left _ (Nat.pow_le_pow_right (by decide) this)
    _ = 33554432 := by decide
theorem pst_step {zs : List UInt8} {k i n : Nat} {r : Nat} {d : UInt8} (hn : n ≤ 4) (hki : k + i < zs.length) (hdd : zs[k + i] = d) (hd : d.toNat / 64 = 2) (hi : 1 ≤ i) (hin : i < n) (hnl : n ≤ zs.length - k)
    (hr : r < 128 * 64 ^ (i - 1)) (hu : uFirst k (zs.drop k) = uFin k n (uMore (n - i) (zs.drop (k + i)) r)) : Pst zs k (i + 1) n (bits .or .i64 (RowKit.wrap64 ((r : Int) * 64)) ((d.toNat : Int) % 64)) := by
  have hp := pow64 (i := i) (by omega)
  refine ⟨hn, fun e => by omega, fun _ => ⟨by omega, hnl, r * 64 + d.toNat % 64, ?_, ?_, ?_⟩⟩
  · have := joinN (r := r) (d := d.toNat % 64) (by omega) (by omega)
    rw [← this]; simp
  · have e : i + 1 - 1 = (i - 1) + 1 := by omega
    rw [e, Nat.pow_succ]
    omega
  · rw [hu]
    have e : n - i = (n - (i + 1)) + 1 := by omega
    rw [e, List.drop_eq_getElem_cons hki, hdd]
    simp only [uMore, hd, if_true]
    rw [Nat.add_assoc]
theorem pst_fail {zs : List UInt8} {k i n : Nat} {r : Nat} {d : UInt8} (hki : k + i < zs.length) (hdd : zs[k + i] = d) (hd : ¬ d.toNat / 64 = 2) (hin : i < n)
    (hu : uFirst k (zs.drop k) = uFin k n (uMore (n - i) (zs.drop (k + i)) r)) (y : Int) : Pst zs k i 0 y := by
  refine ⟨by omega, fun _ => ?_, fun e => absurd rfl e⟩
  rw [hu]
  have e : n - i = (n - (i + 1)) + 1 := by omega
  rw [e, List.drop_eq_getElem_cons hki, hdd]
  simp only [uMore, if_neg hd]; rfl
/-- One unit more. -/
theorem units_more {zs : List UInt8} {k fu : Nat} {pre all : List TUnit} (hk : k < zs.length) (hf : zs.length - k ≤ fu) (h : pre ++ uUnits fu k (zs.drop k) = all) {u : TUnit} (hu : uFirst k (zs.drop k) = u) {w : Nat} (hw : u.Width = w) :
    ∃ fu', fu = fu' + 1 ∧ (pre ++ [u]) ++ uUnits fu' (k + w) (zs.drop (k + w)) = all := by
  obtain ⟨fu, rfl⟩ : ∃ f, fu = f + 1 := ⟨fu - 1, by omega⟩
  refine ⟨fu, rfl, ?_⟩
  rw [← h, drop_at hk] 
  simp only [uUnits]
  rw [← drop_at hk, hu, hw]
  simp only [Int.toNat_natCast, List.drop_drop, List.append_assoc, List.cons_append, List.nil_append]
end Go.Proofs.IR

/- part LU2 -/
/- The iterator over units, in the machine. -/
namespace Go.Proofs.IR
open Go.RowKit Go.Shelf Go.Val
attribute [local go_sem] Oper.semAt_some
set_option maxRecDepth 100000 in
set_option maxHeartbeats 4000000 in
theorem units1_in (m : Nat) (hm : 1 ≤ m) (l Bs b off cap : Nat) (p : Option Addr) (zs : List UInt8) (hp : zs ≠ [] → p = some ⟨b, off, none⟩) (hlen : zs.length ≤ 1048576) (J Jx : List TUnit → World → Prop) (hJd : ∀ pre W, J pre W → J pre W.drew)
    (hY : ∀ pre x W, J pre W → pre.length < zs.length → YieldAt Fence.wide (m - 1) Tryz.prog l #[unitV x] W fun e W' =>
      (e = .returned (.bool true) ∧ J (pre ++ [x]) W' ∧ Kat zs Bs b W W') ∨ (e = .returned (.bool false) ∧ Jx (pre ++ [x]) W'))
    (W : World) (hBs : W.cell? ⟨Bs, 0, none⟩ = some (.slice p zs.length cap)) (hc : ∀ j (h : j < zs.length), W.cell? ⟨b, off + j, none⟩ = some (.int .u8 (zs[j].toNat : Int))) (h0 : J [] W) :
    CallsIn Fence.wide m Tryz.prog 90 #[.func (.yield l) #[] #[], .pointer (some ⟨Bs, 0, none⟩)] W fun e W' => (∃ v, e = .returned v) ∧
      ((∃ ys, ys = units zs ∧ J ys W') ∨ (∃ pre, Jx pre W')) := by
  have mixed : Tryz.prog.follows .mixedOrders = true := by kernel_rfl
  refine callsIn_of_wp Tryz.func90 rfl trivial ?_ rfl
  simp only [Tryz.ntmps90, List.size_toArray, List.length_cons, List.length_nil, Nat.reduceAdd, Nat.reduceSub, Array.replicate_succ, Array.replicate_zero, List.push_toArray, List.append_toArray, List.nil_append, List.cons_append]
  gi_wp2
  refine wpIn_wide.2 (wp_scope_straight ((wpIn_wide (n := m)).1 ?_))
  refine wpIn_seq ?_
  gi_wp2
  refine wpIn_label ?_
  gi_wp2
  gi_loopw [3] (fun i wr => ∃ (k fu : Nat) (pre : List TUnit), k ≤ zs.length ∧ i = .int .i64 k ∧ pre ++ uUnits fu k (zs.drop k) = units zs ∧ zs.length - k ≤ fu ∧ pre.length ≤ k ∧ J pre wr ∧ Kat zs Bs b W wr)
    (fun i _ => zs.length - (intOf i).toNat)
  case atStart => exact ⟨0, zs.length, [], Nat.zero_le _, rfl, rfl, Nat.le_refl _, Nat.le_refl _, h0, Kat.refl _ _ _ _⟩
  case round =>
    obtain ⟨k, fu, pre, hk, rfl, hpre, hfu, hpl, hJs, hnx⟩ := hrel
    have cells : ∀ w', Kat zs Bs b W w' → w'.cell? ⟨Bs, 0, none⟩ = some (.slice p zs.length cap) ∧ ∀ j (h : j < zs.length), w'.cell? ⟨b, off + j, none⟩ = some (.int .u8 (zs[j].toNat : Int)) := fun w' hw =>
      ⟨(hw.cellB 0).trans hBs, fun j h => (hw.cellb (ne_of_lt h) (off + j)).trans (hc j h)⟩
    obtain ⟨hBs', hcx⟩ := cells wr hnx
    by_cases hlt : k < zs.length
    · obtain rfl := hp (by intro e; rw [e] at hlt; simp at hlt)
      have hcx' := hcx k hlt
      gi_wp2
      gi_region
      have hJ1 : J pre wr.drew := hJd _ _ hJs
      have hnx1 : Kat zs Bs b W wr.drew := hnx.drew
      rename_i K a_K
      refine a_K _ _ ?_
      clear a_K
      refine wpIn_seq (wpIn_mono (Q := Mid l Bs k (fun w => J pre w ∧ Kat zs Bs b W w) (Pre zs k)) ?_ ?_)
      · gi_wp2
        all_goals refine ⟨rfl, ⟨hJ1, hnx1⟩, rfl, rfl, rfl, rfl, rfl, rfl, ?_⟩
        all_goals first
          | exact ⟨1, _, rfl, rfl, pre1 hlt (by assumption)⟩
          | exact ⟨2, _, rfl, rfl, pre2 hlt (by assumption) (by assumption)⟩
          | exact ⟨3, _, rfl, rfl, pre3 hlt (by assumption) (by assumption)⟩
          | exact ⟨4, _, rfl, rfl, pre4 hlt (by assumption) (by assumption)⟩
          | exact ⟨0, _, rfl, rfl, pre0 hlt (by assumption) (.inl (by assumption)) _⟩
          | exact ⟨0, _, rfl, rfl, pre0 hlt (by assumption) (.inr (by assumption)) _⟩
      · intro e a w1 hM
        obtain ⟨rfl, ⟨hJ2, hnx2⟩, n, x, g, hP, rfl⟩ := hM.out
        clear hM hBs' hcx hcx' hJ1 hnx1 hJs hnx
        obtain ⟨hBs', hcx⟩ := cells w1 hnx2
        refine wpIn_seq (wpIn_mono (Q := Mid l Bs k (fun w => J pre w ∧ Kat zs Bs b W w) (Pst zs k 1)) ?_ ?_)
        · have hn4 := hP.1
          by_cases hsh : zs.length - k < n
          · have hsh' : (zs.length : Int) - (k : Int) < (n : Int) := by omega
            gi_wp2
            all_goals refine ⟨rfl, ⟨hJ2, hnx2⟩, rfl, rfl, rfl, rfl, rfl, rfl, 0, _, rfl, rfl, pst_zero hlt hP hsh _⟩
          · have hsh' : ¬ (zs.length : Int) - (k : Int) < (n : Int) := by omega
            gi_wp2
            all_goals refine ⟨rfl, ⟨hJ2, hnx2⟩, rfl, rfl, rfl, rfl, rfl, rfl, n, _, rfl, rfl, pst_same hP (by omega)⟩
        · intro e a w2 hM
          obtain ⟨rfl, ⟨hJ3, hnx3⟩, n, x, g, hP, rfl⟩ := hM.out
          clear hM hBs' hcx hJ2 hnx2
          obtain ⟨hBs', hcx⟩ := cells w2 hnx3
          refine wpIn_seq (wpIn_mono (Q := Mid l Bs k (fun w => J pre w ∧ Kat zs Bs b W w) (fun n x => ∃ i, Pst zs k i n x ∧ n ≤ i)) ?_ ?_)
          · gi_wp2
            gi_loopw [4, 5, 7] (fun v4 v5 v7 wr => ∃ (i n : Nat) (x : Int), v7 = .int .i64 i ∧ v4 = .int .i64 n ∧ v5 = .int .i64 x ∧ 1 ≤ i ∧ i ≤ 5 ∧ Pst zs k i n x ∧ J pre wr ∧ Kat zs Bs b W wr)
              (fun _ _ v7 _ => 6 - (intOf v7).toNat)
            case atStart => exact ⟨1, n, x, rfl, rfl, rfl, by omega, by omega, hP, hJ3, hnx3⟩
            case round =>
              clear hP n x hJ3 hnx3 hBs' hcx
              obtain ⟨i, n, x, rfl, rfl, rfl, hi1, hi5, hP, hJ3, hnx3⟩ := hrel
              obtain ⟨hBs', hcx⟩ := cells _ hnx3
              by_cases hin : i < n
              · have hn0 : n ≠ 0 := by omega
                obtain ⟨_, hnl, r, hxr, hrb, hu⟩ := hP.2.2 hn0
                have hki : k + i < zs.length := by omega
                have hd := hcx (k + i) hki
                generalize hdd : zs[k + i] = d at hd
                by_cases hd2 : d.toNat / 64 = 2
                · have hb1 : bits .and .u8 (d.toNat : Int) 192 = 128 := by rw [top2, hd2]; rfl
                  subst hxr
                  gi_wp2
                  exact ⟨⟨i + 1, n, _, by simp, rfl, rfl, by omega, by have := hP.1; omega, pst_step hP.1 hki hdd hd2 hi1 hin hnl hrb hu, hJ3, hnx3⟩, by simp [intOf]; omega⟩
                · have hb1 : ¬ bits .and .u8 (d.toNat : Int) 192 = 128 := by rw [top2]; omega
                  gi_wp2
                  exact ⟨rfl, ⟨hJ3, hnx3⟩, rfl, rfl, rfl, rfl, rfl, rfl, 0, _, rfl, rfl, i, pst_fail hki hdd hd2 hin hu _, by omega⟩
              · gi_wp2
                exact ⟨rfl, ⟨hJ3, hnx3⟩, rfl, rfl, rfl, rfl, rfl, rfl, n, _, rfl, rfl, i, hP, by omega⟩
          · intro e a w3 hM
            obtain ⟨rfl, ⟨hJ4, hnx4⟩, n, x, g, ⟨i, hP, hni⟩, rfl⟩ := hM.out
            clear hM hBs' hcx hJ3 hnx3
            obtain ⟨hBs', hcx⟩ := cells w3 hnx4
            have bad : uFirst k (zs.drop k) = uBad k → True := fun _ => trivial
            by_cases hn0 : n = 0
            · subst hn0
              have hu := hP.2.1 rfl
              obtain ⟨fn, tmps, assign, body, hy, hR⟩ := hY pre (uBad k) w3 hJ4 (by omega)
              dsimp only [unitV, uBad] at hy
              gi_wp2
              refine ⟨trivial, ?_⟩
              gi_wp2
              refine ⟨trivial, ?_⟩
              gi_wp2
              refine hR.mono ?_
              rintro e w4 (⟨rfl, hJ5, hk5⟩ | ⟨rfl, hJx⟩)
              · obtain ⟨fu', hfu', hpre'⟩ := units_more (w := 1) hlt hfu hpre hu rfl
                gi_wp2
                go_roundw
                case rel => exact ⟨k + 1, fu', pre ++ [uBad k], by omega, by simp, hpre', by omega, by simp; omega, hJ5, hnx4.trans hk5⟩
                case measure => simp [intOf]; omega
              · gi_wp2
                exact ⟨rfl, _, results_none rfl _ _ _, ⟨_, rfl⟩, .inr ⟨_, hJx⟩⟩
            · obtain ⟨hin, hnl, r, hxr, hrb, hu⟩ := hP.2.2 hn0
              have e0 : n - i = 0 := by omega
              rw [e0] at hu
              simp only [uMore] at hu
              have hnz : ¬ (n : Int) = 0 := by omega
              subst hxr
              by_cases hgood : (uRight r && uWidth r == n) = true
              · have hu' : uFirst k (zs.drop k) = ⟨r, k, n, false⟩ := by rw [hu]; simp only [uFin, hgood, if_true]
                obtain ⟨fn, tmps, assign, body, hy, hR⟩ := hY pre ⟨r, k, n, false⟩ w3 hJ4 (by omega)
                dsimp only [unitV] at hy
                have hr1 : uRight r = true := (Bool.and_eq_true _ _ ▸ hgood).1
                have hr2 : uWidth r = n := eq_of_beq (Bool.and_eq_true _ _ ▸ hgood).2
                gi_wp2
                refine ⟨trivial, (right_in _ r _).mono ?_⟩
                rintro e w' ⟨rfl, rfl⟩
                rw [hr1]
                gi_wp2
                refine ⟨trivial, (width_in _ r _).mono ?_⟩
                rintro e w' ⟨rfl, rfl⟩
                rw [hr2]
                gi_wp2
                refine hR.mono ?_
                rintro e w4 (⟨rfl, hJ5, hk5⟩ | ⟨rfl, hJx⟩)
                · obtain ⟨fu', hfu', hpre'⟩ := units_more (w := n) hlt hfu hpre hu' rfl
                  gi_wp2
                  go_roundw
                  case rel => exact ⟨k + n, fu', pre ++ [⟨r, k, n, false⟩], by omega, by simp, hpre', by omega, by simp; omega, hJ5, hnx4.trans hk5⟩
                  case measure => simp [intOf]; omega
                · gi_wp2
                  exact ⟨rfl, _, results_none rfl _ _ _, ⟨_, rfl⟩, .inr ⟨_, hJx⟩⟩
              · have hu' : uFirst k (zs.drop k) = uBad k := by rw [hu]; simp only [uFin, if_neg hgood]
                obtain ⟨fn, tmps, assign, body, hy, hR⟩ := hY pre (uBad k) w3 hJ4 (by omega)
                dsimp only [unitV, uBad] at hy
                gi_wp2
                refine ⟨trivial, (right_in _ r _).mono ?_⟩
                rintro e w' ⟨rfl, rfl⟩
                cases hr1 : uRight r with
                | false =>
                  gi_wp2
                  refine ⟨trivial, ?_⟩
                  gi_wp2
                  refine hR.mono ?_
                  rintro e w4 (⟨rfl, hJ5, hk5⟩ | ⟨rfl, hJx⟩)
                  · obtain ⟨fu', hfu', hpre'⟩ := units_more (w := 1) hlt hfu hpre hu' rfl
                    gi_wp2
                    go_roundw
                    case rel => exact ⟨k + 1, fu', pre ++ [uBad k], by omega, by simp, hpre', by omega, by simp; omega, hJ5, hnx4.trans hk5⟩
                    case measure => simp [intOf]; omega
                  · gi_wp2
                    exact ⟨rfl, _, results_none rfl _ _ _, ⟨_, rfl⟩, .inr ⟨_, hJx⟩⟩
                | true =>
                  have hr2 : ¬ (uWidth r : Int) = (n : Int) := fun e => hgood (by rw [hr1]; simp; omega)
                  have hr3 : ((uWidth r : Int) != (n : Int)) = true := by simpa using hr2
                  gi_wp2
                  refine ⟨trivial, (width_in _ r _).mono ?_⟩
                  rintro e w' ⟨rfl, rfl⟩
                  gi_wp2
                  refine hR.mono ?_
                  rintro e w4 (⟨rfl, hJ5, hk5⟩ | ⟨rfl, hJx⟩)
                  · obtain ⟨fu', hfu', hpre'⟩ := units_more (w := 1) hlt hfu hpre hu' rfl
                    gi_wp2
                    go_roundw
                    case rel => exact ⟨k + 1, fu', pre ++ [uBad k], by omega, by simp, hpre', by omega, by simp; omega, hJ5, hnx4.trans hk5⟩
                    case measure => simp [intOf]; omega
                  · gi_wp2
                    exact ⟨rfl, _, results_none rfl _ _ _, ⟨_, rfl⟩, .inr ⟨_, hJx⟩⟩
    · gi_wp2
      obtain rfl : k = zs.length := by omega
      refine ⟨rfl, _, results_none rfl _ _ _, ⟨_, rfl⟩, .inl ⟨_, rfl, ?_⟩⟩
      have e : pre = units zs := by
        rw [← hpre]
        simp
        cases fu <;> rfl
      rw [← e]; exact hJs
end Go.Proofs.IR

/- part LU3 -/
/- utf.Decode, in the machine. -/
namespace Go.Proofs.IR
open Go.RowKit Go.Shelf Go.Val
attribute [local go_sem] Oper.semAt_some
def cellsU (x : TUnit) : List Value := [.int .i64 x.Rune, .int .i64 x.At, .int .i64 x.Width, .bool x.Bad]
theorem info109 : (Tryz.prog.info? 109).map (fun i => (i.zero, i.size, i.bytes)) = some (some (.agg #[.int .i64 0, .int .i64 0, .int .i64 0, .bool false]), 4, 32) := by kernel_rfl
theorem units_stops (m : Nat) (hm : 1 ≤ m) (Bs b off cap : Nat) (p : Option Addr) (zs : List UInt8) (hp : zs ≠ [] → p = some ⟨b, off, none⟩) (hlen : zs.length ≤ 1048576) (w : World) (hb : zs ≠ [] → b < w.heap.size) (hBn : Bs < w.heap.size)
    (hBs : w.cell? ⟨Bs, 0, none⟩ = some (.slice p zs.length cap)) (hc : ∀ j (h : j < zs.length), w.cell? ⟨b, off + j, none⟩ = some (.int .u8 (zs[j].toNat : Int))) :
    SeqStopsK Fence.wide m Tryz.prog 90 #[.pointer (some ⟨Bs, 0, none⟩)] (fun x : TUnit => #[unitV x]) (Kat zs Bs b) (fun ys => ys = units zs) (fun _ => True) zs.length w := fun l J Jx W hW hJ _ hY h0 => by
  refine (units1_in m hm l Bs b off cap p zs hp hlen J Jx (fun pre W h => hJ pre W W.drew none h ⟨rfl, rfl, rfl, Nat.le_refl _, fun _ _ _ => rfl⟩ (fun r e => by cases e)) hY W ((hW.cell (p := ⟨Bs, 0, none⟩) hBn).trans hBs) (fun j h => (hW.cell (p := ⟨b, off + j, none⟩) (hb (ne_of_lt h))).trans (hc j h)) h0).mono ?_
  rintro e W' ⟨he, h | ⟨pre, h⟩⟩
  · exact ⟨he, .inl h⟩
  · exact ⟨he, .inr ⟨pre, trivial, h⟩⟩
theorem cells_new (w : World) (cs : List Value) (t : TypeId) (j : Nat) (u : Value) (h : cs[j]? = some u) : (w.alloc (Obj.cells cs.toArray t)).cell? ((⟨w.heap.size, 0, none⟩ : Addr).add j) = some u := by
  have e : (⟨w.heap.size, 0, none⟩ : Addr).add j = ⟨w.heap.size, j, none⟩ := by
    by_cases hj : j = 0
    · subst hj; rfl
    · simp [Addr.add, hj]
  rw [e]
  simp only [World.cell?, World.alloc_heap_new]
  simpa using h
set_option maxRecDepth 100000 in
set_option maxHeartbeats 2000000 in
theorem appendSeq_in (m : Nat) (hm : 3 ≤ m) (Bs b off cap : Nat) (p : Option Addr) (zs : List UInt8) (hp : zs ≠ [] → p = some ⟨b, off, none⟩) (hlen : zs.length ≤ 1048576) (w : World) (hb : zs ≠ [] → b < w.heap.size) (hBn : Bs < w.heap.size)
    (hBs : w.cell? ⟨Bs, 0, none⟩ = some (.slice p zs.length cap)) (hc : ∀ j (h : j < zs.length), w.cell? ⟨b, off + j, none⟩ = some (.int .u8 (zs[j].toNat : Int))) :
    CallsIn Fence.wide m Tryz.prog 89 #[.slice none 0 0, .func (.func 90) #[] #[.pointer (some ⟨Bs, 0, none⟩)]] w fun e w' => ∃ v, e = .returned v ∧ w'.ownsRow w.heap.size 109 4 v (units zs).length ((units zs).flatMap cellsU) ∧ (v = .slice none 0 0 ↔ units zs = []) ∧ Below w.heap.size w w' := by
  have h1 : 1 ≤ m := by omega
  obtain ⟨i0, hi, hz0, hz1, hz2⟩ := info_parts info109
  refine callsIn_of_wp_marks Tryz.func89 rfl trivial ?_ rfl
  simp only [Tryz.ntmps89, List.size_toArray, List.length_cons, List.length_nil, Nat.reduceAdd, Nat.reduceSub, Array.replicate_succ, Array.replicate_zero, List.push_toArray, List.append_toArray, List.nil_append, List.cons_append]
  gi_wp2
  have bO := Boxed.new w 86 (.slice none 0 0)
  have hB0 : Below w.heap.size w (w.alloc (.cells #[.slice none 0 0] 86)) := (Below.refl _ w).alloc (Nat.le_refl _) _
  obtain ⟨W0, hW0⟩ : ∃ W0, w.alloc (.cells #[.slice none 0 0] 86) = W0 := ⟨_, rfl⟩
  have hs0 : W0.heap.size = w.heap.size + 1 := by rw [← hW0]; simp
  rw [hW0] at bO hB0 ⊢
  refine wpIn_rangeFunc_ownH rfl h1 (gf := 90) (lb := #[.pointer (some ⟨Bs, 0, none⟩)]) rfl trivial (enters_of Tryz.func90 (by kernel_rfl) rfl)
    (units_stops (m - 1) (by omega) Bs b off cap p zs hp hlen W0 (fun h => by have := hb h; omega) (by omega) ((hB0.cell (p := ⟨Bs, 0, none⟩) hBn).trans hBs) (fun j h => (hB0.cell (p := ⟨b, off + j, none⟩) (hb (ne_of_lt h))).trans (hc j h))) Kat.trans (Kat.put (by omega) (fun h => by have := hb h; omega)) (Below.refl _ _) (fun _ => rfl)
    (fun pre W => (∃ v, Boxed W w.heap.size 86 v ∧ W.ownsRow w.heap.size 109 4 v pre.length (pre.flatMap cellsU) ∧ (v = .slice none 0 0 ↔ pre = [])) ∧ Below w.heap.size w W)
    (fun _ _ _ => False)
    (OwnFrom.and (Own.from (holdsRow_own w.heap.size w.heap.size 86 109 4 (fun pre : List TUnit => pre.length) (fun pre => pre.flatMap cellsU) (fun pre v => v = .slice none 0 0 ↔ pre = [])) _) (ownFrom_below (Nat.le_refl _) (by omega)))
    (fun _ _ _ _ _ hs _ _ => hs)
    ⟨⟨_, bO, World.ownsRow_nil _ _ _ _, by simp⟩, hB0⟩
    (fun x a' W => ∃ Bx, w.heap.size < Bx ∧ W.heap[Bx]? = some (.cells (cellsU x).toArray 109 (0, 0)) ∧ a' = { tmps := #[.slice none 0 0, .func (.func 90) #[] #[.pointer (some ⟨Bs, 0, none⟩)], .pointer (some ⟨w.heap.size, 0, none⟩), undef, .slice none 0 0, .pointer (some ⟨Bx, 0, none⟩), .func (.func 90) #[] #[.pointer (some ⟨Bs, 0, none⟩)], unitV x, undef, undef, undef, undef, undef], defers := [] })
    (fun x a' _ X Y row hs hg hr => by
      obtain ⟨Bx, h1, h2, h3⟩ := hs
      refine ⟨Bx, h1, (hg.block Bx (Array.getElem?_eq_some_iff.1 h2).1 (fun e => ?_)).trans h2, h3⟩
      obtain ⟨_, o, ho, hco⟩ := hr Bx e.symm
      rw [h2] at ho; cases ho; cases hco)
    ?assign ?body ?done ?stop
  case assign =>
    rintro l pre x W K ⟨⟨v, hv, hrow, hnil⟩, hB1⟩ hK
    dsimp only [unitV]
    gi_wp2
    exact hK _ _ ((KeepsOthers.alloc _ _).from _) (Kat.of_below ((Below.refl _ W).alloc hB1.size _) hBn hb) ⟨⟨v, hv.alloc _, hrow.alloc _, hnil⟩, hB1.alloc hB1.size _⟩ ⟨W.heap.size, hv.lt, World.alloc_heap_new W _, rfl⟩
  case body =>
    rintro l pre x a' W hl ⟨r, hr⟩ ⟨⟨v, hv, hrow, hnil⟩, hB⟩ ⟨Bx, hBx, bX, rfl⟩ hlt
    have hc := hv.cell
    have c0 : W.cell? ⟨Bx, 0, none⟩ = some (.int .i64 x.Rune) := by simp only [World.cell?, bX]; rfl
    have c1 : W.cell? ⟨Bx, 1, none⟩ = some (.int .i64 x.At) := by simp only [World.cell?, bX]; rfl
    have c2 : W.cell? ⟨Bx, 2, none⟩ = some (.int .i64 x.Width) := by simp only [World.cell?, bX]; rfl
    have c3 : W.cell? ⟨Bx, 3, none⟩ = some (.bool x.Bad) := by simp only [World.cell?, bX]; rfl
    gi_wp2_with (gi_at_builtin; refine wpListIn_append_own _ rfl _ _ 86 rfl w.heap.size 109 i0 _ 4 32 Tryz.underlying86 hi hz0 hz1 hz2 rfl (by decide) _ _ _ rfl (hrow.alloc _) ⟨W.heap.size, 0, none⟩ 1 1 (cellsU x) rfl rfl (cells_new W (cellsU x) 109) (fun u hu => by simp [cellsU] at hu; rcases hu with rfl | rfl | rfl | rfl <;> rfl) (by have : maxLen = 9223372036854775807 := rfl; omega) (by omega) (by have := hB.size; simp; omega) ?_; intro v' w1 hown' hgrow _; obtain ⟨g', cap', rfl⟩ := ownsRow_succ hown'; obtain ⟨hv1, hv2, hr2, hk2, hb2⟩ := hv.appended (by decide) hrow hB.size (Nat.le_refl _) hown' hgrow; have hc1 := hv1.cell; have hf1 := hv1.frozen)
    exact ⟨hk2.from _, Kat.of_below hb2 hBn hb, ⟨_, hv2, by simpa using hr2, by simp⟩, hB.trans hb2⟩
  case done =>
    rintro D ys W hD rfl ⟨⟨v, hv, hrow, hnil⟩, hB⟩ hK
    have hc := hv.cell
    gi_wp2
    refine ⟨by simp, .inl ⟨_, _, rfl, run_takeDeferred hK, ?_⟩⟩
    exact ⟨_, results_tmp rfl _ _ _, v, rfl, ownsRow_putObj hrow _ hK rfl, hnil, hB.trans (belowK_b (w := w) (Nat.le_refl _) W D _ _ (by omega) hK rfl rfl)⟩
  case stop =>
    rintro D c pre W _ _ h _
    exact h.elim
set_option maxRecDepth 100000 in
theorem units_in (m : Nat) (p : Option Addr) (n cap : Nat) (w : World) : CallsIn Fence.wide m Tryz.prog 63 #[.slice p n cap] w fun e w' => e = .returned (.func (.func 90) #[] #[.pointer (some ⟨w.heap.size, 0, none⟩)]) ∧ w' = w.alloc (.cells #[.slice p n cap] 28) := by
  refine callsIn_wide.2 ?_
  go_enter Tryz.func63, Tryz.ntmps63
  go_wp2
  go_ret
  exact ⟨rfl, rfl⟩
theorem base_le {W : World} {base base' : Nat} {e : TypeId} {size : Nat} {v : Value} {k : Nat} {xs : List Value} (h : W.ownsRow base e size v k xs) (hb : base' ≤ base) : W.ownsRow base' e size v k xs := by
  refine ⟨h.1, ?_⟩
  rcases h.2 with hn | ⟨g, cap, cur, hv, hbg, rest⟩
  · exact .inl hn
  · exact .inr ⟨g, cap, cur, hv, Nat.le_trans hb hbg, rest⟩
set_option maxRecDepth 100000 in
theorem collect_in (m : Nat) (hm : 4 ≤ m) (Bs b off cap : Nat) (p : Option Addr) (zs : List UInt8) (hp : zs ≠ [] → p = some ⟨b, off, none⟩) (hlen : zs.length ≤ 1048576) (w : World) (hb : zs ≠ [] → b < w.heap.size) (hBn : Bs < w.heap.size)
    (hBs : w.cell? ⟨Bs, 0, none⟩ = some (.slice p zs.length cap)) (hc : ∀ j (h : j < zs.length), w.cell? ⟨b, off + j, none⟩ = some (.int .u8 (zs[j].toNat : Int))) :
    CallsIn Fence.wide m Tryz.prog 62 #[.func (.func 90) #[] #[.pointer (some ⟨Bs, 0, none⟩)]] w fun e w' => ∃ v, e = .returned v ∧ w'.ownsRow w.heap.size 109 4 v (units zs).length ((units zs).flatMap cellsU) ∧ Below w.heap.size w w' := by
  have h1 : 1 ≤ m := by omega
  refine callsIn_of_wp Tryz.func62 rfl trivial ?_ rfl
  simp only [Tryz.ntmps62, List.size_toArray, List.length_cons, List.length_nil, Nat.reduceAdd, Nat.reduceSub, Array.replicate_succ, Array.replicate_zero, List.push_toArray, List.append_toArray, List.nil_append, List.cons_append]
  gi_wp2_with (refine ⟨trivial, ?_⟩; gi_at_call 89; refine (appendSeq_in (m - 1) (by omega) Bs b off cap p zs hp hlen w hb hBn hBs hc).mono ?_; rintro e w' ⟨v, rfl, h1, h2, h3⟩)
  go_ret
  exact ⟨v, rfl, h1, h3⟩
set_option maxRecDepth 100000 in
theorem decode_in (m : Nat) (hm : 5 ≤ m) (b off cap : Nat) (p : Option Addr) (zs : List UInt8) (hp : zs ≠ [] → p = some ⟨b, off, none⟩) (hlen : zs.length ≤ 1048576) (w : World) (hb : zs ≠ [] → b < w.heap.size)
    (hc : ∀ j (h : j < zs.length), w.cell? ⟨b, off + j, none⟩ = some (.int .u8 (zs[j].toNat : Int))) :
    CallsIn Fence.wide m Tryz.prog 43 #[.slice p zs.length cap] w fun e w' => ∃ v, e = .returned v ∧ w'.ownsRow w.heap.size 109 4 v (units zs).length ((units zs).flatMap cellsU) ∧ Below w.heap.size w w' := by
  have h1 : 1 ≤ m := by omega
  refine callsIn_of_wp Tryz.func43 rfl trivial ?_ rfl
  simp only [Tryz.ntmps43, List.size_toArray, List.length_cons, List.length_nil, Nat.reduceAdd, Nat.reduceSub, Array.replicate_succ, Array.replicate_zero, List.push_toArray, List.append_toArray, List.nil_append, List.cons_append]
  have bO := Boxed.new w 28 (.slice p zs.length cap)
  have hB0 : Below w.heap.size w (w.alloc (.cells #[.slice p zs.length cap] 28)) := (Below.refl _ w).alloc (Nat.le_refl _) _
  have hcol := collect_in (m - 1) (by omega) w.heap.size b off cap p zs hp hlen (w.alloc (.cells #[.slice p zs.length cap] 28)) (fun h => by have := hb h; simp; omega) (by simp) bO.cell (fun j h => (hB0.cell (p := ⟨b, off + j, none⟩) (hb (ne_of_lt h))).trans (hc j h))
  gi_wp2_with (first | (refine ⟨trivial, ?_⟩; gi_at_call 63; refine (units_in _ _ _ _ _).mono ?_; rintro e w' ⟨rfl, rfl⟩) | (refine ⟨trivial, ?_⟩; gi_at_call 62; refine hcol.mono ?_; rintro e w' ⟨v, rfl, h1, h2⟩))
  go_ret
  exact ⟨v, rfl, base_le h1 (by simp), hB0.trans (h2.mono (by simp))⟩
end Go.Proofs.IR

/- part LU4 -/
/- What is told by hand does so in the machine: utf.Decode. -/
namespace Go.Proofs.IR
open Go.RowKit Go.Shelf Go.Val
variable {w w' : World} {G : Gh}
def Gh.fresh (G : Gh) (n m : Nat) : Gh := ⟨G.P, fun b => if n ≤ b ∧ b < m then .imm else G.g b, G.ι, G.n⟩
theorem fresh_grows (hb : Below w.heap.size w w') (hf : ∀ b, w.heap.size ≤ b → G.g b = .other) : Grows w G w' (Gh.fresh G w.heap.size w'.heap.size) where
  os := hb.os
  tape := hb.tape
  output := hb.output
  size := hb.size
  heap := hb.block
  g b h := by simp only [Gh.fresh]; rw [if_neg (by omega)]
  fresh b h := by simp only [Gh.fresh]; rw [if_neg (by omega)]; exact hf b (Nat.le_trans hb.size h)
  n := Nat.le_refl _
  ι _ _ := rfl
  P := rfl
/-- A slice that a call has made, and that is its caller's own now: as data that nobody writes. -/
theorem fresh_sl {e : TypeId} {size : Nat} {v : Value} {cells : List Value} {ds : List DVal} (hb : Below w.heap.size w w') (ho : w'.ownsRow w.heap.size e size v ds.length cells)
    (hs : ∀ x ∈ ds, x.cells.length = size) (hr : RelCs w' (Gh.fresh G w.heap.size w'.heap.size) (allCells ds) cells) : RelV w' (Gh.fresh G w.heap.size w'.heap.size) (.sl ds) v := by
  rcases ho.2 with ⟨rfl, h0⟩ | ⟨g, cap, cur, rfl, hg, hh, hc, _, hcur, htk⟩
  · obtain rfl : ds = [] := List.length_eq_zero_iff.1 h0
    exact .nilsl _ _
  · by_cases hne : ds = []
    · subst hne; exact .nilsl _ _
    · refine .sl ds ⟨g, 0, none⟩ cap size cells hne hc ?_ (Array.getElem?_eq_some_iff.1 hh).1 rfl hs hr ?_
      · simp only [Gh.fresh]; rw [if_pos ⟨hg, (Array.getElem?_eq_some_iff.1 hh).1⟩]
      · intro i u hu
        have e : (⟨g, 0, none⟩ : Addr).add i = ⟨g, i, none⟩ := by
          by_cases hj : i = 0
          · subst hj; rfl
          · simp [Addr.add, hj]
        rw [e]
        simp only [World.cell?, hh]
        rw [← htk, List.getElem?_take] at hu
        split at hu
        · simpa using hu
        · cases hu
/-- Bytes that came in, in the machine. -/
theorem bytes_in {b : List UInt8} {v : Value} (h : RelV w G (.sl (b.map eU)) v) : ∃ p cap b0 off, v = .slice p b.length cap ∧ (b ≠ [] → p = some ⟨b0, off, none⟩) ∧ (b ≠ [] → b0 < w.heap.size) ∧ ∀ j (hj : j < b.length), w.cell? ⟨b0, off + j, none⟩ = some (.int .u8 (b[j].toNat : Int)) := by
  generalize hd : DVal.sl (b.map eU) = d at h
  cases h with
  | nilsl a cap =>
    have : b = [] := by simpa using hd
    subst this
    exact ⟨a, cap, 0, 0, rfl, fun h => absurd rfl h, fun h => absurd rfl h, fun j hj => by simp at hj⟩
  | sl xs ad cap k vs hne hcap hg hb hs hk hr hc =>
    obtain rfl : b.map eU = xs := by simpa using hd
    have hvs : vs = b.map fun c => Value.int .u8 (c.toNat : Int) := by
      clear hk hc hcap hne hd
      induction b generalizing vs with
      | nil => cases hr; rfl
      | cons c b ih =>
        have h' : RelCs w G (.int .u8 (c.toNat : Int) :: allCells (b.map eU)) vs := hr
        cases h' with
        | cons _ u _ us _ h1 h2 => cases h1; rw [ih us h2]; rfl
    refine ⟨some ad, cap, ad.block, ad.off, by simp, fun _ => by cases ad; simp_all, fun _ => hb, fun j hj => ?_⟩
    have := hc j (.int .u8 (b[j].toNat : Int)) (by rw [hvs]; simp [hj])
    rw [← this]
    congr 1
    cases ad
    simp only at hs
    subst hs
    by_cases hj0 : j = 0
    · subst hj0; rfl
    · simp [Addr.add, hj0]
  | _ => cases hd
theorem rel_units (l : List TUnit) : RelCs w G (allCells (l.map eUnit)) (l.flatMap cellsU) := by
  induction l with
  | nil => exact .nil
  | cons x l ih => exact .cons _ _ _ _ rfl (.int _ _) (.cons _ _ _ _ rfl (.int _ _) (.cons _ _ _ _ rfl (.int _ _) (.cons _ _ _ _ rfl (.bool _) ih)))
theorem one_arg {t : Nat → Tag} {d : DVal} {vs : List Value} (h : RelArgs w G t 0 [.cv (.val d)] vs) : ∃ v, vs = [v] ∧ RelV w G d v := by
  cases h with
  | cons _ c v _ vs h1 h2 => cases h2; exact ⟨v, rfl, h1⟩
theorem decode_sound {b : List UInt8} {u : List TUnit} {h : Heap} (e : utf_Decode b = some u) : Sound Tryz.prog 43 [.cv (.val (.sl (List.map eU b)))] h fun o h' => o = [.cv (.val (.sl (List.map eUnit u)))] ∧ h' = h := by
  unfold utf_Decode at e
  split at e
  case isFalse => cases e
  rename_i hlen
  obtain rfl := Option.some.inj e
  refine ⟨⟨Tryz.f43, _, Tryz.func43, rfl, by kernel_rfl⟩, fun w G vs hP ha hh hf => ?_⟩
  obtain ⟨v, rfl, hv⟩ := one_arg ha
  obtain ⟨p, cap, b0, off, rfl, hp, hb0, hc⟩ := bytes_in hv
  refine (callsIn_wide.1 (decode_in 5 (Nat.le_refl _) b0 off cap p b hp hlen w hb0 hc)).mono fun e w' ⟨v, he, hown, hbel⟩ => ?_
  have hgr := fresh_grows (G := G) hbel hf
  refine ⟨[v], _, h, Gh.fresh G w.heap.size w'.heap.size, he, ⟨rfl, rfl⟩, .cons _ _ _ _ ?_ .nil, hgr.heapH rfl hh, hgr.fresh, hgr.kept⟩
  exact fresh_sl hbel (by simpa using hown) (fun x hx => by obtain ⟨y, _, rfl⟩ := List.mem_map.1 hx; rfl) (rel_units _)
end Go.Proofs.IR

/- part LL -/
/- The kit's contracts of slices.SortFunc and cmp.Compare laid at this program: plain text, written by program. -/
namespace Go.Val
open Go.Proofs Go.Shelf
def sortRg_ren : Go.Shelf.Ren := ⟨fun | 6 => 56 | 15 => 83 | 14 => 82 | 28 => 113 | 29 => 114 | 20 => 105 | 21 => 106 | 22 => 107 | 23 => 108 | 24 => 109 | 25 => 110 | 26 => 111 | 27 => 112 | 46 => 127 | 47 => 128 | 48 => 129 | 49 => 130 | 50 => 131 | 57 => 138 | n => n, fun | 22 => 35 | 24 => 74 | 25 => 103 | 3 => 3 | 39 => 123 | 0 => 0 | 53 => 148 | 55 => 150 | 4 => 4 | 46 => 141 | 45 => 140 | 50 => 145 | 5 => 5 | 9 => 9 | 66 => 159 | 70 => 163 | 76 => 166 | 77 => 167 | n => n, fun | n => n⟩
theorem sortRg : Go.Proofs.SlLaysF0.n6 Tryz.prog sortRg_ren := {
  mixed := by kernel_rfl
  f6 := ⟨Tryz.f56.name, by decide, Tryz.func56.trans (congrArg some (by kernel_rfl))⟩
  f14 := ⟨Tryz.f82.name, by decide, Tryz.func82.trans (congrArg some (by kernel_rfl))⟩
  f15 := Tryz.func83.trans (congrArg some (by kernel_rfl))
  f20 := ⟨Tryz.f105.name, by decide, Tryz.func105.trans (congrArg some (by kernel_rfl))⟩
  f21 := ⟨Tryz.f106.name, by decide, Tryz.func106.trans (congrArg some (by kernel_rfl))⟩
  f22 := ⟨Tryz.f107.name, by decide, Tryz.func107.trans (congrArg some (by kernel_rfl))⟩
  f23 := ⟨Tryz.f108.name, by decide, Tryz.func108.trans (congrArg some (by kernel_rfl))⟩
  f24 := ⟨Tryz.f109.name, by decide, Tryz.func109.trans (congrArg some (by kernel_rfl))⟩
  f25 := ⟨Tryz.f110.name, by decide, Tryz.func110.trans (congrArg some (by kernel_rfl))⟩
  f26 := ⟨Tryz.f111.name, by decide, Tryz.func111.trans (congrArg some (by kernel_rfl))⟩
  f27 := ⟨Tryz.f112.name, by decide, Tryz.func112.trans (congrArg some (by kernel_rfl))⟩
  f28 := Tryz.func113.trans (congrArg some (by kernel_rfl))
  f29 := Tryz.func114.trans (congrArg some (by kernel_rfl))
  f46 := ⟨Tryz.f127.name, by decide, Tryz.func127.trans (congrArg some (by kernel_rfl))⟩
  f47 := Tryz.func128.trans (congrArg some (by kernel_rfl))
  f48 := Tryz.func129.trans (congrArg some (by kernel_rfl))
  f49 := ⟨Tryz.f130.name, by decide, Tryz.func130.trans (congrArg some (by kernel_rfl))⟩
  f50 := ⟨Tryz.f131.name, by decide, Tryz.func131.trans (congrArg some (by kernel_rfl))⟩
  f57 := ⟨Tryz.f138.name, by decide, Tryz.func138.trans (congrArg some (by kernel_rfl))⟩
  t0 := Tryz.underlying0
  a0 := Tryz.isAgg0
  z0 := Tryz.sizeOf0
  v0 := Tryz.zeroValue0
  t3 := Tryz.underlying3
  a3 := Tryz.isAgg3
  z3 := Tryz.sizeOf3
  v3 := Tryz.zeroValue3
  t4 := Tryz.underlying4
  a4 := Tryz.isAgg4
  z4 := Tryz.sizeOf4
  v4 := Tryz.zeroValue4
  t5 := Tryz.underlying5
  a5 := Tryz.isAgg5
  z5 := Tryz.sizeOf5
  v5 := Tryz.zeroValue5
  t9 := Tryz.underlying9
  a9 := Tryz.isAgg9
  z9 := Tryz.sizeOf9
  v9 := Tryz.zeroValue9
  t22 := Tryz.underlying35
  a22 := Tryz.isAgg35
  z22 := Tryz.sizeOf35
  v22 := Tryz.zeroValue35
  t25 := Tryz.underlying103
  a25 := Tryz.isAgg103
  z25 := Tryz.sizeOf103
  v25 := Tryz.zeroValue103
  t39 := Tryz.underlying123
  a39 := Tryz.isAgg123
  z39 := Tryz.sizeOf123
  v39 := Tryz.zeroValue123
  t45 := Tryz.underlying140
  a45 := Tryz.isAgg140
  z45 := Tryz.sizeOf140
  v45 := Tryz.zeroValue140
  t46 := Tryz.underlying141
  a46 := Tryz.isAgg141
  z46 := Tryz.sizeOf141
  v46 := Tryz.zeroValue141
  t50 := Tryz.underlying145
  a50 := Tryz.isAgg145
  z50 := Tryz.sizeOf145
  v50 := Tryz.zeroValue145
  t53 := Tryz.underlying148
  a53 := Tryz.isAgg148
  z53 := Tryz.sizeOf148
  v53 := Tryz.zeroValue148
  t55 := Tryz.underlying150
  a55 := Tryz.isAgg150
  z55 := Tryz.sizeOf150
  v55 := Tryz.zeroValue150
  t66 := Tryz.underlying159
  a66 := Tryz.isAgg159
  z66 := Tryz.sizeOf159
  v66 := Tryz.zeroValue159
  t70 := Tryz.underlying163
  a70 := Tryz.isAgg163
  z70 := Tryz.sizeOf163
  v70 := Tryz.zeroValue163
  t76 := Tryz.underlying166
  a76 := Tryz.isAgg166
  z76 := Tryz.sizeOf166
  v76 := Tryz.zeroValue166
  t77 := Tryz.underlying167
  a77 := Tryz.isAgg167
  z77 := Tryz.sizeOf167
  v77 := Tryz.zeroValue167 }

def cmpInt_ren : Go.Shelf.Ren := ⟨fun | 5 => 58 | 7 => 84 | n => n, fun | 22 => 3 | 3 => 3 | 4 => 4 | n => n, fun | n => n⟩
theorem cmpInt : Go.Proofs.SlLaysC2.n5 Tryz.prog cmpInt_ren := {
  mixed := by kernel_rfl
  f5 := ⟨Tryz.f58.name, by decide, Tryz.func58.trans (congrArg some (by kernel_rfl))⟩
  f7 := ⟨Tryz.f84.name, by decide, Tryz.func84.trans (congrArg some (by kernel_rfl))⟩
  t3 := Tryz.underlying3
  a3 := Tryz.isAgg3
  z3 := Tryz.sizeOf3
  v3 := Tryz.zeroValue3
  t4 := Tryz.underlying4
  a4 := Tryz.isAgg4
  z4 := Tryz.sizeOf4
  v4 := Tryz.zeroValue4
  t22 := Tryz.underlying3
  a22 := Tryz.isAgg3
  z22 := Tryz.sizeOf3
  v22 := Tryz.zeroValue3 }
end Go.Val

/- part LY -/
/- What the program turns in place: slices.SortFunc at ranges does in the machine what is said of it (by the kit's contract). -/
namespace Go.Proofs.IR
open Go.Shelf Go.RowKit Go.Lib Go.Sort Go.Val
set_option maxRecDepth 100000
def encR (x : TRange) : List Value := [.int .i64 x.Low, .int .i64 x.High]
set_option maxHeartbeats 1000000 in
theorem closure95 (x y : TRange) (W : World) : Calls Tryz.prog 57 #[.agg #[.int .i64 x.Low, .int .i64 x.High], .agg #[.int .i64 y.Low, .int .i64 y.High]] W fun e w' => e = .returned (.int .i64 (Lib.compareInt x.Low y.Low)) ∧ ∃ q os', w' = Sort.grow (W.drewN q) os' := by
  have hcon := fun W' => AnyG.cmp_Compare_int cmpInt x.Low y.Low W'
  change ∀ W', Calls Tryz.prog 58 _ _ _ at hcon
  generalize Lib.compareInt x.Low y.Low = r at hcon ⊢
  go_enter Tryz.func57, Tryz.ntmps57
  go_wp2_with (go_at_call 58; refine (hcon _).mono ?_; rintro e w' ⟨rfl, rfl⟩)
  go_ret
  exact ⟨rfl, 0, _, by rw [alloc_eq_grow, alloc_eq_grow, grow_grow]; rfl⟩
theorem cmpLays95 (blk off size : Nat) (w : World) : CmpLays Tryz.prog 57 #[] encR 2 (fun x y => Lib.compareInt x.Low y.Low) blk off size w :=
  fun _ _ _ _ x y => closure95 x y _
theorem ltLow : ltOf (fun x y : TRange => Lib.compareInt x.Low y.Low) = ltR := by
  funext x y
  unfold ltOf Lib.compareInt ltR
  by_cases h1 : x.Low < y.Low
  · simp [h1]
  · by_cases h2 : y.Low < x.Low <;> simp [h1, h2]
theorem swoR : SWO ltR where
  irrefl x := by simp [ltR]
  trans x y z h1 h2 := by simp [ltR] at *; omega
  ntrans x y z h1 h2 := by simp [ltR] at *; omega
variable {w : World} {G : Gh}
theorem vals_of : ∀ {l : List TRange} {vs : List Value}, RelCs w G (allCells (l.map eRange)) vs → vs = l.flatMap encR
  | [], vs, h => by
    have h' : RelCs w G [] vs := h
    cases h'; rfl
  | a :: l, vs, h => by
    have h' : RelCs w G (.int .i64 a.Low :: .int .i64 a.High :: allCells (l.map eRange)) vs := h
    cases h' with
    | cons _ v _ vs _ h1 h2 =>
      cases h2 with
      | cons _ v2 _ vs2 _ h3 h4 =>
        cases h1; cases h3
        rw [vals_of h4]; rfl
theorem rel_of : ∀ (l : List TRange), RelCs w G (allCells (l.map eRange)) (l.flatMap encR)
  | [] => .nil
  | a :: l => .cons _ _ _ _ rfl (.int _ _) (.cons _ _ _ _ rfl (.int _ _) (rel_of l))
theorem flat_len : ∀ (l : List TRange), (l.flatMap encR).length = l.length * 2
  | [] => rfl
  | a :: l => by simp only [List.flatMap_cons, List.length_append, flat_len l, List.length_cons, encR]; simp; omega
theorem flat_get : ∀ (l : List TRange) (t : Nat), t < l.length * 2 → (l.flatMap encR)[t]? = some ((encR l.toArray[t / 2]!)[t % 2]!)
  | [], t, h => by simp at h
  | a :: l, 0, h => rfl
  | a :: l, 1, h => rfl
  | a :: l, t + 2, h => by
    have ih := flat_get l t (by simp at h; omega)
    have e1 : (t + 2) / 2 = t / 2 + 1 := by omega
    have e2 : (t + 2) % 2 = t % 2 := by omega
    rw [e1, e2]
    have e3 : (a :: l).toArray[t / 2 + 1]! = l.toArray[t / 2]! := by simp [Array.getElem!_eq_getD, Array.getD_eq_getD_getElem?]
    rw [e3]
    have e4 : ((a :: l).flatMap encR)[t + 2]? = (l.flatMap encR)[t]? := by
      simp only [List.flatMap_cons, encR]; rfl
    rw [e4]; exact ih
theorem flatK_get (l : List TRange) (j : Nat) (h : j < l.length * 2) : (l.flatMap encR)[j]? = some (flatK encR 2 l.toArray)[j]! := by
  rw [get_flatK _ _ _ _ (by simpa using h)]; exact flat_get l j h
/-- As told, but nothing by hand. -/
noncomputable def CT1 : Ctx := { CT with hand := fun _ _ _ _ _ => False, look := fun _ _ _ _ => False }
theorem ext_CT1 : ExtSound CT1 := by
  refine ⟨fun _ _ _ _ _ e => e.elim, fun _ _ _ _ e => e.elim, ?_⟩
  intro g ds k zs ys he
  have he' : extR g ds k zs = some ys := he
  unfold extR at he'
  split at he'
  case isFalse => cases he'
  rename_i hc
  obtain ⟨rfl, rfl, rfl⟩ := hc
  obtain ⟨l, l', rfl, hs, rfl⟩ := extOf_some he'
  unfold sortR at hs
  split at hs
  case isFalse => cases hs
  rename_i hlen
  have hs' := Option.some.inj hs
  clear hs he he'
  subst hs'
  refine ⟨⟨Tryz.f56, _, Tryz.func56, rfl, by kernel_rfl⟩, fun w G t v vs hP hrow hvs => ?_⟩
  have hv : vs = [.func (.func 57) #[] #[]] := by
    cases hvs with
    | cons _ v _ vs _ h1 h2 =>
      cases h2
      cases h1 with
      | fn _ _ _ us vs k1 k2 =>
        have e1 : us = #[] := by
          cases hu : us.toList with
          | nil => exact Array.toList_inj.1 hu
          | cons u l => rw [hu] at k1; cases k1
        have e2 : vs = #[] := by
          cases hu : vs.toList with
          | nil => exact Array.toList_inj.1 hu
          | cons u l => rw [hu] at k2; cases k2
        rw [e1, e2]
  subst hv
  have hno : ∀ (p : Option Addr) (cap : Nat), l = [] → v = .slice p 0 cap → Calls Tryz.prog 56 #[v, .func (.func 57) #[] #[]] w fun e w' => e = .returned (.tuple #[]) ∧ w' = w := fun p cap _ e => by
    rw [e]
    exact AnyF.slices_SortFunc_none sortRg p cap _ w
  have empty : ∀ (p : Option Addr) (cap : Nat), l = [] → v = .slice p 0 cap → Calls CT1.P 56 (v :: [.func (.func 57) #[] #[]]).toArray w fun e w' => e = .returned (.tuple #[]) ∧ w'.os = w.os ∧ w'.tape = w.tape ∧ w'.output = w.output ∧ w.heap.size ≤ w'.heap.size ∧
      ((l.map eRange = [] ∧ (pdq ltR l.toArray 0 l.length (Lib.bitLen l.length) true true).toList.map eRange = [] ∧ ∀ b, b < w.heap.size → w'.heap[b]? = w.heap[b]?) ∨
       l.map eRange ≠ [] ∧ ∃ b cap arr arr', v = .slice (some ⟨b, 0, none⟩) (l.map eRange).length cap ∧ w.heap[b]? = some (.cells arr 74 (0, 0)) ∧ w'.heap[b]? = some (.cells arr' 74 (0, 0)) ∧ arr'.size = arr.size ∧ ((pdq ltR l.toArray 0 l.length (Lib.bitLen l.length) true true).toList.map eRange).length = (l.map eRange).length ∧
         (∀ y ∈ (pdq ltR l.toArray 0 l.length (Lib.bitLen l.length) true true).toList.map eRange, y.cells.length = CT1.P.cellsOf 74) ∧ RelCs w G (allCells ((pdq ltR l.toArray 0 l.length (Lib.bitLen l.length) true true).toList.map eRange)) (arr'.toList.take (((pdq ltR l.toArray 0 l.length (Lib.bitLen l.length) true true).toList.map eRange).length * CT1.P.cellsOf 74)) ∧ ∀ b', b' < w.heap.size → b' ≠ b → w'.heap[b']? = w.heap[b']?) := fun p cap hl e => by
    refine (hno p cap hl e).mono fun e w' ⟨h1, h2⟩ => ?_
    subst h2
    refine ⟨h1, rfl, rfl, rfl, Nat.le_refl _, .inl ⟨by rw [hl]; rfl, ?_, fun _ _ => rfl⟩⟩
    have hp := (pdq_sorts ltR swoR l.toArray 0 l.length (Lib.bitLen l.length) true true (Nat.zero_le _) (by simp) (Or.inl rfl)).1.1
    rw [hl] at hp ⊢
    have : (pdq ltR ([] : List TRange).toArray 0 ([] : List TRange).length (Lib.bitLen ([] : List TRange).length) true true).toList = [] := List.length_eq_zero_iff.1 (by simpa using hp)
    rw [this]; rfl
  by_cases hl : l = []
  · rcases hrow with ⟨_, a, e⟩ | ⟨b, cap, arr, e, _⟩
    · exact empty a 0 hl e
    · exact empty (some ⟨b, 0, none⟩) cap hl (by rw [e, hl]; rfl)
  rcases hrow with ⟨h0, _⟩ | ⟨b, cap, arr, rfl, h2, h3, h4, h5, h6, h7, h8⟩
  · exact absurd (List.map_eq_nil_iff.1 h0) hl
  have hcell : G.P.cellsOf 74 = 2 := by rw [hP]; kernel_rfl
  rw [hcell] at h4 h7 h8
  have hvals := vals_of h8
  have hlm : (l.map eRange).length = l.length := by simp
  rw [hlm] at hvals h5
  have hget : ∀ j, j < l.length * 2 → arr[j]? = some (flatK encR 2 l.toArray)[j]! := fun j hj => by
    rw [← flatK_get l j hj, ← hvals, List.getElem?_take, if_pos hj]; simp
  have hH : HoldsK encR 2 w b 0 l.toArray := fun j hj => by
    have hj' : j < l.length * 2 := by simpa using hj
    refine ⟨?_, ?_⟩
    · simp only [World.cell?, h3, Nat.zero_add]
      exact hget j hj'
    · simp [World.frozen?, h3]
  have hsz : l.toArray.size < 4611686018427387904 := by
    have : roomOf = 140737488355328 := rfl
    have e : l.toArray.size = l.length := by simp
    omega
  have eg : ∀ args w, (callFunc 57 args).run Tryz.prog w = .ok (.enter 57 args) w := enters_of Tryz.func57 (by kernel_rfl) rfl
  have hcon := AnyQ.slices_SortFunc_eq sortRg 2 Tryz.isAgg74 Tryz.sizeOf74 encR (fun _ => rfl) (fun x v hv => by simp [encR] at hv; rcases hv with rfl | rfl <;> rfl) (fun x y => Lib.compareInt x.Low y.Low) (by rw [ltLow]; exact swoR) 57 #[] b 0 cap l.toArray w eg (cmpLays95 b 0 _ w) hH (heap_lt h3) hsz
  rw [ltLow, List.size_toArray] at hcon
  change Calls Tryz.prog 56 _ _ _ at hcon
  clear empty hno hvs h8 hget hH eg
  have hcon' : Calls CT1.P 56 (.slice (some ⟨b, 0, none⟩) (l.map eRange).length cap :: [.func (.func 57) #[] #[]]).toArray w fun e w' => e = .returned (.tuple #[]) ∧ ∃ n os, w' = sortWorldK encR 2 w b 0 n (pdq ltR l.toArray 0 l.length (Lib.bitLen l.length) true true) os := by
    rw [hlm]
    exact hcon
  refine hcon'.mono fun e w' ⟨he, n, os, hw⟩ => ?_
  have hp := (pdq_sorts ltR swoR l.toArray 0 l.length (Lib.bitLen l.length) true true (Nat.zero_le _) (by simp) (Or.inl rfl)).1.1
  generalize pdq ltR l.toArray 0 l.length (Lib.bitLen l.length) true true = d' at hp hw ⊢
  have hb := heap_lt h3
  have hps : d'.size = l.length := by simpa using hp
  have hheap : w'.heap = (w.heap.modify b (onCells (putCells id 0 (flatK encR 2 d')))) ++ os := by rw [hw]; rfl
  have hnew : w'.heap[b]? = some (.cells (putCells id 0 (flatK encR 2 d') arr) 74 (0, 0)) := by
    rw [hheap, Array.getElem?_append, if_pos (by simpa using hb), Array.getElem?_modify, if_pos rfl, h3]; rfl
  refine ⟨he, by rw [hw]; rfl, by rw [hw]; rfl, by rw [hw]; rfl, by rw [hheap]; simp, .inr ⟨by simpa using hl, b, cap, arr, _, rfl, h3, hnew, by simp [putCells], by simp [hps], ?_, ?_, fun b' hb' hne => ?_⟩⟩
  · intro y hy
    obtain ⟨x, _, rfl⟩ := List.mem_map.1 hy
    kernel_rfl
  · have e : (putCells id 0 (flatK encR 2 d') arr).toList.take ((d'.toList.map eRange).length * CT1.P.cellsOf 74) = d'.toList.flatMap encR := by
      have hc2 : CT1.P.cellsOf 74 = 2 := by kernel_rfl
      rw [hc2]
      apply List.ext_getElem?
      intro j
      have hdl : d'.toList.length = l.length := by simpa using hps
      rw [List.getElem?_take]
      by_cases hj : j < d'.toList.length * 2
      · have hj2 : j < (d'.toList.map eRange).length * 2 := by simpa using hj
        rw [if_pos hj2, flatK_get d'.toList j hj]
        have hja : j < arr.size := by rw [h4]; rw [hdl] at hj; omega
        have hx : arr[j]? = some arr[j] := Array.getElem?_eq_getElem hja
        have hs : j < 0 + (flatK encR 2 d').size := by simpa using hj
        simp only [Array.getElem?_toList, putCells, Array.getElem?_mapIdx, hx, Option.map_some, Nat.zero_le, true_and, Nat.sub_zero, id]
        rw [if_pos hs]
      · have hj2 : ¬ j < (d'.toList.map eRange).length * 2 := by simpa using hj
        rw [if_neg hj2, List.getElem?_eq_none (by rw [flat_len]; omega)]
    rw [e]
    exact rel_of _
  · rw [hheap, Array.getElem?_append, if_pos (by simpa using hb'), Array.getElem?_modify, if_neg (Ne.symm hne)]
end Go.Proofs.IR

/- part LF -/
/- Functions that are read off the program. -/
namespace Go.Val
noncomputable section
def scansionref08_Nodes.k1 (most : Int) (k : Int) : Option Int :=
  some (mn k most)
def scansionref08_Nodes.b1 (self : TNode → Int → Int → Option Int) (n : TNode) (most : Int) (deep : Int) : (Int × Int) → Option (Step ((Int × Int)) Int)
  | (k1, i) =>
    if (decide (i < (n.Kids.length : Int))) then
      if ((decide (k1 ≥ most)) || (decide (deep ≤ (0 : Int)))) then
        some (Step.done most)
      else
        (idx n.Kids i).bind fun x =>
        (self x (IntKind.i64.wrap (most - k1)) (IntKind.i64.wrap (deep - (1 : Int)))).bind fun r =>
        some (Step.next ((IntKind.i64.wrap (k1 + r)), (IntKind.i64.wrap (i + (1 : Int)))))
    else
      (scansionref08_Nodes.k1 most k1).map Step.done
def scansionref08_Nodes.r : Nat → TNode → Int → Int → Option Int
  | 0, _, _, _ => none
  | fu + 1, n, most, deep =>
    Loop (scansionref08_Nodes.b1 (scansionref08_Nodes.r fu) n most deep) ((1 : Int), (0 : Int))
def scansionref08_Nodes (n : TNode) (most : Int) (deep : Int) : Option Int := lim fun fuZ => scansionref08_Nodes.r fuZ n most deep
def scansionlaw08_few.k2 : Option Bool :=
  some true
def scansionlaw08_few.b1 (p : TProgram) : Int → Option (Step Int Bool)
  | i =>
    if (decide (i < (p.Rules.length : Int))) then
      ((idx p.Rules i).bind fun x =>
        (scansionref08_Nodes x.Left (150 : Int) (60 : Int)).bind fun r =>
        if (decide (r ≥ (150 : Int))) then
          some true
        else
          (scansionref08_Nodes x.Right (150 : Int) (60 : Int)).bind fun r1 =>
          some (decide (r1 ≥ (150 : Int)))).bind fun v1 =>
      if v1 then
        some (Step.done false)
      else
        some (Step.next (IntKind.i64.wrap (i + (1 : Int))))
    else
      (scansionlaw08_few.k2).map Step.done
def scansionlaw08_few.k1 (p : TProgram) : Option Bool :=
  Loop (scansionlaw08_few.b1 p) (0 : Int)
def scansionlaw08_few.b2 (p : TProgram) : Int → Option (Step Int Bool)
  | i1 =>
    if (decide (i1 < (p.Sets.length : Int))) then
      (idx p.Sets i1).bind fun xs =>
      if (decide ((xs.length : Int) > (40 : Int))) then
        some (Step.done false)
      else
        some (Step.next (IntKind.i64.wrap (i1 + (1 : Int))))
    else
      (scansionlaw08_few.k1 p).map Step.done
def scansionlaw08_few (p : TProgram) : Option Bool :=
  if ((decide ((p.Sets.length : Int) > (70 : Int))) || (decide ((p.Rules.length : Int) > (70 : Int)))) then
    some false
  else
    Loop (scansionlaw08_few.b2 p) (0 : Int)
def ranges_Make_1 (x : TRange) : Option Bool :=
  some ((decide (x.Low < (0 : Int))) || ((decide (x.High > (1114111 : Int))) || (decide (x.Low > x.High))))
def slices_IndexFunc_api_Range_api_Range.k1 : Option Int :=
  some (-1 : Int)
def slices_IndexFunc_api_Range_api_Range.b1 (s : List TRange) (f : TRange → Option Bool) : Int → Option (Step Int Int)
  | v =>
    if (decide (v < (s.length : Int))) then
      (idx s v).bind fun x =>
      (f x).bind fun r =>
      if r then
        some (Step.done v)
      else
        some (Step.next (IntKind.i64.wrap (v + (1 : Int))))
    else
      (slices_IndexFunc_api_Range_api_Range.k1).map Step.done
def slices_IndexFunc_api_Range_api_Range (s : List TRange) (f : TRange → Option Bool) : Option Int :=
  Loop (slices_IndexFunc_api_Range_api_Range.b1 s f) (0 : Int)
def slices_ContainsFunc_api_Range_api_Range (s : List TRange) (f : TRange → Option Bool) : Option Bool :=
  (slices_IndexFunc_api_Range_api_Range s f).bind fun r =>
  some (decide (r ≥ (0 : Int)))
def ranges_put (l : List TRange) (x : TRange) : Option (List TRange) :=
  (if (decide ((l.length : Int) > (0 : Int))) then
      (idx l (IntKind.i64.wrap ((l.length : Int) - (1 : Int)))).bind fun x1 =>
      some (decide (x.Low ≤ (IntKind.i64.wrap (x1.High + (1 : Int)))))
    else
      some false).bind fun v =>
  if v then
    (idx l (IntKind.i64.wrap ((l.length : Int) - (1 : Int)))).bind fun x2 =>
    some (List.set l (Int.toNat (IntKind.i64.wrap ((l.length : Int) - (1 : Int)))) (TRange.mk x2.Low (mx x2.High x.High)))
  else
    (room 16 (l.length + 1)).bind fun _ =>
    some (l ++ ([x]))
def ranges_Make.k1 (out : List TRange) : Option ((List TRange × Int)) :=
  some (out, (0 : Int))
def ranges_Make.b1 (l1 : List TRange) : (List TRange × Int) → Option (Step ((List TRange × Int)) ((List TRange × Int)))
  | (out1, v) =>
    if (decide (v < (l1.length : Int))) then
      (idx l1 v).bind fun x =>
      (ranges_put out1 x).bind fun r2 =>
      some (Step.next (r2, (IntKind.i64.wrap (v + (1 : Int)))))
    else
      (ranges_Make.k1 out1).map Step.done
def ranges_Make (l : List TRange) : Option ((List TRange × Int)) :=
  (slices_ContainsFunc_api_Range_api_Range l (ranges_Make_1)).bind fun r =>
  if r then
    some (([] : List TRange), (1 : Int))
  else
    (slices_Clone_api_Range_api_Range l).bind fun r1 =>
    (sortR r1).bind fun l1 =>
    Loop (ranges_Make.b1 l1) ([], (0 : Int))
def slices_Equal_api_Range_api_Range.k1 : Option Bool :=
  some true
def slices_Equal_api_Range_api_Range.b1 (s1 : List TRange) (s2 : List TRange) : Int → Option (Step Int Bool)
  | v =>
    if (decide (v < (s1.length : Int))) then
      (idx s1 v).bind fun x =>
      (idx s2 v).bind fun x1 =>
      if (!(x.Low == x1.Low && (x.High == x1.High && true))) then
        some (Step.done false)
      else
        some (Step.next (IntKind.i64.wrap (v + (1 : Int))))
    else
      (slices_Equal_api_Range_api_Range.k1).map Step.done
def slices_Equal_api_Range_api_Range (s1 : List TRange) (s2 : List TRange) : Option Bool :=
  if ((s1.length : Int) != (s2.length : Int)) then
    some false
  else
    Loop (slices_Equal_api_Range_api_Range.b1 s1 s2) (0 : Int)
def syntax_set (l : List TRange) : Option Bool :=
  (ranges_Make l).bind fun r =>
  (if (r.2 == (0 : Int)) then
      (slices_Equal_api_Range_api_Range r.1 l).bind fun r1 =>
      some r1
    else
      some false).bind fun v =>
  some v
def syntax_signed (n : TNode) : Option Bool :=
  some ((decide (n.Kind ≥ (3 : Int))) && (decide (n.Kind ≤ (5 : Int))))
def syntax_fits (n : TNode) : Option Bool :=
  if (n.Kind == (0 : Int)) then
    some ((n.Kids.length : Int) != (1 : Int))
  else
    if (n.Kind == (2 : Int)) then
      some (decide ((n.Kids.length : Int) > (1 : Int)))
    else
      ((syntax_signed n).bind fun r =>
        if r then
          some ((n.Kids.length : Int) == (1 : Int))
        else
          some false).bind fun v =>
      some v
def syntax_open (of : TNode) (n : TNode) : Option Bool :=
  some ((n.Kind == (2 : Int)) || ((n.Kind == (0 : Int)) && (of.Kind != (2 : Int))))
def syntax_checker_right.k2 (sets : Int) (met : Int) : Option ((Bool × Tsyntax_checker)) :=
  some (true, (Tsyntax_checker.mk sets met))
def syntax_checker_right.k3 (self : Tsyntax_checker → TNode → Int → Int → Option ((Bool × Tsyntax_checker))) (signs1 : Int) (v1 : Int) (sets1 : Int) (met1 : Int) (x : TNode) (more : Int) : Option (Step ((Int × Int × Int)) ((Bool × Tsyntax_checker))) :=
  (if (decide (more > (20 : Int))) then
      some (true, sets1, met1)
    else
      (self (Tsyntax_checker.mk sets1 met1) x more signs1).bind fun r3 =>
      some ((!r3.1), r3.2.sets, r3.2.met)).bind fun (v2, sets2, met2) =>
  if v2 then
    some (Step.done (false, (Tsyntax_checker.mk sets2 met2)))
  else
    some (Step.next ((IntKind.i64.wrap (v1 + (1 : Int))), sets2, met2))
def syntax_checker_right.b1 (self : Tsyntax_checker → TNode → Int → Int → Option ((Bool × Tsyntax_checker))) (n : TNode) (depth : Int) (signs1 : Int) : (Int × Int × Int) → Option (Step ((Int × Int × Int)) ((Bool × Tsyntax_checker)))
  | (v1, sets1, met1) =>
    if (decide (v1 < (n.Kids.length : Int))) then
      (idx n.Kids v1).bind fun x =>
      (syntax_open n x).bind fun r2 =>
      if r2 then
        syntax_checker_right.k3 self signs1 v1 sets1 met1 x (IntKind.i64.wrap (depth + (1 : Int)))
      else
        syntax_checker_right.k3 self signs1 v1 sets1 met1 x depth
    else
      (syntax_checker_right.k2 sets1 met1).map Step.done
def syntax_checker_right.k1 (self : Tsyntax_checker → TNode → Int → Int → Option ((Bool × Tsyntax_checker))) (c : Tsyntax_checker) (n : TNode) (depth : Int) (signs1 : Int) : Option ((Bool × Tsyntax_checker)) :=
  ((syntax_fits n).bind fun r1 =>
    if (!r1) then
      some true
    else
      if (n.Set != (0 : Int)) then
        some true
      else
        some (decide (signs1 > (3 : Int)))).bind fun v =>
  if v then
    some (false, c)
  else
    Loop (syntax_checker_right.b1 self n depth signs1) ((0 : Int), c.sets, c.met)
def syntax_checker_right.r : Nat → Tsyntax_checker → TNode → Int → Int → Option ((Bool × Tsyntax_checker))
  | 0, _, _, _, _ => none
  | fu + 1, c, n, depth, signs =>
    if (n.Kind == (1 : Int)) then
      some ((((n.Kids.length : Int) == (0 : Int)) && ((decide (n.Set ≥ (0 : Int))) && ((decide (n.Set < c.sets)) && (decide (n.Set ≤ c.met))))), (Tsyntax_checker.mk c.sets (mx c.met (IntKind.i64.wrap ((mn n.Set c.sets) + (1 : Int))))))
    else
      (syntax_signed n).bind fun r =>
      if (!r) then
        syntax_checker_right.k1 (syntax_checker_right.r fu) c n depth (0 : Int)
      else
        syntax_checker_right.k1 (syntax_checker_right.r fu) c n depth (IntKind.i64.wrap (signs + (1 : Int)))
def syntax_checker_right (c : Tsyntax_checker) (n : TNode) (depth : Int) (signs : Int) : Option ((Bool × Tsyntax_checker)) := lim fun fuZ => syntax_checker_right.r fuZ c n depth signs
def syntax_Right.k2 (p : TProgram) (m : List (Str × Bool)) (sets : Int) (met : Int) : Option Bool :=
  some (((m.length : Int) == (p.Sets.length : Int)) && (met == (p.Sets.length : Int)))
def syntax_Right.b1 (p : TProgram) (m : List (Str × Bool)) : (Int × Int × Int) → Option (Step ((Int × Int × Int)) Bool)
  | (v2, sets1, met1) =>
    if (decide (v2 < (p.Rules.length : Int))) then
      (idx p.Rules v2).bind fun x =>
      ((syntax_checker_right (Tsyntax_checker.mk sets1 met1) x.Left (0 : Int) (0 : Int)).bind fun r =>
        if (!r.1) then
          some (true, r.2.sets, r.2.met)
        else
          (syntax_checker_right r.2 x.Right (0 : Int) (0 : Int)).bind fun r1 =>
          some ((!r1.1), r1.2.sets, r1.2.met)).bind fun (v3, sets2, met2) =>
      if v3 then
        some (Step.done false)
      else
        some (Step.next ((IntKind.i64.wrap (v2 + (1 : Int))), sets2, met2))
    else
      (syntax_Right.k2 p m sets1 met1).map Step.done
def syntax_Right.k1 (p : TProgram) (m : List (Str × Bool)) : Option Bool :=
  Loop (syntax_Right.b1 p m) ((0 : Int), (p.Sets.length : Int), (0 : Int))
def syntax_Right.b2 (p : TProgram) : (Int × List (Str × Bool)) → Option (Step ((Int × List (Str × Bool))) Bool)
  | (v4, m1) =>
    if (decide (v4 < (p.Sets.length : Int))) then
      (idx p.Sets v4).bind fun xs =>
      (syntax_set xs).bind fun r2 =>
      if (!r2) then
        some (Step.done false)
      else
        (lex_Set xs).bind fun r3 =>
        some (Step.next ((IntKind.i64.wrap (v4 + (1 : Int))), (aput r3 true m1)))
    else
      (syntax_Right.k1 p m1).map Step.done
def syntax_Right (p : TProgram) : Option Bool :=
  if ((decide ((p.Sets.length : Int) > (60 : Int))) || (decide ((p.Rules.length : Int) > (64 : Int)))) then
    some false
  else
    Loop (syntax_Right.b2 p) ((0 : Int), [])
def syntax_printed.k1 (n : TNode) (l : List Str) : Option Str :=
  if (n.Kind == (2 : Int)) then
    (strings_Join l ([124] : Str)).bind fun r1 =>
    some r1
  else
    if (n.Kind == (3 : Int)) then
      (l[0]?).bind fun s =>
      (roomS (s.length + 1)).bind fun _ =>
      some (s ++ ([42] : Str))
    else
      if (n.Kind == (4 : Int)) then
        (l[0]?).bind fun s1 =>
        (roomS (s1.length + 1)).bind fun _ =>
        some (s1 ++ ([43] : Str))
      else
        if (n.Kind == (5 : Int)) then
          (l[0]?).bind fun s2 =>
          (roomS (s2.length + 1)).bind fun _ =>
          some (s2 ++ ([63] : Str))
        else
          (strings_Join l ([] : Str)).bind fun r2 =>
          some r2
def syntax_printed.k2 (l1 : List Str) (v : Int) (s3 : Str) : Option (Step ((List Str × Int)) Str) :=
  (room 16 (l1.length + 1)).bind fun _ =>
  some (Step.next ((l1 ++ ([s3])), (IntKind.i64.wrap (v + (1 : Int)))))
def syntax_printed.b1 (self : TNode → (List (List TRange)) → Option Str) (n : TNode) (sets : List (List TRange)) : (List Str × Int) → Option (Step ((List Str × Int)) Str)
  | (l1, v) =>
    if (decide (v < (n.Kids.length : Int))) then
      (idx n.Kids v).bind fun x =>
      (self x sets).bind fun r3 =>
      (syntax_open n x).bind fun r4 =>
      if r4 then
        (roomS (1 + r3.length)).bind fun _ =>
        (roomS (r3.length + 1 + 1)).bind fun _ =>
        syntax_printed.k2 l1 v ((([40] : Str) ++ r3) ++ ([41] : Str))
      else
        syntax_printed.k2 l1 v r3
    else
      (syntax_printed.k1 n l1).map Step.done
def syntax_printed.r : Nat → TNode → (List (List TRange)) → Option Str
  | 0, _, _ => none
  | fu + 1, n, sets =>
    if (n.Kind == (1 : Int)) then
      (idx sets n.Set).bind fun xs =>
      (lex_Set xs).bind fun r =>
      some r
    else
      Loop (syntax_printed.b1 (syntax_printed.r fu) n sets) ([], (0 : Int))
def syntax_printed (n : TNode) (sets : List (List TRange)) : Option Str := lim fun fuZ => syntax_printed.r fuZ n sets
def syntax_Print.k1 (b : List UInt8) : Option ((List UInt8 × Int)) :=
  some (b, (0 : Int))
def syntax_Print.k2 (p : TProgram) (b1 : List UInt8) (v : Int) (x : TRule) (word : Str) : Option (Step ((List UInt8 × Int)) ((List UInt8 × Int))) :=
  (syntax_printed x.Left p.Sets).bind fun r1 =>
  (roomS (word.length + r1.length)).bind fun _ =>
  (roomS (word.length + r1.length + 1)).bind fun _ =>
  (syntax_printed x.Right p.Sets).bind fun r2 =>
  (roomS (word.length + (r1.length + 1) + r2.length)).bind fun _ =>
  (roomS (word.length + (r1.length + (r2.length + 1)) + 2)).bind fun _ =>
  (room 1 (b1.length + (word.length + (r1.length + (r2.length + 2 + 1))))).bind fun _ =>
  some (Step.next ((b1 ++ ((((word ++ r1) ++ ([47] : Str)) ++ r2) ++ ([59, 10] : Str))), (IntKind.i64.wrap (v + (1 : Int)))))
def syntax_Print.b1 (p : TProgram) : (List UInt8 × Int) → Option (Step ((List UInt8 × Int)) ((List UInt8 × Int)))
  | (b1, v) =>
    if (decide (v < (p.Rules.length : Int))) then
      (idx p.Rules v).bind fun x =>
      if x.Break then
        syntax_Print.k2 p b1 v x ([98, 114, 101, 97, 107, 32] : Str)
      else
        syntax_Print.k2 p b1 v x ([107, 101, 101, 112, 32] : Str)
    else
      (syntax_Print.k1 b1).map Step.done
def syntax_Print (p : TProgram) : Option ((List UInt8 × Int)) :=
  (syntax_Right p).bind fun r =>
  if (!r) then
    some (([] : List UInt8), (1 : Int))
  else
    Loop (syntax_Print.b1 p) ([], (0 : Int))
def scansionref02_Same.k1 : Option Bool :=
  some true
def scansionref02_Same.b1 (a_ : List TRange) (b : List TRange) : Int → Option (Step Int Bool)
  | i =>
    if (decide (i < (a_.length : Int))) then
      (idx a_ i).bind fun x =>
      (idx b i).bind fun x1 =>
      if (!(x.Low == x1.Low && (x.High == x1.High && true))) then
        some (Step.done false)
      else
        some (Step.next (IntKind.i64.wrap (i + (1 : Int))))
    else
      (scansionref02_Same.k1).map Step.done
def scansionref02_Same (a_ : List TRange) (b : List TRange) : Option Bool :=
  if ((a_.length : Int) != (b.length : Int)) then
    some false
  else
    Loop (scansionref02_Same.b1 a_ b) (0 : Int)
def lex_reader_now (r : Tlex_reader) : Option Int :=
  if (decide (r.place ≥ (r.units.length : Int))) then
    some (-1 : Int)
  else
    (idx r.units r.place).bind fun x =>
    if x.Bad then
      some (-2 : Int)
    else
      some x.Rune
def lex_reader_skip.k1 (r : Tlex_reader) (place : Int) : Option Tlex_reader :=
  some (Tlex_reader.mk r.units place r.whole r.fault)
def lex_reader_skip.b1 (r : Tlex_reader) (is : Int → Option Bool) : Int → Option (Step Int Tlex_reader)
  | place1 =>
    (lex_reader_now (Tlex_reader.mk r.units place1 r.whole r.fault)).bind fun r1 =>
    (is r1).bind fun r2 =>
    if r2 then
      some (Step.next (IntKind.i64.wrap (place1 + (1 : Int))))
    else
      (lex_reader_skip.k1 r place1).map Step.done
def lex_reader_skip (r : Tlex_reader) (is : Int → Option Bool) : Option Tlex_reader :=
  Loop (lex_reader_skip.b1 r is) r.place
def lex_one.k1 : Option Bool :=
  some false
def lex_one.b1 (of : Str) (r : Int) : Int → Option (Step Int Bool)
  | v =>
    if (decide (v < (of.length : Int))) then
      (idx of v).bind fun c =>
      if ((IntKind.i64.wrap (c.toNat : Int)) == r) then
        some (Step.done true)
      else
        some (Step.next (IntKind.i64.wrap (v + (1 : Int))))
    else
      (lex_one.k1).map Step.done
def lex_one (of : Str) (r : Int) : Option Bool :=
  Loop (lex_one.b1 of r) (0 : Int)
def lex_reader_blank_1 (n : Int) : Option Bool :=
  (lex_one ([32, 9, 13, 10] : Str) n).bind fun r =>
  some r
def lex_reader_blank_2 (n : Int) : Option Bool :=
  some ((n != (10 : Int)) && ((n != (-1 : Int)) && (n != (-2 : Int))))
def lex_reader_blank.b1 : (List TUnit × Int × Int × Int) → Option (Step ((List TUnit × Int × Int × Int)) Tlex_reader)
  | (units, place, whole, fault) =>
    (lex_reader_skip (Tlex_reader.mk units place whole fault) (lex_reader_blank_1)).bind fun r1 =>
    (lex_reader_now r1).bind fun r2 =>
    if (r2 != (35 : Int)) then
      some (Step.done r1)
    else
      (lex_reader_skip r1 (lex_reader_blank_2)).bind fun r3 =>
      some (Step.next (r3.units, r3.place, r3.whole, r3.fault))
def lex_reader_blank (r : Tlex_reader) : Option Tlex_reader :=
  Loop lex_reader_blank.b1 (r.units, r.place, r.whole, r.fault)
def lex_reader_at (r : Tlex_reader) : Option Int :=
  if (decide (r.place ≥ (r.units.length : Int))) then
    some r.whole
  else
    (idx r.units r.place).bind fun x =>
    some x.At
def lex_reader_odd.k1 (r : Tlex_reader) (fault : Int) : Option Tlex_reader :=
  some (Tlex_reader.mk r.units r.place r.whole fault)
def lex_reader_odd (r : Tlex_reader) : Option Tlex_reader :=
  if (r.fault != (0 : Int)) then
    lex_reader_odd.k1 r r.fault
  else
    (lex_reader_now r).bind fun r1 =>
    if (r1 == (-1 : Int)) then
      lex_reader_odd.k1 r (7 : Int)
    else
      lex_reader_odd.k1 r (6 : Int)
def lex_reader_take (r : Tlex_reader) (is : Int → Option Bool) : Option ((Int × Tlex_reader)) :=
  (lex_reader_now r).bind fun r1 =>
  (if (r.fault != (0 : Int)) then
      some true
    else
      (is r1).bind fun r2 =>
      some (!r2)).bind fun v =>
  if v then
    (lex_reader_odd r).bind fun r3 =>
    some ((0 : Int), r3)
  else
    some (r1, (Tlex_reader.mk r.units (IntKind.i64.wrap (r.place + (1 : Int))) r.whole r.fault))
def lex_lower (r : Int) : Option Bool :=
  some ((decide (r ≥ (97 : Int))) && (decide (r ≤ (122 : Int))))
def lex_reader_token_1 (n : Int) : Option Bool :=
  ((lex_lower n).bind fun r =>
    if r then
      some true
    else
      if (n == (91 : Int)) then
        some true
      else
        (lex_one ([61, 59, 47, 124, 42, 43, 63, 40, 41, 46, 126, 38, 45] : Str) n).bind fun r1 =>
        some r1).bind fun v =>
  some v
def lex_reader_letter_1 (n : Int) : Option Bool :=
  (if (decide (n ≥ (32 : Int))) then
      (lex_one ([91, 93, 45] : Str) n).bind fun r =>
      some (!r)
    else
      some false).bind fun v =>
  some v
def lex_reader_letter_2 (n : Int) : Option Bool :=
  (if (n == (120 : Int)) then
      some true
    else
      (lex_one ([91, 93, 45, 92] : Str) n).bind fun r =>
      some r).bind fun v =>
  some v
def lex_reader_number_1 (n : Int) : Option Bool :=
  some (n == (123 : Int))
def lex_reader_number_2 (n : Int) : Option Bool :=
  some (bif (decide (n ≥ (48 : Int))) then ((decide (n ≤ (57 : Int))) || ((decide (n ≥ (65 : Int))) && (decide (n ≤ (70 : Int))))) else ((decide (n ≥ (65 : Int))) && (decide (n ≤ (70 : Int)))))
def lex_reader_number_3 (n : Int) : Option Bool :=
  some (n == (125 : Int))
def lex_reader_number.k1 (out : Int) (units : List TUnit) (place : Int) (whole : Int) (fault : Int) : Option ((Int × Tlex_reader)) :=
  (lex_reader_take (Tlex_reader.mk units place whole fault) (lex_reader_number_3)).bind fun r2 =>
  some (out, r2.2)
def lex_reader_number.k2 (out1 : Int) (i : Int) (r5 : (Int × Tlex_reader)) (n : Int) : Option (Step ((Int × Int × List TUnit × Int × Int × Int)) ((Int × Tlex_reader))) :=
  some (Step.next ((IntKind.i64.wrap ((IntKind.i64.wrap ((IntKind.i64.wrap (out1 * (16 : Int))) + n)) - (48 : Int))), (IntKind.i64.wrap (i + (1 : Int))), r5.2.units, r5.2.place, r5.2.whole, r5.2.fault))
def lex_reader_number.b1 : (Int × Int × List TUnit × Int × Int × Int) → Option (Step ((Int × Int × List TUnit × Int × Int × Int)) ((Int × Tlex_reader)))
  | (out1, i, units1, place1, whole1, fault1) =>
    (if (decide (i < (6 : Int))) then
        if (i == (0 : Int)) then
          some true
        else
          (lex_reader_now (Tlex_reader.mk units1 place1 whole1 fault1)).bind fun r3 =>
          (lex_reader_number_2 r3).bind fun r4 =>
          some r4
      else
        some false).bind fun v =>
    if v then
      (lex_reader_take (Tlex_reader.mk units1 place1 whole1 fault1) (lex_reader_number_2)).bind fun r5 =>
      if (decide (r5.1 ≥ (65 : Int))) then
        lex_reader_number.k2 out1 i r5 (IntKind.i64.wrap (r5.1 - (7 : Int)))
      else
        lex_reader_number.k2 out1 i r5 r5.1
    else
      (lex_reader_number.k1 out1 units1 place1 whole1 fault1).map Step.done
def lex_reader_number (r : Tlex_reader) : Option ((Int × Tlex_reader)) :=
  (lex_reader_take r (lex_reader_number_1)).bind fun r1 =>
  Loop lex_reader_number.b1 ((0 : Int), (0 : Int), r1.2.units, r1.2.place, r1.2.whole, r1.2.fault)
def lex_reader_letter (r : Tlex_reader) : Option ((Int × Tlex_reader)) :=
  (lex_reader_take r (lex_reader_letter_1)).bind fun r1 =>
  if ((r1.1 != (92 : Int)) || (r1.2.fault != (0 : Int))) then
    some (r1.1, r1.2)
  else
    (lex_reader_take r1.2 (lex_reader_letter_2)).bind fun r2 =>
    if (r2.1 != (120 : Int)) then
      some (r2.1, r2.2)
    else
      (lex_reader_number r2.2).bind fun r3 =>
      some (r3.1, r3.2)
def lex_reader_set.k1 (l : List TRange) (units : List TUnit) (place : Int) (whole : Int) (fault : Int) : Option ((List TRange × Tlex_reader)) :=
  (ranges_Make l).bind fun r1 =>
  some (r1.1, (Tlex_reader.mk units (IntKind.i64.wrap (place + (1 : Int))) whole fault))
def lex_reader_set.k2 (l1 : List TRange) (place1 : Int) (r3 : (Int × Tlex_reader)) (High : Int) (units2 : List TUnit) (place2 : Int) (whole2 : Int) (fault2 : Int) : Option (Step ((List TRange × List TUnit × Int × Int × Int)) ((List TRange × Tlex_reader))) :=
  if (fault2 != (0 : Int)) then
    some (Step.done (([] : List TRange), (Tlex_reader.mk units2 place2 whole2 fault2)))
  else
    if ((decide (r3.1 > High)) || (decide (High > (1114111 : Int)))) then
      some (Step.done (([] : List TRange), (Tlex_reader.mk units2 place1 whole2 (1 : Int))))
    else
      (room 16 (l1.length + 1)).bind fun _ =>
      some (Step.next ((l1 ++ ([(TRange.mk r3.1 High)])), units2, place2, whole2, fault2))
def lex_reader_set.b1 : (List TRange × List TUnit × Int × Int × Int) → Option (Step ((List TRange × List TUnit × Int × Int × Int)) ((List TRange × Tlex_reader)))
  | (l1, units1, place1, whole1, fault1) =>
    (lex_reader_now (Tlex_reader.mk units1 place1 whole1 fault1)).bind fun r2 =>
    if (r2 != (93 : Int)) then
      (lex_reader_letter (Tlex_reader.mk units1 place1 whole1 fault1)).bind fun r3 =>
      ((lex_reader_now r3.2).bind fun r4 =>
        if (r4 == (45 : Int)) then
          some (r3.2.fault == (0 : Int))
        else
          some false).bind fun v =>
      if v then
        (lex_reader_letter (Tlex_reader.mk r3.2.units (IntKind.i64.wrap (r3.2.place + (1 : Int))) r3.2.whole r3.2.fault)).bind fun r5 =>
        lex_reader_set.k2 l1 place1 r3 r5.1 r5.2.units r5.2.place r5.2.whole r5.2.fault
      else
        lex_reader_set.k2 l1 place1 r3 r3.1 r3.2.units r3.2.place r3.2.whole r3.2.fault
    else
      (lex_reader_set.k1 l1 units1 place1 whole1 fault1).map Step.done
def lex_reader_set (r : Tlex_reader) : Option ((List TRange × Tlex_reader)) :=
  Loop lex_reader_set.b1 ([], r.units, r.place, r.whole, r.fault)
def lex_goes (r : Int) : Option Bool :=
  ((lex_lower r).bind fun r1 =>
    if r1 then
      some true
    else
      if (decide (r ≥ (48 : Int))) then
        if (decide (r ≤ (57 : Int))) then
          some true
        else
          some (r == (95 : Int))
      else
        some (r == (95 : Int))).bind fun v =>
  some v
def lex_reader_token.k1 (b : List UInt8) (r1 : Int) (Kind : Int) (units : List TUnit) (place : Int) (whole : Int) (fault : Int) : Option ((TToken × Tlex_reader)) :=
  (lex_reader_at (Tlex_reader.mk units place whole fault)).bind fun r3 =>
  (cut b r1 r3).bind fun _ =>
  some ((TToken.mk Kind r1 (List.drop (Int.toNat r1) (List.take (Int.toNat r3) b)) []), (Tlex_reader.mk units place whole fault))
def lex_reader_token (r : Tlex_reader) (b : List UInt8) : Option ((TToken × Tlex_reader)) :=
  (lex_reader_at r).bind fun r1 =>
  (lex_reader_take r (lex_reader_token_1)).bind fun r2 =>
  if (r2.1 == (91 : Int)) then
    (lex_reader_set r2.2).bind fun r4 =>
    some ((TToken.mk (3 : Int) r1 ([] : Str) r4.1), r4.2)
  else
    (lex_lower r2.1).bind fun r5 =>
    if r5 then
      (lex_reader_skip r2.2 (lex_goes)).bind fun r6 =>
      lex_reader_token.k1 b r1 (1 : Int) r6.units r6.place r6.whole r6.fault
    else
      lex_reader_token.k1 b r1 (2 : Int) r2.2.units r2.2.place r2.2.whole r2.2.fault
def lex_Tokens.k1 (b : List UInt8) (out : List TToken) : Option ((List TToken × Int × Int)) :=
  (room 56 (out.length + 1)).bind fun _ =>
  some ((out ++ ([(TToken.mk (4 : Int) (b.length : Int) ([] : Str) [])])), (0 : Int), (0 : Int))
def lex_Tokens.b1 (b : List UInt8) : (List TToken × List TUnit × Int × Int × Int) → Option (Step ((List TToken × List TUnit × Int × Int × Int)) ((List TToken × Int × Int)))
  | (out1, units, place, whole, fault) =>
    (lex_reader_now (Tlex_reader.mk units place whole fault)).bind fun r2 =>
    if (r2 != (-1 : Int)) then
      (lex_reader_token (Tlex_reader.mk units place whole fault) b).bind fun r3 =>
      (room 56 (out1.length + 1)).bind fun _ =>
      if (r3.2.fault != (0 : Int)) then
        (lex_reader_at r3.2).bind fun r4 =>
        some (Step.done (([] : List TToken), r4, r3.2.fault))
      else
        (lex_reader_blank r3.2).bind fun r5 =>
        some (Step.next ((out1 ++ ([r3.1])), r5.units, r5.place, r5.whole, r5.fault))
    else
      (lex_Tokens.k1 b out1).map Step.done
def lex_Tokens (b : List UInt8) : Option ((List TToken × Int × Int)) :=
  if (decide ((b.length : Int) > (65536 : Int))) then
    some (([] : List TToken), (0 : Int), (3 : Int))
  else
    (utf_Decode b).bind fun r =>
    (lex_reader_blank (Tlex_reader.mk r (0 : Int) (b.length : Int) (0 : Int))).bind fun r1 =>
    Loop (lex_Tokens.b1 b) ([], r1.units, r1.place, r1.whole, r1.fault)
def syntax_kept (s : Str) : Option Bool :=
  some ((s == ([115, 101, 116] : Str)) || ((s == ([98, 114, 101, 97, 107] : Str)) || (s == ([107, 101, 101, 112] : Str))))
def syntax_tokens_now (t : Tsyntax_parser) : Option TToken :=
  (idx t.tokens.list t.tokens.place).bind fun x =>
  some x
def syntax_tokens_fail.k1 (t : Tsyntax_parser) (fault : Int) : Option Tsyntax_parser :=
  some (Tsyntax_parser.mk (Tsyntax_tokens.mk t.tokens.list t.tokens.place fault) t.names t.program)
def syntax_tokens_fail (t : Tsyntax_parser) (e_ : Int) : Option Tsyntax_parser :=
  if (t.tokens.fault == (0 : Int)) then
    syntax_tokens_fail.k1 t e_
  else
    syntax_tokens_fail.k1 t t.tokens.fault
def syntax_tokens_is (t : Tsyntax_parser) (sign : Str) : Option Bool :=
  (syntax_tokens_now t).bind fun r =>
  some ((t.tokens.fault == (0 : Int)) && ((r.Kind == (2 : Int)) && (r.Text == sign)))
def syntax_tokens_take (t : Tsyntax_parser) (sign : Str) : Option Tsyntax_parser :=
  (syntax_tokens_is t sign).bind fun r =>
  if (!r) then
    (syntax_tokens_fail t (6 : Int)).bind fun r1 =>
    some r1
  else
    some (Tsyntax_parser.mk (Tsyntax_tokens.mk t.tokens.list (IntKind.i64.wrap (t.tokens.place + (1 : Int))) t.tokens.fault) t.names t.program)
def syntax_parser_set.k1 (p : Tsyntax_parser) (r : TToken) (list : List TToken) (place : Int) (fault : Int) (Sets : List (List TRange)) (Rules : List TRule) (m : List (Str × List TRange)) : Option ((List TRange × Bool × Tsyntax_parser)) :=
  some (((aget r.Text p.names).getD []), (aget r.Text p.names).isSome, (Tsyntax_parser.mk (Tsyntax_tokens.mk list place fault) m (TProgram.mk Sets Rules)))
def syntax_parser_set (p : Tsyntax_parser) : Option ((List TRange × Bool × Tsyntax_parser)) :=
  (syntax_tokens_now p).bind fun r =>
  if (p.tokens.fault != (0 : Int)) then
    some (([] : List TRange), false, p)
  else
    if (r.Kind == (3 : Int)) then
      some (r.Set, true, p)
    else
      if ((r.Kind == (2 : Int)) && (r.Text == ([46] : Str))) then
        some ([(TRange.mk (0 : Int) (1114111 : Int))], true, p)
      else
        (if (r.Kind != (1 : Int)) then
            some true
          else
            (syntax_kept r.Text).bind fun r1 =>
            some r1).bind fun v1 =>
        if v1 then
          some (([] : List TRange), false, p)
        else
          if (!(aget r.Text p.names).isSome) then
            (syntax_tokens_fail p (4 : Int)).bind fun r2 =>
            syntax_parser_set.k1 p r r2.tokens.list r2.tokens.place r2.tokens.fault r2.program.Sets r2.program.Rules r2.names
          else
            syntax_parser_set.k1 p r p.tokens.list p.tokens.place p.tokens.fault p.program.Sets p.program.Rules p.names
def syntax_sign (s : Str) : Option Int :=
  if (s == ([42] : Str)) then
    some (3 : Int)
  else
    if (s == ([43] : Str)) then
      some (4 : Int)
    else
      if (s == ([63] : Str)) then
        some (5 : Int)
      else
        some (0 : Int)
def syntax_ends.r : Nat → TNode → Option Int
  | 0, _ => none
  | fu + 1, n =>
    (syntax_signed n).bind fun r =>
    if (!r) then
      some (0 : Int)
    else
      (n.Kids[0]?).bind fun x =>
      ((syntax_ends.r fu) x).bind fun r1 =>
      some (IntKind.i64.wrap ((1 : Int) + r1))
def syntax_ends (n : TNode) : Option Int := lim fun fuZ => syntax_ends.r fuZ n
def syntax_parser_number (p : Tsyntax_parser) (s : List TRange) : Option ((Int × Tsyntax_parser)) :=
  (findR p.program.Sets s).bind fun r =>
  if (decide (r ≥ (0 : Int))) then
    some (r, p)
  else
    if (decide ((p.program.Sets.length : Int) ≥ (60 : Int))) then
      (syntax_tokens_fail p (3 : Int)).bind fun r1 =>
      some ((0 : Int), r1)
    else
      (room 24 (p.program.Sets.length + 1)).bind fun _ =>
      some ((IntKind.i64.wrap (((p.program.Sets ++ ([s])).length : Int) - (1 : Int))), (Tsyntax_parser.mk p.tokens p.names (TProgram.mk (p.program.Sets ++ ([s])) p.program.Rules)))
def syntax_some (kind : Int) (l : List TNode) : Option TNode :=
  if ((l.length : Int) == (1 : Int)) then
    (l[0]?).bind fun x =>
    some x
  else
    some (TNode.mk kind (0 : Int) l)
def syntax_closed_api_Node_1 (self : Tsyntax_parser → Int → Option ((TNode × Tsyntax_parser))) (depth : Int) (p : Tsyntax_parser) : Option ((TNode × Tsyntax_parser)) :=
  (self p depth).bind fun r =>
  (syntax_tokens_take r.2 ([41] : Str)).bind fun r1 =>
  some (r.1, r1)
def syntax_deeper_api_Node (self : Tsyntax_parser → Int → Option ((TNode × Tsyntax_parser))) (p : Tsyntax_parser) (depth : Int) : Option ((TNode × Tsyntax_parser)) :=
  if (decide (depth ≥ (20 : Int))) then
    (syntax_tokens_fail p (3 : Int)).bind fun r =>
    some ((TNode.mk (0 : Int) (0 : Int) []), r)
  else
    (syntax_closed_api_Node_1 self (IntKind.i64.wrap (depth + (1 : Int))) (Tsyntax_parser.mk (Tsyntax_tokens.mk p.tokens.list (IntKind.i64.wrap (p.tokens.place + (1 : Int))) p.tokens.fault) p.names p.program)).bind fun r1 =>
    some (r1.1, r1.2)
def syntax_parser_part.k2 (Kind1 : Int) (Set1 : Int) (Kids1 : List TNode) (list1 : List TToken) (place1 : Int) (fault1 : Int) (Sets1 : List (List TRange)) (Rules1 : List TRule) (m1 : List (Str × List TRange)) : Option ((TNode × Tsyntax_parser)) :=
  some ((TNode.mk Kind1 Set1 Kids1), (Tsyntax_parser.mk (Tsyntax_tokens.mk list1 place1 fault1) m1 (TProgram.mk Sets1 Rules1)))
def syntax_parser_part.b1 (list : List TToken) (fault : Int) (Sets : List (List TRange)) (Rules : List TRule) (m : List (Str × List TRange)) : (Int × Int × Int × List TNode × Int) → Option (Step ((Int × Int × Int × List TNode × Int)) ((TNode × Tsyntax_parser)))
  | (k, Kind2, Set2, Kids2, place2) =>
    if (fault == (0 : Int)) then
      (syntax_tokens_now (Tsyntax_parser.mk (Tsyntax_tokens.mk list place2 fault) m (TProgram.mk Sets Rules))).bind fun r2 =>
      (syntax_sign r2.Text).bind fun r3 =>
      if ((r2.Kind != (2 : Int)) || (r3 == (0 : Int))) then
        (syntax_parser_part.k2 Kind2 Set2 Kids2 list place2 fault Sets Rules m).map Step.done
      else
        if (decide (k ≥ (3 : Int))) then
          (syntax_tokens_fail (Tsyntax_parser.mk (Tsyntax_tokens.mk list place2 fault) m (TProgram.mk Sets Rules)) (3 : Int)).bind fun r4 =>
          (syntax_parser_part.k2 Kind2 Set2 Kids2 r4.tokens.list r4.tokens.place r4.tokens.fault r4.program.Sets r4.program.Rules r4.names).map Step.done
        else
          some (Step.next ((IntKind.i64.wrap (k + (1 : Int))), r3, (0 : Int), [(TNode.mk Kind2 Set2 Kids2)], (IntKind.i64.wrap (place2 + (1 : Int)))))
    else
      (syntax_parser_part.k2 Kind2 Set2 Kids2 list place2 fault Sets Rules m).map Step.done
def syntax_parser_part.k1 (Kind : Int) (Set : Int) (Kids : List TNode) (list : List TToken) (place : Int) (fault : Int) (Sets : List (List TRange)) (Rules : List TRule) (m : List (Str × List TRange)) : Option ((TNode × Tsyntax_parser)) :=
  (syntax_ends (TNode.mk Kind Set Kids)).bind fun r1 =>
  Loop (syntax_parser_part.b1 list fault Sets Rules m) (r1, Kind, Set, Kids, place)
def syntax_parser_part (self : Tsyntax_parser → Int → Option ((TNode × Tsyntax_parser))) (p : Tsyntax_parser) (depth : Int) : Option ((TNode × Tsyntax_parser)) :=
  (syntax_tokens_is p ([40] : Str)).bind fun r =>
  if r then
    (syntax_deeper_api_Node self p depth).bind fun r5 =>
    syntax_parser_part.k1 r5.1.Kind r5.1.Set r5.1.Kids r5.2.tokens.list r5.2.tokens.place r5.2.tokens.fault r5.2.program.Sets r5.2.program.Rules r5.2.names
  else
    (syntax_parser_set p).bind fun r6 =>
    if (!r6.2.1) then
      (syntax_tokens_fail r6.2.2 (6 : Int)).bind fun r7 =>
      some ((TNode.mk (0 : Int) (0 : Int) []), r7)
    else
      (syntax_parser_number r6.2.2 r6.1).bind fun r8 =>
      if (r8.2.tokens.fault == (0 : Int)) then
        syntax_parser_part.k1 (1 : Int) r8.1 [] r8.2.tokens.list (IntKind.i64.wrap (r8.2.tokens.place + (1 : Int))) r8.2.tokens.fault r8.2.program.Sets r8.2.program.Rules r8.2.names
      else
        syntax_parser_part.k1 (1 : Int) r8.1 [] r8.2.tokens.list r8.2.tokens.place r8.2.tokens.fault r8.2.program.Sets r8.2.program.Rules r8.2.names
def syntax_parser_cat.k1 (l : List TNode) (list : List TToken) (place : Int) (fault : Int) (Sets : List (List TRange)) (Rules : List TRule) (m : List (Str × List TRange)) : Option ((TNode × Tsyntax_parser)) :=
  (syntax_some (0 : Int) l).bind fun r =>
  some (r, (Tsyntax_parser.mk (Tsyntax_tokens.mk list place fault) m (TProgram.mk Sets Rules)))
def syntax_parser_cat.b1 (self : Tsyntax_parser → Int → Option ((TNode × Tsyntax_parser))) (depth : Int) : (List TNode × List TToken × Int × Int × List (List TRange) × List TRule × List (Str × List TRange)) → Option (Step ((List TNode × List TToken × Int × Int × List (List TRange) × List TRule × List (Str × List TRange))) ((TNode × Tsyntax_parser)))
  | (l1, list1, place1, fault1, Sets1, Rules1, m1) =>
    (if (fault1 == (0 : Int)) then
        (syntax_tokens_now (Tsyntax_parser.mk (Tsyntax_tokens.mk list1 place1 fault1) m1 (TProgram.mk Sets1 Rules1))).bind fun r1 =>
        if (r1.Kind == (3 : Int)) then
          some true
        else
          (syntax_tokens_now (Tsyntax_parser.mk (Tsyntax_tokens.mk list1 place1 fault1) m1 (TProgram.mk Sets1 Rules1))).bind fun r2 =>
          if (r2.Kind == (1 : Int)) then
            some true
          else
            (syntax_tokens_is (Tsyntax_parser.mk (Tsyntax_tokens.mk list1 place1 fault1) m1 (TProgram.mk Sets1 Rules1)) ([46] : Str)).bind fun r3 =>
            if r3 then
              some true
            else
              (syntax_tokens_is (Tsyntax_parser.mk (Tsyntax_tokens.mk list1 place1 fault1) m1 (TProgram.mk Sets1 Rules1)) ([40] : Str)).bind fun r4 =>
              some r4
      else
        some false).bind fun v =>
    if v then
      (syntax_parser_part self (Tsyntax_parser.mk (Tsyntax_tokens.mk list1 place1 fault1) m1 (TProgram.mk Sets1 Rules1)) depth).bind fun r5 =>
      (room 40 (l1.length + 1)).bind fun _ =>
      some (Step.next ((l1 ++ ([r5.1])), r5.2.tokens.list, r5.2.tokens.place, r5.2.tokens.fault, r5.2.program.Sets, r5.2.program.Rules, r5.2.names))
    else
      (syntax_parser_cat.k1 l1 list1 place1 fault1 Sets1 Rules1 m1).map Step.done
def syntax_parser_cat (self : Tsyntax_parser → Int → Option ((TNode × Tsyntax_parser))) (p : Tsyntax_parser) (depth : Int) : Option ((TNode × Tsyntax_parser)) :=
  Loop (syntax_parser_cat.b1 self depth) ([], p.tokens.list, p.tokens.place, p.tokens.fault, p.program.Sets, p.program.Rules, p.names)
def syntax_parser_regex.k1 (l : List TNode) (list : List TToken) (place : Int) (fault : Int) (Sets : List (List TRange)) (Rules : List TRule) (m : List (Str × List TRange)) : Option ((TNode × Tsyntax_parser)) :=
  (syntax_some (2 : Int) l).bind fun r1 =>
  some (r1, (Tsyntax_parser.mk (Tsyntax_tokens.mk list place fault) m (TProgram.mk Sets Rules)))
def syntax_parser_regex.b1 (self : Tsyntax_parser → Int → Option ((TNode × Tsyntax_parser))) (depth : Int) : (List TNode × List TToken × Int × Int × List (List TRange) × List TRule × List (Str × List TRange)) → Option (Step ((List TNode × List TToken × Int × Int × List (List TRange) × List TRule × List (Str × List TRange))) ((TNode × Tsyntax_parser)))
  | (l1, list1, place1, fault1, Sets1, Rules1, m1) =>
    (syntax_tokens_is (Tsyntax_parser.mk (Tsyntax_tokens.mk list1 place1 fault1) m1 (TProgram.mk Sets1 Rules1)) ([124] : Str)).bind fun r2 =>
    if r2 then
      (syntax_parser_cat self (Tsyntax_parser.mk (Tsyntax_tokens.mk list1 (IntKind.i64.wrap (place1 + (1 : Int))) fault1) m1 (TProgram.mk Sets1 Rules1)) depth).bind fun r3 =>
      (room 40 (l1.length + 1)).bind fun _ =>
      some (Step.next ((l1 ++ ([r3.1])), r3.2.tokens.list, r3.2.tokens.place, r3.2.tokens.fault, r3.2.program.Sets, r3.2.program.Rules, r3.2.names))
    else
      (syntax_parser_regex.k1 l1 list1 place1 fault1 Sets1 Rules1 m1).map Step.done
def syntax_parser_regex.r : Nat → Tsyntax_parser → Int → Option ((TNode × Tsyntax_parser))
  | 0, _, _ => none
  | fu + 1, p, depth =>
    (syntax_parser_cat (syntax_parser_regex.r fu) p depth).bind fun r =>
    Loop (syntax_parser_regex.b1 (syntax_parser_regex.r fu) depth) ([r.1], r.2.tokens.list, r.2.tokens.place, r.2.tokens.fault, r.2.program.Sets, r.2.program.Rules, r.2.names)
def syntax_parser_regex (p : Tsyntax_parser) (depth : Int) : Option ((TNode × Tsyntax_parser)) := lim fun fuZ => syntax_parser_regex.r fuZ p depth
def syntax_parser_rule (p : Tsyntax_parser) : Option Tsyntax_parser :=
  if (decide ((p.program.Rules.length : Int) ≥ (64 : Int))) then
    (syntax_tokens_fail p (3 : Int)).bind fun r =>
    some r
  else
    (syntax_tokens_now p).bind fun r1 =>
    (syntax_parser_regex (Tsyntax_parser.mk (Tsyntax_tokens.mk p.tokens.list (IntKind.i64.wrap (p.tokens.place + (1 : Int))) p.tokens.fault) p.names p.program) (0 : Int)).bind fun r2 =>
    (syntax_tokens_take r2.2 ([47] : Str)).bind fun r3 =>
    (syntax_parser_regex r3 (0 : Int)).bind fun r4 =>
    (syntax_tokens_take r4.2 ([59] : Str)).bind fun r5 =>
    (room 88 (r5.program.Rules.length + 1)).bind fun _ =>
    some (Tsyntax_parser.mk r5.tokens r5.names (TProgram.mk r5.program.Sets (r5.program.Rules ++ ([(TRule.mk (r1.Text == ([98, 114, 101, 97, 107] : Str)) r2.1 r4.1)]))))
def syntax_Parse.k1 (m : List (Str × List TRange)) (list : List TToken) (place : Int) (fault : Int) (Sets : List (List TRange)) (Rules : List TRule) : Option ((TProgram × Int × Int)) :=
  if (fault != (0 : Int)) then
    (syntax_tokens_now (Tsyntax_parser.mk (Tsyntax_tokens.mk list place fault) m (TProgram.mk Sets Rules))).bind fun r1 =>
    some ((TProgram.mk ([] : List (List TRange)) ([] : List TRule)), r1.At, fault)
  else
    some ((TProgram.mk Sets Rules), (0 : Int), (0 : Int))
def syntax_Parse.k2 (m2 : List (Str × List TRange)) (list2 : List TToken) (place2 : Int) (fault2 : Int) (Sets2 : List (List TRange)) (Rules2 : List TRule) : Option (Step ((List (Str × List TRange) × List TToken × Int × Int × List (List TRange) × List TRule)) ((TProgram × Int × Int))) :=
  some (Step.next (m2, list2, place2, fault2, Sets2, Rules2))
def syntax_Parse.b1 : (List (Str × List TRange) × List TToken × Int × Int × List (List TRange) × List TRule) → Option (Step ((List (Str × List TRange) × List TToken × Int × Int × List (List TRange) × List TRule)) ((TProgram × Int × Int)))
  | (m1, list1, place1, fault1, Sets1, Rules1) =>
    (if (fault1 == (0 : Int)) then
        (syntax_tokens_now (Tsyntax_parser.mk (Tsyntax_tokens.mk list1 place1 fault1) m1 (TProgram.mk Sets1 Rules1))).bind fun r2 =>
        some (r2.Kind != (4 : Int))
      else
        some false).bind fun v =>
    if v then
      (syntax_tokens_now (Tsyntax_parser.mk (Tsyntax_tokens.mk list1 place1 fault1) m1 (TProgram.mk Sets1 Rules1))).bind fun r3 =>
      (if (r3.Kind != (1 : Int)) then
          some true
        else
          (syntax_kept r3.Text).bind fun r4 =>
          some (!r4)).bind fun v1 =>
      if v1 then
        (syntax_tokens_fail (Tsyntax_parser.mk (Tsyntax_tokens.mk list1 place1 fault1) m1 (TProgram.mk Sets1 Rules1)) (6 : Int)).bind fun r5 =>
        syntax_Parse.k2 r5.names r5.tokens.list r5.tokens.place r5.tokens.fault r5.program.Sets r5.program.Rules
      else
        if (r3.Text == ([115, 101, 116] : Str)) then
          none
        else
          (syntax_parser_rule (Tsyntax_parser.mk (Tsyntax_tokens.mk list1 place1 fault1) m1 (TProgram.mk Sets1 Rules1))).bind fun r6 =>
          syntax_Parse.k2 r6.names r6.tokens.list r6.tokens.place r6.tokens.fault r6.program.Sets r6.program.Rules
    else
      (syntax_Parse.k1 m1 list1 place1 fault1 Sets1 Rules1).map Step.done
def syntax_Parse (b : List UInt8) : Option ((TProgram × Int × Int)) :=
  (lex_Tokens b).bind fun r =>
  if (r.2.2 != (0 : Int)) then
    some ((TProgram.mk ([] : List (List TRange)) ([] : List TRule)), r.2.1, r.2.2)
  else
    Loop syntax_Parse.b1 ([], r.1, (0 : Int), (0 : Int), [], [])
def scansionref08_SameNode.k1 : Option Bool :=
  some true
def scansionref08_SameNode.b1 (self : TNode → TNode → Option Bool) (a_ : TNode) (b : TNode) : Int → Option (Step Int Bool)
  | i =>
    if (decide (i < (a_.Kids.length : Int))) then
      (idx a_.Kids i).bind fun x =>
      (idx b.Kids i).bind fun x1 =>
      (self x x1).bind fun r =>
      if (!r) then
        some (Step.done false)
      else
        some (Step.next (IntKind.i64.wrap (i + (1 : Int))))
    else
      (scansionref08_SameNode.k1).map Step.done
def scansionref08_SameNode.r : Nat → TNode → TNode → Option Bool
  | 0, _, _ => none
  | fu + 1, a_, b =>
    if ((a_.Kind != b.Kind) || ((a_.Set != b.Set) || ((a_.Kids.length : Int) != (b.Kids.length : Int)))) then
      some false
    else
      Loop (scansionref08_SameNode.b1 (scansionref08_SameNode.r fu) a_ b) (0 : Int)
def scansionref08_SameNode (a_ : TNode) (b : TNode) : Option Bool := lim fun fuZ => scansionref08_SameNode.r fuZ a_ b
def scansionref08_Same.k2 : Option Bool :=
  some true
def scansionref08_Same.b1 (a_ : TProgram) (b : TProgram) : Int → Option (Step Int Bool)
  | i =>
    if (decide (i < (a_.Rules.length : Int))) then
      (idx a_.Rules i).bind fun x =>
      (idx b.Rules i).bind fun x1 =>
      (scansionref08_SameNode x.Left x1.Left).bind fun r =>
      (scansionref08_SameNode x.Right x1.Right).bind fun r1 =>
      if ((!(x.Break == x1.Break)) || ((!r) || (!r1))) then
        some (Step.done false)
      else
        some (Step.next (IntKind.i64.wrap (i + (1 : Int))))
    else
      (scansionref08_Same.k2).map Step.done
def scansionref08_Same.k1 (a_ : TProgram) (b : TProgram) : Option Bool :=
  Loop (scansionref08_Same.b1 a_ b) (0 : Int)
def scansionref08_Same.b2 (a_ : TProgram) (b : TProgram) : Int → Option (Step Int Bool)
  | i1 =>
    if (decide (i1 < (a_.Sets.length : Int))) then
      (idx a_.Sets i1).bind fun xs =>
      (idx b.Sets i1).bind fun xs1 =>
      (scansionref02_Same xs xs1).bind fun r2 =>
      if (!r2) then
        some (Step.done false)
      else
        some (Step.next (IntKind.i64.wrap (i1 + (1 : Int))))
    else
      (scansionref08_Same.k1 a_ b).map Step.done
def scansionref08_Same (a_ : TProgram) (b : TProgram) : Option Bool :=
  if (((a_.Sets.length : Int) != (b.Sets.length : Int)) || ((a_.Rules.length : Int) != (b.Rules.length : Int))) then
    some false
  else
    Loop (scansionref08_Same.b2 a_ b) (0 : Int)
def scansionlaw08_SyntaxBack (p : TProgram) : Option Bool :=
  scansionlaw08_awake.bind fun r =>
  (scansionlaw08_few p).bind fun r1 =>
  if ((!r) || (!r1)) then
    some r
  else
    (syntax_Print p).bind fun r2 =>
    if (r2.2 != (0 : Int)) then
      some ((r2.2 == (1 : Int)) && ((r2.1.length : Int) == (0 : Int)))
    else
      if (decide ((r2.1.length : Int) > (60000 : Int))) then
        some true
      else
        (syntax_Parse r2.1).bind fun r3 =>
        (scansionref08_Same p r3.1).bind fun r4 =>
        some ((r3.2.2 == (0 : Int)) && ((r3.2.1 == (0 : Int)) && r4))
end
end Go.Val

/- part P1 -/
/- Plain lemmas: loops that are read off. -/
namespace Go.Val

theorem w64 {n : Int} (h1 : -9223372036854775808 ≤ n) (h2 : n ≤ 9223372036854775807) : IntKind.i64.wrap n = n := by rw [IntKind.wrap_i64]; omega
theorem w64s {i : Nat} (h : i < 9223372036854775807) : IntKind.i64.wrap ((i : Int) + 1) = ((i + 1 : Nat) : Int) := by rw [w64 (by omega) (by omega)]; omega
theorem idx_nat {α : Type} {xs : List α} {i : Nat} : idx xs (i : Int) = xs[i]? := by
  unfold idx; rw [if_neg (by omega)]; simp
theorem room_ok {sz n : Nat} (h : n * sz ≤ 140737488355328) : room sz n = some () := by
  unfold room roomOf; rw [if_pos h]
/-- A loop's end. -/
theorem Loop_end {σ ρ : Type} {b : σ → Option (Step σ ρ)} {s : σ} {R : Option ρ} (h : b s = R.map Step.done) : Loop b s = R := by
  cases R with
  | some r => exact Loop_done h
  | none =>
    apply Option.ext_some
    · intro r hr
      obtain ⟨n, hn⟩ := Loop_get hr
      cases n with
      | zero => simp [rounds] at hn
      | succ n => simp [rounds, h] at hn
    · intro r hr; cases hr
open Classical in
/-- A loop that looks for what is bad. -/
theorem Loop_all {ρ : Type} {b : Int → Option (Step Int ρ)} (P : Nat → Prop) {n : Nat} {r R : ρ} (hg : ∀ j, j < n → P j → b (j : Int) = some (.next ((j + 1 : Nat) : Int))) (hb : ∀ j, j < n → ¬ P j → b (j : Int) = some (.done r)) (he : b (n : Int) = some (.done R)) :
    ∀ (d i : Nat), i + d = n → Loop b (i : Int) = if ∀ j, i ≤ j → j < n → P j then some R else some r := by
  intro d
  induction d with
  | zero =>
    intro i hi
    obtain rfl : i = n := by omega
    rw [if_pos (fun j h1 h2 => by omega)]
    exact Loop_done he
  | succ d ih =>
    intro i hi
    by_cases hp : P i
    · rw [Loop_next (hg i (by omega) hp), ih (i + 1) (by omega)]
      have : (∀ j, i + 1 ≤ j → j < n → P j) ↔ ∀ j, i ≤ j → j < n → P j := by
        constructor
        · intro h j h1 h2
          by_cases e : j = i
          · rw [e]; exact hp
          · exact h j (by omega) h2
        · intro h j h1 h2; exact h j (by omega) h2
      simp only [this]
    · rw [Loop_done (hb i (by omega) hp), if_neg (fun h => hp (h i (Nat.le_refl _) (by omega)))]
theorem Loop_all0 {ρ : Type} {b : Int → Option (Step Int ρ)} (P : Nat → Prop) (n : Nat) {r R : ρ} (hg : ∀ j, j < n → P j → b (j : Int) = some (.next ((j + 1 : Nat) : Int))) (hb : ∀ j, j < n → ¬ P j → b (j : Int) = some (.done r)) (he : b (n : Int) = some (.done R)) :
    ((∀ j, j < n → P j) → Loop b 0 = some R) ∧ ((¬ ∀ j, j < n → P j) → Loop b 0 = some r) := by
  have := Loop_all P hg hb he n 0 (by omega)
  exact ⟨fun h => by rw [if_pos (fun j _ hj => h j hj)] at this; exact this, fun h => by rw [if_neg (fun h' => h fun j hj => h' j (Nat.zero_le _) hj)] at this; exact this⟩
end Go.Val

/- part Q1l -/
/- Plain lemmas: ranges, and the one list of ranges that a set has. -/
namespace Go.Val
/-- A loop with an end: what is known at its head, what grows less, what is known of its end. -/
theorem Loop_spec {σ ρ : Type} {body : σ → Option (Step σ ρ)} {Q : ρ → Prop} (I : σ → Prop) (μ : σ → Nat)
    (h : ∀ s, I s → (∃ s', body s = some (.next s') ∧ I s' ∧ μ s' < μ s) ∨ (∃ r, body s = some (.done r) ∧ Q r)) : ∀ s, I s → ∃ r, Loop body s = some r ∧ Q r := by
  have key : ∀ (n : Nat) (s : σ), μ s = n → I s → ∃ r, Loop body s = some r ∧ Q r := by
    intro n
    induction n using Nat.strongRecOn with
    | _ n ih =>
      intro s hn hs
      rcases h s hs with ⟨s', h1, h2, h3⟩ | ⟨r, h1, h2⟩
      · rw [Loop_next h1]
        exact ih _ (by omega) s' rfl h2
      · exact ⟨r, Loop_done h1, h2⟩
  intro s hs
  exact key _ s rfl hs

/-- A number is in one of the ranges. -/
def In (a : List TRange) (r : Int) : Prop := ∃ x ∈ a, x.Low ≤ r ∧ r ≤ x.High
def Ok (x : TRange) : Prop := 0 ≤ x.Low ∧ x.Low ≤ x.High ∧ x.High ≤ 1114111
/-- Ranges that rise and don't touch. -/
def Norm (a : List TRange) : Prop := (∀ x ∈ a, Ok x) ∧ a.Pairwise (fun x y => x.High + 1 < y.Low)
theorem In_nil {r : Int} : ¬ In [] r := by rintro ⟨x, h, _⟩; cases h
theorem In_cons {x : TRange} {l : List TRange} {r : Int} : In (x :: l) r ↔ (x.Low ≤ r ∧ r ≤ x.High) ∨ In l r := by
  simp only [In, List.mem_cons]
  constructor
  · rintro ⟨y, rfl | h, hy⟩
    · exact .inl hy
    · exact .inr ⟨y, h, hy⟩
  · rintro (h | ⟨y, h, hy⟩)
    · exact ⟨x, .inl rfl, h⟩
    · exact ⟨y, .inr h, hy⟩
theorem In_append {l m : List TRange} {r : Int} : In (l ++ m) r ↔ In l r ∨ In m r := by
  simp only [In, List.mem_append]
  constructor
  · rintro ⟨y, h | h, hy⟩
    · exact .inl ⟨y, h, hy⟩
    · exact .inr ⟨y, h, hy⟩
  · rintro (⟨y, h, hy⟩ | ⟨y, h, hy⟩)
    · exact ⟨y, .inl h, hy⟩
    · exact ⟨y, .inr h, hy⟩
theorem In_one {x : TRange} {r : Int} : In [x] r ↔ x.Low ≤ r ∧ r ≤ x.High := by
  rw [In_cons]
  exact ⟨fun h => h.elim id fun h => absurd h In_nil, .inl⟩
theorem In_perm {l m : List TRange} (h : l.Perm m) {r : Int} : In l r ↔ In m r := by
  simp only [In, h.mem_iff]
theorem Norm_nil : Norm [] := ⟨fun x h => (by cases h), .nil⟩
theorem Norm_cons {x : TRange} {l : List TRange} : Norm (x :: l) ↔ Ok x ∧ (∀ y ∈ l, x.High + 1 < y.Low) ∧ Norm l := by
  simp only [Norm, List.mem_cons, forall_eq_or_imp, List.pairwise_cons]
  constructor
  · rintro ⟨⟨h1, h2⟩, h3, h4⟩; exact ⟨h1, h3, h2, h4⟩
  · rintro ⟨h1, h3, h2, h4⟩; exact ⟨⟨h1, h2⟩, h3, h4⟩
theorem Norm_snoc {x : TRange} {l : List TRange} : Norm (l ++ [x]) ↔ Norm l ∧ Ok x ∧ ∀ y ∈ l, y.High + 1 < x.Low := by
  simp only [Norm, List.mem_append, List.mem_singleton, List.pairwise_append]
  constructor
  · rintro ⟨h1, h2, h3, h4⟩
    exact ⟨⟨fun y hy => h1 y (.inl hy), h2⟩, h1 x (.inr rfl), fun y hy => h4 y hy x rfl⟩
  · rintro ⟨⟨h1, h2⟩, h3, h4⟩
    refine ⟨fun y hy => ?_, h2, List.pairwise_singleton _ _, fun y hy z hz => ?_⟩
    · rcases hy with hy | rfl
      · exact h1 y hy
      · exact h3
    · subst hz; exact h4 y hy
theorem Norm.bound {a : List TRange} (h : Norm a) {r : Int} (hr : In a r) : 0 ≤ r ∧ r ≤ 1114111 := by
  obtain ⟨x, hx, h1, h2⟩ := hr
  have := h.1 x hx
  unfold Ok at this
  omega
theorem In_low {a : List TRange} (h : Norm a) {x : TRange} (hx : x ∈ a) : In a x.Low := ⟨x, hx, Int.le_refl _, (h.1 x hx).2.1⟩
/-- A set has one list of ranges. -/
theorem Norm.unique : ∀ {a b : List TRange}, Norm a → Norm b → (∀ r, In a r ↔ In b r) → a = b
  | [], [], _, _, _ => rfl
  | [], y :: m, _, hb, h => absurd ((h y.Low).2 (In_low hb (by simp))) In_nil
  | x :: l, [], ha, _, h => absurd ((h x.Low).1 (In_low ha (by simp))) In_nil
  | x :: l, y :: m, ha, hb, h => by
    have ha' := Norm_cons.1 ha
    have hb' := Norm_cons.1 hb
    have hxo := ha'.1
    have hyo := hb'.1
    unfold Ok at hxo hyo
    have low : ∀ {x : TRange} {l : List TRange}, Norm (x :: l) → ∀ {r : Int}, In (x :: l) r → x.Low ≤ r := fun {x l} hn {r} hr => by
      have hn' := Norm_cons.1 hn
      have ho := hn'.1
      unfold Ok at ho
      rcases In_cons.1 hr with h | ⟨z, hz, h1, h2⟩
      · exact h.1
      · have := hn'.2.1 z hz; omega
    have next : ∀ {x : TRange} {l : List TRange}, Norm (x :: l) → ¬ In (x :: l) (x.High + 1) := fun {x l} hn hr => by
      have hn' := Norm_cons.1 hn
      rcases In_cons.1 hr with h | ⟨z, hz, h1, h2⟩
      · omega
      · have := hn'.2.1 z hz; omega
    have e1 : x.Low = y.Low := by
      have h1 := low hb ((h x.Low).1 (In_low ha (by simp)))
      have h2 := low ha ((h y.Low).2 (In_low hb (by simp)))
      omega
    have e2 : x.High = y.High := by
      have h1 : ¬ x.High < y.High := fun hlt => next ha ((h _).2 (In_cons.2 (.inl ⟨by omega, by omega⟩)))
      have h2 : ¬ y.High < x.High := fun hlt => next hb ((h _).1 (In_cons.2 (.inl ⟨by omega, by omega⟩)))
      omega
    have e : x = y := by cases x; cases y; simp_all
    subst e
    rw [Norm.unique ha'.2.2 hb'.2.2 fun r => ?_]
    constructor
    · intro hr
      rcases In_cons.1 ((h r).1 (In_cons.2 (.inr hr))) with h1 | h1
      · obtain ⟨z, hz, k1, k2⟩ := hr
        have := ha'.2.1 z hz; omega
      · exact h1
    · intro hr
      rcases In_cons.1 ((h r).2 (In_cons.2 (.inr hr))) with h1 | h1
      · obtain ⟨z, hz, k1, k2⟩ := hr
        have := hb'.2.1 z hz; omega
      · exact h1
theorem mx_ge {a b : Int} : a ≤ mx a b ∧ b ≤ mx a b := by unfold mx; split <;> omega
theorem mx_le {a b c : Int} (h1 : a ≤ c) (h2 : b ≤ c) : mx a b ≤ c := by unfold mx; split <;> omega
theorem mx_or {a b : Int} : mx a b = a ∨ mx a b = b := by unfold mx; split <;> simp
theorem len_pred {n : Nat} (h : n < 9223372036854775807) : IntKind.i64.wrap (((n + 1 : Nat) : Int) - 1) = n := by rw [w64 (by omega) (by omega)]; omega
/-- A range is put behind ranges. -/
theorem put_spec {out : List TRange} {x : TRange} (hn : Norm out) (hx : Ok x) (hl : ∀ y ∈ out, y.Low ≤ x.Low) (hlen : (out.length + 1) * 16 ≤ 140737488355328) :
    ∃ out', ranges_put out x = some out' ∧ Norm out' ∧ (∀ r, In out' r ↔ In out r ∨ (x.Low ≤ r ∧ r ≤ x.High)) ∧ out'.length ≤ out.length + 1 ∧ ∀ y ∈ out', y.Low ≤ x.Low := by
  have hxo := hx
  unfold Ok at hxo
  rcases List.eq_nil_or_concat out with rfl | ⟨init, y, rfl⟩
  · refine ⟨[x], ?_, Norm_snoc (l := []).2 ⟨Norm_nil, hx, fun y h => by cases h⟩, fun r => ?_, by simp, fun y hy => ?_⟩
    · unfold ranges_put
      rw [if_neg (by simp), Option.bind_some, if_neg (by simp), room_ok (by simp), Option.bind_some]; rfl
    · rw [In_one]; exact ⟨.inr, fun h => h.elim (fun h => absurd h In_nil) id⟩
    · simp at hy; subst hy; omega
  · rw [List.concat_eq_append] at *
    have hlen' : (init ++ [y]).length = init.length + 1 := by simp
    obtain ⟨n1, n2, n3⟩ := Norm_snoc.1 hn
    have hyo := n2
    unfold Ok at hyo
    have hyl := hl y (by simp)
    have hi : (init ++ [y])[init.length]? = some y := by simp
    have hbig : init.length < 9223372036854775807 := by rw [hlen'] at hlen; omega
    have hw : IntKind.i64.wrap (((init ++ [y]).length : Int) - 1) = (init.length : Int) := by rw [hlen']; exact len_pred hbig
    have hcond : (if (decide (((init ++ [y]).length : Int) > (0 : Int))) then
      (idx (init ++ [y]) (IntKind.i64.wrap (((init ++ [y]).length : Int) - (1 : Int)))).bind fun x1 =>
      some (decide (x.Low ≤ (IntKind.i64.wrap (x1.High + (1 : Int)))))
    else
      some false) = some (decide (x.Low ≤ y.High + 1)) := by
      rw [if_pos (by simp), hw, idx_nat, hi, Option.bind_some, w64 (by omega) (by omega)]
    by_cases hc : x.Low ≤ y.High + 1
    · refine ⟨init ++ [⟨y.Low, mx y.High x.High⟩], ?_, Norm_snoc.2 ⟨n1, ⟨(show 0 ≤ y.Low by omega), ?_, mx_le (by omega) (by omega)⟩, n3⟩, fun r => ?_, by simp, fun z hz => ?_⟩
      · unfold ranges_put
        rw [hcond, Option.bind_some, if_pos (by simpa using hc), hw, idx_nat, hi, Option.bind_some]
        try simp
      · have := (mx_ge (a := y.High) (b := x.High)).1
        show y.Low ≤ mx y.High x.High
        omega
      · rw [In_append, In_append, In_one, In_one]
        have h1 := mx_ge (a := y.High) (b := x.High)
        have h2 := mx_or (a := y.High) (b := x.High)
        show In init r ∨ (y.Low ≤ r ∧ r ≤ mx y.High x.High) ↔ (In init r ∨ (y.Low ≤ r ∧ r ≤ y.High)) ∨ (x.Low ≤ r ∧ r ≤ x.High)
        constructor
        · rintro (h | ⟨h3, h4⟩)
          · exact .inl (.inl h)
          · by_cases h5 : r ≤ y.High
            · exact .inl (.inr ⟨h3, h5⟩)
            · exact .inr ⟨by omega, by omega⟩
        · rintro ((h | ⟨h3, h4⟩) | ⟨h3, h4⟩)
          · exact .inl h
          · exact .inr ⟨h3, by omega⟩
          · exact .inr ⟨by omega, by omega⟩
      · rcases List.mem_append.1 hz with hz | hz
        · exact hl z (by simp [hz])
        · simp at hz; subst hz; exact hyl
    · refine ⟨init ++ [y] ++ [x], ?_, Norm_snoc.2 ⟨hn, hx, fun z hz => ?_⟩, fun r => ?_, by simp, fun z hz => ?_⟩
      · unfold ranges_put
        rw [hcond, Option.bind_some, if_neg (by simpa using hc), room_ok hlen, Option.bind_some]
      · rcases List.mem_append.1 hz with hz | hz
        · have := n3 z hz; omega
        · simp at hz; subst hz; omega
      · rw [In_append, In_one]
      · rcases List.mem_append.1 hz with hz | hz
        · exact hl z hz
        · simp at hz; subst hz; omega
end Go.Val

/- part Q2l -/
/- Plain lemmas: Make of ranges. -/
namespace Go.Val
theorem Contains_eq {l : List TRange} {f : TRange → Option Bool} {g : TRange → Bool} (hf : ∀ x ∈ l, f x = some (g x)) (hl : l.length < 9223372036854775807) : slices_ContainsFunc_api_Range_api_Range l f = some (l.any g) := by
  obtain ⟨r, h1, h2⟩ := Loop_spec (body := slices_IndexFunc_api_Range_api_Range.b1 l f) (Q := fun r => decide (r ≥ (0 : Int)) = l.any g) (fun v => ∃ k : Nat, v = k ∧ k ≤ l.length ∧ ∀ j, j < k → ∀ x, l[j]? = some x → g x = false) (fun v => l.length - v.toNat) (fun s ⟨k, hk, hkl, hall⟩ => by
    subst hk
    by_cases h : k < l.length
    · have hx : l[k]? = some l[k] := List.getElem?_eq_getElem h
      cases hg : g l[k] with
      | true =>
        right
        refine ⟨(k : Int), ?_, ?_⟩
        · rw [slices_IndexFunc_api_Range_api_Range.b1, if_pos (by simpa using h), idx_nat, hx, Option.bind_some, hf _ (List.getElem_mem h), Option.bind_some, hg, if_pos rfl]
        · rw [decide_eq_true (by omega)]; symm; rw [List.any_eq_true]; exact ⟨_, List.getElem_mem h, hg⟩
      | false =>
        left
        refine ⟨((k + 1 : Nat) : Int), ?_, ⟨k + 1, rfl, h, fun j hj x hx' => ?_⟩, by omega⟩
        · rw [slices_IndexFunc_api_Range_api_Range.b1, if_pos (by simpa using h), idx_nat, hx, Option.bind_some, hf _ (List.getElem_mem h), Option.bind_some, hg, if_neg (by simp), w64s (by omega)]
        · by_cases e : j = k
          · subst e; rw [hx] at hx'; cases hx'; exact hg
          · exact hall j (by omega) x hx'
    · right
      obtain rfl : k = l.length := by omega
      refine ⟨-1, ?_, ?_⟩
      · rw [slices_IndexFunc_api_Range_api_Range.b1, if_neg (by simp)]; rfl
      · rw [decide_eq_false (by omega)]; symm; rw [List.any_eq_false]
        intro x hx
        obtain ⟨j, hj, rfl⟩ := List.getElem_of_mem hx
        simp [hall j hj _ (List.getElem?_eq_getElem hj)]) (0 : Int) ⟨0, rfl, Nat.zero_le _, fun j hj => absurd hj (by omega)⟩
  unfold slices_ContainsFunc_api_Range_api_Range slices_IndexFunc_api_Range_api_Range
  rw [h1, Option.bind_some, h2]
theorem swoL : Go.Sort.SWO ltR where
  irrefl x := by simp [ltR]
  trans x y z h1 h2 := by simp [ltR] at *; omega
  ntrans x y z h1 h2 := by simp [ltR] at *; omega
theorem sortR_spec {l : List TRange} (h : l.length ≤ 140737488355328) : ∃ l', sortR l = some l' ∧ l'.Perm l ∧ l'.Pairwise (fun x y => x.Low ≤ y.Low) := by
  unfold sortR
  rw [if_pos (show l.length ≤ roomOf from h)]
  obtain ⟨⟨h1, _, h2⟩, h3⟩ := Go.Sort.pdq_sorts ltR swoL l.toArray 0 l.length (Go.Lib.bitLen l.length) true true (Nat.zero_le _) (by simp) (Or.inl rfl)
  generalize Go.Sort.pdq ltR l.toArray 0 l.length (Go.Lib.bitLen l.length) true true = d at h1 h2 h3 ⊢
  have hs : d.size = l.length := by simpa using h1
  refine ⟨_, rfl, ?_, ?_⟩
  · have e1 : d.extract 0 l.length = d := by rw [← hs]; simp
    have e2 : l.toArray.extract 0 l.length = l.toArray := by simp
    rw [e1, e2] at h2
    simpa using h2
  · rw [List.pairwise_iff_getElem]
    intro i j hi hj hij
    have := h3 i j (Nat.zero_le _) hij (by simpa [hs] using hj)
    rw [getElem!_pos d j (by simpa using hj), getElem!_pos d i (by simpa using hi)] at this
    simp only [ltR, decide_eq_false_iff_not] at this
    simp only [Array.getElem_toList]
    omega
theorem Clone_eq {l : List TRange} (h : l.length * 16 ≤ 140737488355328) : slices_Clone_api_Range_api_Range l = some l := by
  unfold slices_Clone_api_Range_api_Range
  rw [room_ok (by omega)]; rfl
instance (x : TRange) : Decidable (Ok x) := inferInstanceAs (Decidable (_ ∧ _ ∧ _))
theorem Make_1_eq (x : TRange) : ranges_Make_1 x = some (!decide (Ok x)) := by
  unfold ranges_Make_1 Ok
  congr 1
  by_cases h1 : x.Low < 0
  · have : ¬ (0 ≤ x.Low ∧ x.Low ≤ x.High ∧ x.High ≤ 1114111) := by omega
    simp [h1, this]
  · by_cases h2 : x.High > 1114111
    · have : ¬ (0 ≤ x.Low ∧ x.Low ≤ x.High ∧ x.High ≤ 1114111) := by omega
      simp [h2, this]
    · by_cases h3 : x.Low > x.High
      · have : ¬ (0 ≤ x.Low ∧ x.Low ≤ x.High ∧ x.High ≤ 1114111) := by omega
        simp [h3, this]
      · have : 0 ≤ x.Low ∧ x.Low ≤ x.High ∧ x.High ≤ 1114111 := by omega
        simp [h1, h2, h3, this]
theorem any_bad {l : List TRange} : (l.any fun x => !decide (Ok x)) = !decide (∀ x ∈ l, Ok x) := by
  rw [Bool.eq_iff_iff]
  simp
theorem take_snoc2 {l : List TRange} {s : Nat} {x : TRange} (h : l[s]? = some x) : l.take (s + 1) = l.take s ++ [x] := by
  rw [List.take_add_one, h]; rfl
theorem Make_loop {l1 : List TRange} (hok : ∀ x ∈ l1, Ok x) (hs : l1.Pairwise (fun x y => x.Low ≤ y.Low)) (hl : l1.length * 16 ≤ 140737488355328) :
    ∃ r, Loop (ranges_Make.b1 l1) ([], (0 : Int)) = some r ∧ r.2 = 0 ∧ Norm r.1 ∧ (∀ t, In r.1 t ↔ In l1 t) ∧ r.1.length ≤ l1.length := by
  refine Loop_spec (body := ranges_Make.b1 l1) (fun p => ∃ k : Nat, p.2 = k ∧ k ≤ l1.length ∧ Norm p.1 ∧ (∀ t, In p.1 t ↔ In (l1.take k) t) ∧ p.1.length ≤ k ∧ ∀ y ∈ p.1, ∀ z ∈ l1.drop k, y.Low ≤ z.Low) (fun p => l1.length - p.2.toNat) (fun p hp => ?_) _
    ⟨0, rfl, Nat.zero_le _, Norm_nil, fun t => by simp, Nat.le_refl _, fun y hy => by cases hy⟩
  obtain ⟨out, v⟩ := p
  obtain ⟨k, hk, hkl, hn, hin, hlen, hlow⟩ := hp
  simp only at hk hn hin hlen hlow
  subst hk
  by_cases h : k < l1.length
  · left
    have hx : l1[k]? = some l1[k] := List.getElem?_eq_getElem h
    have hd : l1.drop k = l1[k] :: l1.drop (k + 1) := List.drop_eq_getElem_cons h
    obtain ⟨out', g1, g2, g3, g4, g5⟩ := put_spec (x := l1[k]) hn (hok _ (List.getElem_mem h)) (fun y hy => hlow y hy _ (by rw [hd]; exact List.mem_cons_self)) (by omega)
    refine ⟨(out', ((k + 1 : Nat) : Int)), ?_, ⟨k + 1, rfl, h, g2, fun t => ?_, by simp only; omega, fun y hy z hz => ?_⟩, by simp only; omega⟩
    · simp only [ranges_Make.b1]
      rw [if_pos (by simpa using h), idx_nat, hx, Option.bind_some, g1, Option.bind_some, w64s (by omega)]
    · simp only
      rw [g3, hin, take_snoc2 hx, In_append, In_one]
    · have h1 := g5 y hy
      rw [List.pairwise_iff_getElem] at hs
      obtain ⟨j, hj, rfl⟩ := List.getElem_of_mem hz
      simp only [List.getElem_drop]
      have := hs k (k + 1 + j) h (by simp at hj; omega) (by omega)
      omega
  · right
    obtain rfl : k = l1.length := by omega
    refine ⟨(out, 0), ?_, rfl, hn, fun t => ?_, hlen⟩
    · simp only [ranges_Make.b1]
      rw [if_neg (by simp)]; rfl
    · simp only
      rw [hin, List.take_length]
/-- The set of ranges. -/
theorem Make_ok {l : List TRange} (hok : ∀ x ∈ l, Ok x) (hl : l.length * 16 ≤ 140737488355328) :
    ∃ out, ranges_Make l = some (out, 0) ∧ Norm out ∧ (∀ t, In out t ↔ In l t) ∧ out.length ≤ l.length := by
  obtain ⟨l1, h1, h2, h3⟩ := sortR_spec (l := l) (by omega)
  obtain ⟨r, g1, g2, g3, g4, g5⟩ := Make_loop (l1 := l1) (fun x hx => hok x (h2.mem_iff.1 hx)) h3 (by rw [h2.length_eq]; exact hl)
  refine ⟨r.1, ?_, g3, fun t => (g4 t).trans (In_perm h2), by rw [← h2.length_eq]; exact g5⟩
  unfold ranges_Make
  rw [Contains_eq (fun x _ => Make_1_eq x) (by omega), Option.bind_some, any_bad, decide_eq_true hok]
  rw [if_neg (by simp), Clone_eq hl, Option.bind_some, h1, Option.bind_some, g1, ← g2]
theorem Make_bad {l : List TRange} (hbad : ¬ ∀ x ∈ l, Ok x) (hl : l.length < 9223372036854775807) : ranges_Make l = some ([], 1) := by
  unfold ranges_Make
  rw [Contains_eq (fun x _ => Make_1_eq x) hl, Option.bind_some, any_bad, decide_eq_false hbad]
  rfl
theorem Same_eq {a b : List TRange} (hl : a.length < 9223372036854775807) : scansionref02_Same a b = some (decide (a = b)) := by
  unfold scansionref02_Same
  by_cases hlen : a.length = b.length
  · rw [if_neg (by simp [hlen])]
    have := Loop_all0 (b := scansionref02_Same.b1 a b) (fun j => a[j]? = b[j]?) a.length (r := false) (R := true) (fun j hj hp => ?_) (fun j hj hp => ?_) ?_
    · by_cases h : a = b
      · rw [this.1 (fun j _ => by rw [h]), decide_eq_true h]
      · rw [this.2 (fun hall => h (List.ext_getElem? fun j => ?_)), decide_eq_false h]
        by_cases hj : j < a.length
        · exact hall j hj
        · rw [List.getElem?_eq_none (by omega), List.getElem?_eq_none (by omega)]
    · have ha : a[j]? = some a[j] := List.getElem?_eq_getElem hj
      have hb : b[j]? = some a[j] := by rw [← hp]; exact ha
      rw [scansionref02_Same.b1, if_pos (by simpa using hj), idx_nat, ha, Option.bind_some, idx_nat, hb, Option.bind_some, if_neg (by simp), w64s (by omega)]
    · have ha : a[j]? = some a[j] := List.getElem?_eq_getElem hj
      have hb : b[j]? = some (b[j]'(by omega)) := List.getElem?_eq_getElem (by omega)
      rw [ha, hb] at hp
      rw [scansionref02_Same.b1, if_pos (by simpa using hj), idx_nat, ha, Option.bind_some, idx_nat, hb, Option.bind_some, if_pos]
      generalize a[j] = x at *
      generalize b[j]'(by omega) = y at *
      cases x; cases y
      simp only [Option.some.injEq, TRange.mk.injEq] at hp
      simp
      omega
    · rw [scansionref02_Same.b1, if_neg (by simp)]; rfl
  · rw [if_pos (by simp; omega)]
    rw [decide_eq_false (fun h => hlen (by rw [h]))]
end Go.Val

/- part LV -/
/- The small thing that works, gone through. -/
namespace Go.Val
open Go.Proofs
def handL0 (f : FuncId) (a : List SV) (h : Heap) (o : List SV) (h' : Heap) : Prop :=
  h' = h ∧ f = 43 ∧ ∃ b u, a = [.cv (.val (.sl (List.map eU b)))] ∧ utf_Decode b = some u ∧ o = [.cv (.val (.sl (List.map eUnit u)))]
def how0 (f : FuncId) (i : Nat) : How := match f, i with
  | 59, 0 => .move
  | _, _ => .data
def gives0 (f : FuncId) : How := match f with
  | 55 => .move
  | 59 => .move
  | _ => .data
noncomputable def CT0 : Ctx := { P := Tryz.prog, how := how0, gives := gives0, ext := extR, hand := handL0 }
def bytesOfD : List DVal → List UInt8
  | [] => []
  | .int _ n :: ds => UInt8.ofNat n.toNat :: bytesOfD ds
  | _ :: ds => bytesOfD ds
def rangesOfD : List DVal → List TRange
  | [] => []
  | .agg [.int _ a, .int _ b] :: ds => ⟨a, b⟩ :: rangesOfD ds
  | _ :: ds => rangesOfD ds
def risingR : List TRange → Bool
  | [] => true
  | x :: l => l.all (fun y => decide (x.Low < y.Low)) && risingR l
def handE0 (f : FuncId) (a : List SV) : Option (List SV) :=
  match f, a with
  | 43, [.cv (.val (.sl ds))] => if DVal.beqL ds ((bytesOfD ds).map eU) && decide ((bytesOfD ds).length ≤ 1048576) then some [.cv (.val (.sl ((units (bytesOfD ds)).map eUnit)))] else none
  | _, _ => none
def extE0 (g : FuncId) (ds : List DVal) (k : TypeId) (zs : List DVal) : Option (List DVal) :=
  if decide (g = 56) && DVal.beqL ds [.fn 57 [] []] && decide (k = 74) && DVal.beqL zs ((rangesOfD zs).map eRange) && decide ((rangesOfD zs).length ≤ 100) && risingR (rangesOfD zs) then some zs else none
def fixE0 (f id : Nat) (s : St) : List Root := match f, id with
  | 11, 14 => match s.get 8 with
    | .cv (.val (.ptr (some (l, _)))) => (List.range 16).map (.cell l)
    | _ => []
  | _, _ => []
noncomputable def E0 : Ev := { C := CT0, hand := handE0, plan := fun _ _ => none, fix := fixE0, ext := extE0, isExt := fun f => f == 56 }
theorem low_inj : ∀ {l : List TRange}, (l.Pairwise fun x y => x.Low < y.Low) → ∀ a ∈ l, ∀ b ∈ l, a.Low = b.Low → a = b
  | [], _, a, ha, _, _, _ => by cases ha
  | x :: l, h, a, ha, b, hb, e => by
    obtain ⟨h1, h2⟩ := List.pairwise_cons.1 h
    rcases List.mem_cons.1 ha with e1 | ha'
    · rcases List.mem_cons.1 hb with e2 | hb'
      · rw [e1, e2]
      · have := h1 _ hb'; rw [e1] at e; omega
    · rcases List.mem_cons.1 hb with e2 | hb'
      · have := h1 _ ha'; rw [e2] at e; omega
      · exact low_inj h2 a ha' b hb' e
theorem rising_sort {l : List TRange} (hr : risingR l = true) (hl : l.length ≤ 100) : sortR l = some l := by
  obtain ⟨l', h1, h2, h3⟩ := sortR_spec (l := l) (by omega)
  rw [h1]
  have hp : ∀ l : List TRange, risingR l = true → l.Pairwise fun x y => x.Low < y.Low := by
    intro l
    induction l with
    | nil => intro _; exact List.Pairwise.nil
    | cons x l ih =>
      intro h
      simp only [risingR, Bool.and_eq_true, List.all_eq_true, decide_eq_true_eq] at h
      exact List.Pairwise.cons h.1 (ih h.2)
  have hlt := hp l hr
  have hle : l.Pairwise fun x y => x.Low ≤ y.Low := hlt.imp fun h => Int.le_of_lt h
  have hanti : ∀ a b, a ∈ l' → b ∈ l → a.Low ≤ b.Low → b.Low ≤ a.Low → a = b := by
    intro a b ha hb h4 h5
    have ha := h2.mem_iff.1 ha
    exact low_inj hlt a ha b hb (by omega)
  congr 1
  exact List.Perm.eq_of_pairwise hanti h3 hle h2
theorem ok0 : EvOk E0 where
  hand f a o h e := by
    change handE0 f a = some o at e
    unfold handE0 at e
    split at e
    · rename_i ds
      split at e
      · rename_i hc
        simp only [Bool.and_eq_true, decide_eq_true_eq] at hc
        obtain rfl := Option.some.inj e
        refine ⟨rfl, rfl, bytesOfD ds, units (bytesOfD ds), ?_, ?_, rfl⟩
        · rw [← DVal.beqL_eq _ _ hc.1]
        · unfold utf_Decode
          rw [if_pos hc.2]
      · cases e
    · cases e
  ext g ds k zs ys e := by
    change extE0 g ds k zs = some ys at e
    change extR g ds k zs = some ys
    unfold extE0 at e
    split at e
    · rename_i hc
      simp only [Bool.and_eq_true, decide_eq_true_eq] at hc
      obtain ⟨⟨⟨⟨⟨rfl, h2⟩, rfl⟩, h4⟩, h5⟩, h6⟩ := hc
      obtain rfl := Option.some.inj e
      have e2 := DVal.beqL_eq _ _ h2
      have e4 := DVal.beqL_eq _ _ h4
      subst e2
      rw [e4]
      exact ext_sortR (rising_sort h6 h5)
    · cases e
end Go.Val

/- part LV2 -/
/- The small thing that works: in the machine, from anywhere. -/
namespace Go.Val
open Go.Proofs
set_option maxRecDepth 100000
theorem awake_ev : ((evFun E0 200 60 5 [] ⟨0, fun _ => none⟩).map (·.1)) = some [.cv (.val (.bool true))] := by kernel_rfl
theorem awake_runs : Runs CT0 5 [] ⟨0, fun _ => none⟩ fun o h' => o = [.cv (.val (.bool true))] := by
  have h := awake_ev
  cases e : evFun E0 200 60 5 [] ⟨0, fun _ => none⟩ with
  | none => rw [e] at h; cases h
  | some p =>
    obtain ⟨o, h'⟩ := p
    rw [e] at h
    obtain rfl := Option.some.inj h
    exact (evFun_ok ok0 60 _ _ _ _ _ e).mono fun o1 h1 ⟨e1, e2⟩ => e1
end Go.Val

/- part LU6 -/
/- strings.Builder, as the kit tells it, laid at this program; hexadecimal figures, in the machine. -/
namespace Go.Proofs.IR
open Go.RowKit Go.Shelf Go.Val
set_option maxRecDepth 100000
def bld_ren : Go.Shelf.Ren := ⟨fun | 166 => 36 | 240 => 60 | 276 => 85 | 169 => 38 | n => n, fun | 0 => 0 | 3 => 3 | 4 => 4 | 9 => 9 | 20 => 20 | 37 => 28 | 70 => 75 | 72 => 77 | 75 => 79 | 80 => 83 | 164 => 124 | 5 => 5 | 127 => 105 | n => n, fun | n => n⟩
theorem bld_n166 : Lays.n166 Tryz.prog bld_ren := {
  mixed := by kernel_rfl
  f166 := Tryz.func36.trans (congrArg some (by kernel_rfl))
  f240 := Tryz.func60.trans (congrArg some (by kernel_rfl))
  f276 := Tryz.func85.trans (congrArg some (by kernel_rfl))
  t0 := Tryz.underlying0
  a0 := Tryz.isAgg0
  z0 := Tryz.sizeOf0
  v0 := Tryz.zeroValue0
  t3 := Tryz.underlying3
  a3 := Tryz.isAgg3
  z3 := Tryz.sizeOf3
  v3 := Tryz.zeroValue3
  t4 := Tryz.underlying4
  a4 := Tryz.isAgg4
  z4 := Tryz.sizeOf4
  v4 := Tryz.zeroValue4
  t9 := Tryz.underlying9
  a9 := Tryz.isAgg9
  z9 := Tryz.sizeOf9
  v9 := Tryz.zeroValue9
  t20 := Tryz.underlying20
  a20 := Tryz.isAgg20
  z20 := Tryz.sizeOf20
  v20 := Tryz.zeroValue20
  t37 := Tryz.underlying28
  a37 := Tryz.isAgg28
  z37 := Tryz.sizeOf28
  v37 := Tryz.zeroValue28
  t70 := Tryz.underlying75
  a70 := Tryz.isAgg75
  z70 := Tryz.sizeOf75
  v70 := Tryz.zeroValue75
  t72 := Tryz.underlying77
  a72 := Tryz.isAgg77
  z72 := Tryz.sizeOf77
  v72 := Tryz.zeroValue77
  t75 := Tryz.underlying79
  a75 := Tryz.isAgg79
  z75 := Tryz.sizeOf79
  v75 := Tryz.zeroValue79
  t164 := Tryz.underlying124
  a164 := Tryz.isAgg124
  z164 := Tryz.sizeOf124
  v164 := Tryz.zeroValue124 }
theorem bld_n169 : Lays.n169 Tryz.prog bld_ren := {
  mixed := by kernel_rfl
  f169 := Tryz.func38.trans (congrArg some (by kernel_rfl))
  t0 := Tryz.underlying0
  a0 := Tryz.isAgg0
  z0 := Tryz.sizeOf0
  v0 := Tryz.zeroValue0
  t3 := Tryz.underlying3
  a3 := Tryz.isAgg3
  z3 := Tryz.sizeOf3
  v3 := Tryz.zeroValue3
  t9 := Tryz.underlying9
  a9 := Tryz.isAgg9
  z9 := Tryz.sizeOf9
  v9 := Tryz.zeroValue9
  t37 := Tryz.underlying28
  a37 := Tryz.isAgg28
  z37 := Tryz.sizeOf28
  v37 := Tryz.zeroValue28
  t70 := Tryz.underlying75
  a70 := Tryz.isAgg75
  z70 := Tryz.sizeOf75
  v70 := Tryz.zeroValue75
  t72 := Tryz.underlying77
  a72 := Tryz.isAgg77
  z72 := Tryz.sizeOf77
  v72 := Tryz.zeroValue77
  t127 := Tryz.underlying105
  a127 := Tryz.isAgg105
  z127 := Tryz.sizeOf105
  v127 := Tryz.zeroValue105 }
theorem bld_X72 : Builder.X72 Tryz.prog bld_ren := ⟨by kernel_rfl, by kernel_rfl⟩
theorem bld_Extra : Builder.Extra Tryz.prog bld_ren := { toX72 := bld_X72, t5 := Tryz.underlying5, a5 := Tryz.isAgg5, z5 := Tryz.sizeOf5, v5 := Tryz.zeroValue5, infoByte := by kernel_rfl, cellsByte := by kernel_rfl, sizeByte := by kernel_rfl, neB5 := by decide }
theorem hexU_lt {n : Nat} (h : n < 16) : hexU n = [if n < 10 then UInt8.ofNat (48 + n) else UInt8.ofNat (55 + n)] := by rw [hexU, dif_pos h]
theorem hexU_ge {n : Nat} (h : ¬ n < 16) : hexU n = hexU (n / 16) ++ hexU (n % 16) := by rw [hexU, dif_neg h]
theorem hexU_len : ∀ (k n : Nat), n < 16 ^ (k + 1) → (hexU n).length ≤ k + 1
  | k, n, h => by
    induction k generalizing n with
    | zero => rw [hexU_lt (by simpa using h)]; simp
    | succ k ih =>
      by_cases hn : n < 16
      · rw [hexU_lt hn]; simp
      · rw [hexU_ge hn, List.length_append, hexU_lt (Nat.mod_lt _ (by decide))]
        have := ih (n / 16) (by rw [Nat.pow_succ] at h; omega)
        simp only [List.length_cons, List.length_nil]; omega
end Go.Proofs.IR

/- part LU7 -/
/- Hexadecimal figures, in the machine. -/
namespace Go.Proofs.IR
open Go.RowKit Go.Shelf Go.Val
set_option maxRecDepth 100000
theorem hex_one (w : World) (n : Nat) (h : n < 16) : Calls Tryz.prog 37 #[.int .i64 (n : Int)] w fun e w' => e = .returned (.string ⟨(hexU n).toArray⟩) ∧ w' = w := by
  rw [hexU_lt h]
  have : n = 0 ∨ n = 1 ∨ n = 2 ∨ n = 3 ∨ n = 4 ∨ n = 5 ∨ n = 6 ∨ n = 7 ∨ n = 8 ∨ n = 9 ∨ n = 10 ∨ n = 11 ∨ n = 12 ∨ n = 13 ∨ n = 14 ∨ n = 15 := by omega
  rcases this with rfl | rfl | rfl | rfl | rfl | rfl | rfl | rfl | rfl | rfl | rfl | rfl | rfl | rfl | rfl | rfl
  all_goals
    go_enter Tryz.func37, Tryz.ntmps37
    go_wp2
  all_goals go_ret
  all_goals exact ⟨rfl, rfl⟩
theorem hex_in (w : World) (n : Nat) (hn : n ≤ 1114111) : Calls Tryz.prog 37 #[.int .i64 (n : Int)] w fun e w' => e = .returned (.string ⟨(hexU n).toArray⟩) ∧ w' = w := by
  induction n using Nat.strongRecOn with
  | _ n ih =>
    by_cases h : n < 16
    · exact hex_one w n h
    · have i1 : Calls Tryz.prog 37 #[.int .i64 ((n : Int) / 16)] w fun e w' => e = .returned (.string ⟨(hexU (n / 16)).toArray⟩) ∧ w' = w := by simpa using ih (n / 16) (by omega) (by omega)
      have i2 : Calls Tryz.prog 37 #[.int .i64 ((n : Int) % 16)] w fun e w' => e = .returned (.string ⟨(hexU (n % 16)).toArray⟩) ∧ w' = w := by simpa using ih (n % 16) (by omega) (by omega)
      have l1 := hexU_len 5 (n / 16) (by omega)
      have l2 := hexU_len 5 (n % 16) (by omega)
      rw [hexU_ge h]
      clear ih
      generalize hexU (n / 16) = s1 at *
      generalize hexU (n % 16) = s2 at *
      go_enter Tryz.func37, Tryz.ntmps37
      have h' : ¬ (n : Int) < 16 := by omega
      go_wp2_with (first | (go_at_call 37; refine i1.mono ?_; clear i1; rintro e w' ⟨rfl, rfl⟩) | (go_at_call 37; refine i2.mono ?_; clear i2; rintro e w' ⟨rfl, rfl⟩))
      go_ret
      exact ⟨rfl, rfl⟩
end Go.Proofs.IR

/- part LU8 -/
/- lex.Set, in the machine. -/
namespace Go.Proofs.IR
open Go.RowKit Go.Shelf Go.Val
set_option maxRecDepth 100000
/-- One range's text. -/
def rngText (x : TRange) : Str := hexX x.Low ++ if x.High = x.Low then [] else 45 :: hexX x.High
def fine (x : TRange) : Prop := 0 ≤ x.Low ∧ x.Low ≤ 1114111 ∧ 0 ≤ x.High ∧ x.High ≤ 1114111
theorem hexX_len {n : Int} (h : n ≤ 1114111) : (hexX n).length ≤ 10 := by
  have := hexU_len 5 n.toNat (by omega)
  simp only [hexX, List.length_append, List.length_cons, List.length_nil]; omega
theorem rng_len {x : TRange} (h : fine x) : (rngText x).length ≤ 21 := by
  have h1 := hexX_len h.2.1; have h2 := hexX_len h.2.2.2
  unfold rngText
  rw [List.length_append]
  split
  · simp; omega
  · simp only [List.length_cons]; omega
theorem text_len : ∀ (l : List TRange), (∀ x ∈ l, fine x) → (l.flatMap rngText).length ≤ l.length * 21
  | [], _ => by simp
  | x :: l, h => by
    have h1 := rng_len (h x (by simp)); have h2 := text_len l (fun y hy => h y (List.mem_cons_of_mem _ hy))
    simp only [List.flatMap_cons, List.length_append, List.length_cons]; omega
theorem hexA (w : World) (n : Int) (h0 : 0 ≤ n) (h1 : n ≤ 1114111) : Calls Tryz.prog 37 #[.int .i64 n] w fun e w' => e = .returned (.string ⟨(hexU n.toNat).toArray⟩) ∧ w' = w := by
  have := hex_in w n.toNat (by omega)
  rwa [Int.toNat_of_nonneg h0] at this
theorem write_in (B b : Nat) (pre s : List UInt8) (w : World) (h : Lib.IsBuilderF 77 5 B b (Lib.byteCells pre) w) (hl : pre.length + s.length ≤ 140737488355328) (hB : B ≤ w.heap.size) :
    Calls Tryz.prog 36 #[.pointer (some ⟨b, 0, none⟩), .string ⟨s.toArray⟩] w fun e w' => e = .returned (.tuple #[.int .i64 s.length, .nilIface]) ∧ Lib.IsBuilderF 77 5 B b (Lib.byteCells (pre ++ s)) w' ∧ Below B w w' ∧ Lib.OthersKept 5 (some b) w w' := by
  refine (Any.Builder_WriteString_k bld_n166 bld_Extra B b (Lib.byteCells pre) ⟨s.toArray⟩ w h (by rw [Lib.byteCells_length]; exact hl) hB).mono fun e w' ⟨h1, h2, h3⟩ => ⟨h1, .inr ?_, h3⟩
  rw [Lib.byteCells_append]
  exact h2
theorem string_in (B b : Nat) (pre : List UInt8) (w : World) (h : Lib.IsBuilderF 77 5 B b (Lib.byteCells pre) w) (hB : B ≤ w.heap.size) :
    Calls Tryz.prog 38 #[.pointer (some ⟨b, 0, none⟩)] w fun e w' => e = .returned (.string ⟨pre.toArray⟩) ∧ Below B w w' :=
  (Any.Builder_String_any_k bld_n169 bld_Extra B b pre w h hB).mono fun e w' ⟨h1, _, h2, _⟩ => ⟨h1, h2⟩
theorem builder_lt {T e : TypeId} {B b : Nat} {bs : List Value} {w : World} (h : Lib.IsBuilderF T e B b bs w) : b < w.heap.size := by
  rcases h with h | h <;> exact h.lt
theorem cells2 {b : Nat} {w w' : World} {k : Nat} {c d : Value} (h : Lib.OthersKept 5 (some b) w w') (hk : w.heap[k]? = some (.cells #[c, d] 74 (0, 0))) (hne : k ≠ b) : w'.heap[k]? = some (.cells #[c, d] 74 (0, 0)) :=
  h k _ hk (fun e => hne (Option.some.inj e)) (fun c fz e => by cases e)
set_option maxHeartbeats 2000000 in
theorem set_in (b off cap : Nat) (p : Option Addr) (l : List TRange) (hp : l ≠ [] → p = some ⟨b, off, none⟩) (hlen : l.length ≤ 1200000) (hok : ∀ x ∈ l, fine x) (w : World) (hb : l ≠ [] → b < w.heap.size)
    (hc : ∀ j (h : j < l.length), w.cell? ⟨b, off + j * 2, none⟩ = some (.int .i64 l[j].Low) ∧ w.cell? ⟨b, off + j * 2 + 1, none⟩ = some (.int .i64 l[j].High)) :
    Calls Tryz.prog 17 #[.slice p l.length cap] w fun e w' => e = .returned (.string ⟨(setText l).toArray⟩) ∧ Below w.heap.size w w' := by
  go_enter Tryz.func17, Tryz.ntmps17
  have hB0 := Lib.IsBuilderF.of (Lib.fresh_isBuilder 77 5 w)
  have hw0 := write_in w.heap.size w.heap.size [] [91] _ hB0 (by simp) (by simp)
  go_wp2_with (go_at_call 36; refine hw0.mono ?_; rintro e w1 ⟨rfl, hI1, hb1, _⟩)
  have hbel1 : Below w.heap.size w w1 := ((Below.refl _ w).alloc (Nat.le_refl _) _).trans hb1
  go_loopw [5, 9] (fun v5 v9 wr => ∃ k : Nat, k ≤ l.length ∧ v9 = .int .i64 k ∧ Lib.IsBuilderF 77 5 w.heap.size w.heap.size (Lib.byteCells (91 :: (l.take k).flatMap rngText)) wr ∧ Below w.heap.size w wr)
    (fun _ v9 _ => l.length - (intOf v9).toNat)
  case atStart => exact ⟨0, Nat.zero_le _, rfl, by simpa using hI1, hbel1⟩
  case round =>
    obtain ⟨k, hk, rfl, hI, hbel⟩ := hrel
    by_cases hlt : k < l.length
    · have hne : l ≠ [] := by intro e; rw [e] at hlt; simp at hlt
      obtain rfl := hp hne
      obtain ⟨c1, c2⟩ := hc k hlt
      have c1' := (hbel.cell (p := ⟨b, off + k * 2, none⟩) (hb hne)).trans c1
      have c2' := (hbel.cell (p := ⟨b, off + k * 2 + 1, none⟩) (hb hne)).trans c2
      have hfx := hok l[k] (List.getElem_mem hlt)
      generalize hx : l[k] = x at c1' c2' hfx
      obtain ⟨f1, f2, f3, f4⟩ := hfx
      have tl := text_len (l.take k) (fun y hy => hok y (List.mem_of_mem_take hy))
      have xl1 := hexX_len f2
      have xl2 := hexX_len f4
      have ul1 := hexU_len 5 x.Low.toNat (by omega)
      have ul2 := hexU_len 5 x.High.toNat (by omega)
      have i1 := fun W => hexA W x.Low f1 f2
      have i2 := fun W => hexA W x.High f3 f4
      have ll : (l.take k).length ≤ 1200000 := by rw [List.length_take]; omega
      have hI2 := hI.alloc (.cells #[.int .i64 x.Low, .int .i64 x.High] 74)
      have hw1 := write_in w.heap.size w.heap.size _ (hexX x.Low) _ hI2 (by simp only [List.length_cons]; omega) (by have := hbel.size; simp; omega)
      unfold hexX at hw1
      have hsnoc : 91 :: (l.take (k + 1)).flatMap rngText = 91 :: (l.take k).flatMap rngText ++ rngText x := by
        rw [List.take_succ_eq_append_getElem hlt, hx]; simp
      by_cases heq : x.High = x.Low
      · have e : rngText x = [92, 120, 123] ++ hexU x.Low.toNat ++ [125] := by unfold rngText hexX; rw [if_pos heq]; simp
        rw [heq] at hw1 c2'
        clear ul2 xl2 i2
        go_wp2_with (first | (go_at_call 37; refine (i1 _).mono ?_; clear i1; rintro e w' ⟨rfl, rfl⟩) | (go_at_call 36; refine hw1.mono ?_; clear hw1; rintro e w2 ⟨rfl, hI3, hb3, hk3⟩; have hB80 := cells2 hk3 (World.alloc_heap_new wr _) (by have := hbel.size; have := builder_lt hI; omega); have d0 : w2.cell? ⟨wr.heap.size, 0, none⟩ = some (.int .i64 x.Low) := (by simp only [World.cell?, hB80]; rfl); have d1 : w2.cell? ⟨wr.heap.size, 1, none⟩ = some (.int .i64 x.Low) := (by simp only [World.cell?, hB80]; rfl)))
        have hbel3 : Below w.heap.size w w2 := (hbel.alloc hbel.size _).trans hb3
        exact ⟨⟨k + 1, by omega, by simp, by rw [hsnoc, e]; exact hI3, hbel3⟩, by simp [intOf]; omega⟩
      · have e : rngText x = ([92, 120, 123] ++ hexU x.Low.toNat ++ [125]) ++ (45 :: ([92, 120, 123] ++ hexU x.High.toNat ++ [125])) := by unfold rngText hexX; rw [if_neg heq]
        go_wp2_with (first | (go_at_call 37; refine (i1 _).mono ?_; clear i1; rintro e w' ⟨rfl, rfl⟩) | (go_at_call 36; refine hw1.mono ?_; clear hw1; rintro e w2 ⟨rfl, hI3, hb3, hk3⟩; have hB80 := cells2 hk3 (World.alloc_heap_new wr _) (by have := hbel.size; have := builder_lt hI; omega); have d0 : w2.cell? ⟨wr.heap.size, 0, none⟩ = some (.int .i64 x.Low) := (by simp only [World.cell?, hB80]; rfl); have d1 : w2.cell? ⟨wr.heap.size, 1, none⟩ = some (.int .i64 x.High) := (by simp only [World.cell?, hB80]; rfl); have hw2 := write_in w.heap.size w.heap.size _ (45 :: hexX x.High) w2 hI3 (by unfold hexX at xl1; simp only [List.length_cons, List.length_append] at *; omega) (by have := ((hbel.alloc hbel.size (.cells #[.int .i64 x.Low, .int .i64 x.High] 74)).trans hb3).size; omega); unfold hexX at hw2) | (go_at_call 37; refine (i2 _).mono ?_; clear i2; rintro e w' ⟨rfl, rfl⟩) | (go_at_call 36; refine hw2.mono ?_; clear hw2; rintro e w3 ⟨rfl, hI4, hb4, hk4⟩))
        have hbel3 : Below w.heap.size w w3 := ((hbel.alloc hbel.size _).trans hb3).trans hb4
        exact ⟨⟨k + 1, by omega, by simp, by rw [hsnoc, e]; simpa using hI4, hbel3⟩, by simp [intOf]; omega⟩
    · obtain rfl : k = l.length := by omega
      rw [List.take_length] at hI
      have tl := text_len l hok
      have hw1 := write_in w.heap.size w.heap.size _ [93] wr hI (by simp only [List.length_cons, List.length_nil]; omega) hbel.size
      go_wp2_with (first | (go_at_call 36; refine hw1.mono ?_; clear hw1; rintro e w2 ⟨rfl, hI3, hb3, hk3⟩; have hst := string_in w.heap.size w.heap.size _ w2 hI3 (hbel.trans hb3).size) | (go_at_call 38; refine hst.mono ?_; clear hst; rintro e w3 ⟨rfl, hb4⟩))
      go_ret
      refine ⟨?_, (hbel.trans hb3).trans hb4⟩
      have e : setText l = 91 :: (l.flatMap rngText ++ [93]) := rfl
      rw [e]; rfl
def cellsG (x : TRange) : List Value := [.int .i64 x.Low, .int .i64 x.High]
theorem cellsG_at : ∀ {l : List TRange} {j : Nat} (h : j < l.length), (l.flatMap cellsG)[j * 2]? = some (.int .i64 l[j].Low) ∧ (l.flatMap cellsG)[j * 2 + 1]? = some (.int .i64 l[j].High)
  | x :: l, 0, h => ⟨rfl, rfl⟩
  | x :: l, j + 1, h => by
    have ih := cellsG_at (l := l) (j := j) (by simpa using h)
    have e : (j + 1) * 2 = j * 2 + 2 := by omega
    simp only [List.flatMap_cons, cellsG, List.cons_append, List.nil_append, e, List.getElem_cons_succ]
    exact ih
theorem ranges_in {w : World} {G : Gh} {l : List TRange} {v : Value} (h : RelV w G (.sl (l.map eRange)) v) : ∃ p cap b off, v = .slice p l.length cap ∧ (l ≠ [] → p = some ⟨b, off, none⟩) ∧ (l ≠ [] → b < w.heap.size) ∧
    ∀ j (hj : j < l.length), w.cell? ⟨b, off + j * 2, none⟩ = some (.int .i64 l[j].Low) ∧ w.cell? ⟨b, off + j * 2 + 1, none⟩ = some (.int .i64 l[j].High) := by
  generalize hd : DVal.sl (l.map eRange) = d at h
  cases h with
  | nilsl a cap =>
    have : l = [] := by simpa using hd
    subst this
    exact ⟨a, cap, 0, 0, rfl, fun h => absurd rfl h, fun h => absurd rfl h, fun j hj => by simp at hj⟩
  | sl xs ad cap k vs hne hcap hg hb hs hk hr hc =>
    obtain rfl : l.map eRange = xs := by simpa using hd
    have hvs : vs = l.flatMap cellsG := by
      clear hk hc hcap hne hd
      induction l generalizing vs with
      | nil => cases hr; rfl
      | cons x l ih =>
        have h' : RelCs w G (.int .i64 x.Low :: .int .i64 x.High :: allCells (l.map eRange)) vs := hr
        cases h' with
        | cons _ u _ us _ h1 h2 =>
          cases h2 with
          | cons _ u2 _ us2 _ h3 h4 => cases h1; cases h3; rw [ih us2 h4]; rfl
    have addr : ∀ i, ad.add i = ⟨ad.block, ad.off + i, none⟩ := fun i => by
      cases ad
      simp only at hs
      subst hs
      by_cases hi : i = 0
      · subst hi; rfl
      · simp [Addr.add, hi]
    refine ⟨some ad, cap, ad.block, ad.off, by simp, fun _ => by cases ad; simp_all, fun _ => hb, fun j hj => ?_⟩
    have hc0 := hc (j * 2) _ (by rw [hvs]; exact (cellsG_at hj).1)
    have hc1 := hc (j * 2 + 1) _ (by rw [hvs]; exact (cellsG_at hj).2)
    rw [addr] at hc0 hc1
    exact ⟨hc0, by rw [Nat.add_assoc]; exact hc1⟩
  | _ => cases hd
theorem set_sound {l : List TRange} {u : Str} {h : Heap} (e : lex_Set l = some u) : Sound Tryz.prog 17 [.cv (.val (.sl (List.map eRange l)))] h fun o h' => o = [.cv (.val (.str (Val.bs u)))] ∧ h' = h := by
  unfold lex_Set at e
  split at e
  case isFalse => cases e
  rename_i hlen
  obtain rfl := Option.some.inj e
  refine ⟨⟨Tryz.f17, _, Tryz.func17, rfl, by kernel_rfl⟩, fun w G vs hP ha hh hf => ?_⟩
  obtain ⟨v, rfl, hv⟩ := one_arg ha
  obtain ⟨p, cap, b0, off, rfl, hp, hb0, hc⟩ := ranges_in hv
  refine (set_in b0 off cap p l hp hlen.1 hlen.2 w hb0 hc).mono fun e w' ⟨he, hbel⟩ => ?_
  have hgr := fresh_grows (G := G) hbel hf
  exact ⟨[.string ⟨(setText l).toArray⟩], _, h, Gh.fresh G w.heap.size w'.heap.size, he, ⟨rfl, rfl⟩, .cons _ _ _ _ (.str _) .nil, hgr.heapH rfl hh, hgr.fresh, hgr.kept⟩
end Go.Proofs.IR

/- part LU9 -/
/- strings.Join, in the machine (by the kit's contract). -/
namespace Go.Proofs.IR
open Go.RowKit Go.Shelf Go.Val
set_option maxRecDepth 100000
def join_ren : Go.Shelf.Ren := ⟨fun | 156 => 31 | 165 => 51 | 166 => 36 | 169 => 38 | 240 => 60 | 241 => 80 | 276 => 85 | 277 => 104 | n => n, fun | 0 => 0 | 3 => 3 | 4 => 4 | 9 => 9 | 20 => 20 | 31 => 69 | 37 => 28 | 70 => 75 | 72 => 77 | 75 => 79 | 76 => 80 | 80 => 83 | 127 => 105 | 164 => 124 | 5 => 5 | n => n, fun | n => n⟩
theorem join_n156 : Lays.n156 Tryz.prog join_ren := {
  mixed := by kernel_rfl
  f156 := Tryz.func31.trans (congrArg some (by kernel_rfl))
  f165 := Tryz.func51.trans (congrArg some (by kernel_rfl))
  f166 := Tryz.func36.trans (congrArg some (by kernel_rfl))
  f169 := Tryz.func38.trans (congrArg some (by kernel_rfl))
  f240 := Tryz.func60.trans (congrArg some (by kernel_rfl))
  f241 := Tryz.func80.trans (congrArg some (by kernel_rfl))
  f276 := Tryz.func85.trans (congrArg some (by kernel_rfl))
  f277 := Tryz.func104.trans (congrArg some (by kernel_rfl))
  t0 := Tryz.underlying0
  a0 := Tryz.isAgg0
  z0 := Tryz.sizeOf0
  v0 := Tryz.zeroValue0
  t3 := Tryz.underlying3
  a3 := Tryz.isAgg3
  z3 := Tryz.sizeOf3
  v3 := Tryz.zeroValue3
  t4 := Tryz.underlying4
  a4 := Tryz.isAgg4
  z4 := Tryz.sizeOf4
  v4 := Tryz.zeroValue4
  t9 := Tryz.underlying9
  a9 := Tryz.isAgg9
  z9 := Tryz.sizeOf9
  v9 := Tryz.zeroValue9
  t20 := Tryz.underlying20
  a20 := Tryz.isAgg20
  z20 := Tryz.sizeOf20
  v20 := Tryz.zeroValue20
  t31 := Tryz.underlying69
  a31 := Tryz.isAgg69
  z31 := Tryz.sizeOf69
  v31 := Tryz.zeroValue69
  t37 := Tryz.underlying28
  a37 := Tryz.isAgg28
  z37 := Tryz.sizeOf28
  v37 := Tryz.zeroValue28
  t70 := Tryz.underlying75
  a70 := Tryz.isAgg75
  z70 := Tryz.sizeOf75
  v70 := Tryz.zeroValue75
  t72 := Tryz.underlying77
  a72 := Tryz.isAgg77
  z72 := Tryz.sizeOf77
  v72 := Tryz.zeroValue77
  t75 := Tryz.underlying79
  a75 := Tryz.isAgg79
  z75 := Tryz.sizeOf79
  v75 := Tryz.zeroValue79
  t76 := Tryz.underlying80
  a76 := Tryz.isAgg80
  z76 := Tryz.sizeOf80
  v76 := Tryz.zeroValue80
  t127 := Tryz.underlying105
  a127 := Tryz.isAgg105
  z127 := Tryz.sizeOf105
  v127 := Tryz.zeroValue105
  t164 := Tryz.underlying124
  a164 := Tryz.isAgg124
  z164 := Tryz.sizeOf124
  v164 := Tryz.zeroValue124 }

theorem join_X72 : Builder.X72 Tryz.prog join_ren := ⟨by kernel_rfl, by kernel_rfl⟩
theorem join_Extra : Builder.Extra Tryz.prog join_ren := { toX72 := join_X72, t5 := Tryz.underlying5, a5 := Tryz.isAgg5, z5 := Tryz.sizeOf5, v5 := Tryz.zeroValue5, infoByte := by kernel_rfl, cellsByte := by kernel_rfl, sizeByte := by kernel_rfl, neB5 := by decide }
/-- Texts that came in, in the machine. -/
theorem strs_in {w : World} {G : Gh} {l : List Str} {v : Value} (h : RelV w G (.sl (l.map eS)) v) : ∃ p cap b off, v = .slice p l.length cap ∧ (l ≠ [] → p = some ⟨b, off, none⟩) ∧ (l ≠ [] → b < w.heap.size) ∧ (l ≠ [] → l.length ≤ cap) ∧ ∀ j (hj : j < l.length), w.cell? ⟨b, off + j, none⟩ = some (.string (bs l[j])) := by
  generalize hd : DVal.sl (l.map eS) = d at h
  cases h with
  | nilsl a cap =>
    have : l = [] := by simpa using hd
    subst this
    exact ⟨a, cap, 0, 0, rfl, fun h => absurd rfl h, fun h => absurd rfl h, fun h => absurd rfl h, fun j hj => by simp at hj⟩
  | sl xs ad cap k vs hne hcap hg hb hs hk hr hc =>
    obtain rfl : l.map eS = xs := by simpa using hd
    have hvs : vs = l.map fun c => Value.string (bs c) := by
      clear hk hc hcap hne hd
      induction l generalizing vs with
      | nil => cases hr; rfl
      | cons c l ih =>
        have h' : RelCs w G (.str (bs c) :: allCells (l.map eS)) vs := hr
        cases h' with
        | cons _ u _ us _ h1 h2 => cases h1; rw [ih us h2]; rfl
    refine ⟨some ad, cap, ad.block, ad.off, by simp, fun _ => by cases ad; simp_all, fun _ => hb, fun _ => by simpa using hcap, fun j hj => ?_⟩
    have := hc j (.string (bs l[j])) (by rw [hvs]; simp [hj])
    rw [← this]
    congr 1
    cases ad
    simp only at hs
    subst hs
    by_cases hj0 : j = 0
    · subst hj0; rfl
    · simp [Addr.add, hj0]
  | _ => cases hd
theorem join_in {l : List Str} {s : Str} (p : Option Addr) (cap b off : Nat) (w : World) (hp : l ≠ [] → p = some ⟨b, off, none⟩) (hb : l ≠ [] → b < w.heap.size) (hcap : l ≠ [] → l.length ≤ cap) (hc : ∀ j (hj : j < l.length), w.cell? ⟨b, off + j, none⟩ = some (.string (bs l[j]))) (h1 : l.length ≤ 140737488355328) (h2 : (Lib.join l s).length ≤ 140737488355328) :
    Calls Tryz.prog 31 #[.slice p l.length cap, .string (bs s)] w fun e w' => e = .returned (.string (bs (Lib.join l s))) ∧ Below w.heap.size w w' := by
  by_cases hl : l = []
  · subst hl
    exact (Any.strings_Join_none join_n156 join_Extra p cap (bs s) w).mono fun e w' ⟨he, hw⟩ => ⟨he, hw ▸ Below.refl _ _⟩
  · obtain rfl := hp hl
    have hm : (l.map bs).map (·.data.toList) = l := by
      rw [List.map_map]
      have : ((fun x : ByteArray => x.data.toList) ∘ bs) = id := by funext x; rfl
      rw [this, List.map_id]
    have hlm : (l.map bs).length = l.length := by simp
    have := Any.strings_Join join_n156 join_Extra b off cap (l.map bs) (bs s) w (fun j x hx => by
      rw [List.getElem?_map] at hx
      cases hj : l[j]? with
      | none => rw [hj] at hx; cases hx
      | some y =>
        rw [hj] at hx
        cases hx
        obtain ⟨hlt, e⟩ := List.getElem?_eq_some_iff.1 hj
        rw [hc j hlt, e]) (hb hl) (by rw [hlm]; exact h1) (by rw [hlm]; exact hcap hl) (by rw [hm]; exact h2)
    rw [hlm, hm] at this
    exact this
theorem join_sound {l : List Str} {s u : Str} {h : Heap} (e : strings_Join l s = some u) : Sound Tryz.prog 31 [.cv (.val (.sl (List.map eS l))), .cv (.val (.str (bs s)))] h fun o h' => o = [.cv (.val (.str (bs u)))] ∧ h' = h := by
  unfold strings_Join at e
  split at e
  case isFalse => cases e
  rename_i hlen
  obtain rfl := Option.some.inj e
  refine ⟨⟨Tryz.f31, _, Tryz.func31, rfl, by kernel_rfl⟩, fun w G vs hP ha hh hf => ?_⟩
  obtain ⟨v1, v2, rfl, hv1, hv2⟩ : ∃ v1 v2, vs = [v1, v2] ∧ RelV w G (.sl (l.map eS)) v1 ∧ RelV w G (.str (bs s)) v2 := by
    cases ha with
    | cons _ c v _ vs h1 h2 =>
      cases h2 with
      | cons _ c2 v2 _ vs2 h3 h4 => cases h4; exact ⟨v, v2, rfl, h1, h3⟩
  obtain ⟨p, cap, b, off, rfl, hp, hb, hcap, hc⟩ := strs_in hv1
  cases hv2
  refine (join_in p cap b off w hp hb hcap hc hlen.1 hlen.2).mono fun e w' ⟨he, hbel⟩ => ?_
  have hgr := fresh_grows (G := G) hbel hf
  exact ⟨[.string (bs (Lib.join l s))], _, h, Gh.fresh G w.heap.size w'.heap.size, he, ⟨rfl, rfl⟩, .cons _ _ _ _ (.str _) .nil, hgr.heapH rfl hh, hgr.fresh, hgr.kept⟩
end Go.Proofs.IR

/- part LK -/
/- What is looked at: slices.IndexFunc at sets, with the program's comparison, in the machine (by the kit's contracts). -/
namespace Go.Proofs.IR
open Go.Shelf Go.RowKit Go.Lib Go.Val
set_option maxRecDepth 100000
def find_ren : Go.Shelf.Ren := ⟨fun | 6 => 137 | n => n, fun | 22 => 22 | 23 => 35 | 25 => 44 | n => n, fun | n => n⟩
theorem find_lay : SlLaysH.n6 Tryz.prog find_ren := {
  mixed := by kernel_rfl
  f6 := ⟨Tryz.f137.name, by decide, Tryz.func137.trans (congrArg some (by kernel_rfl))⟩
  t0 := Tryz.underlying0
  a0 := Tryz.isAgg0
  z0 := Tryz.sizeOf0
  v0 := Tryz.zeroValue0
  t3 := Tryz.underlying3
  a3 := Tryz.isAgg3
  z3 := Tryz.sizeOf3
  v3 := Tryz.zeroValue3
  t4 := Tryz.underlying4
  a4 := Tryz.isAgg4
  z4 := Tryz.sizeOf4
  v4 := Tryz.zeroValue4
  t22 := Tryz.underlying22
  a22 := Tryz.isAgg22
  z22 := Tryz.sizeOf22
  v22 := Tryz.zeroValue22
  a23 := Tryz.isAgg35
  z23 := Tryz.sizeOf35
  t25 := Tryz.underlying44
  a25 := Tryz.isAgg44
  z25 := Tryz.sizeOf44
  v25 := Tryz.zeroValue44 }
def eq_ren : Go.Shelf.Ren := ⟨fun | 8 => 35 | n => n, fun | 22 => 35 | 24 => 74 | n => n, fun | n => n⟩
theorem eq_lay : SlLaysQ.n8 Tryz.prog eq_ren := {
  mixed := by kernel_rfl
  f8 := ⟨Tryz.f35.name, by decide, Tryz.func35.trans (congrArg some (by kernel_rfl))⟩
  t0 := Tryz.underlying0
  a0 := Tryz.isAgg0
  z0 := Tryz.sizeOf0
  v0 := Tryz.zeroValue0
  t3 := Tryz.underlying3
  a3 := Tryz.isAgg3
  z3 := Tryz.sizeOf3
  v3 := Tryz.zeroValue3
  t4 := Tryz.underlying4
  a4 := Tryz.isAgg4
  z4 := Tryz.sizeOf4
  v4 := Tryz.zeroValue4
  t22 := Tryz.underlying35
  a22 := Tryz.isAgg35
  z22 := Tryz.sizeOf35
  v22 := Tryz.zeroValue35 }
theorem neq_lay : NeqAt Tryz.prog 74 (fun x : TRange => .agg (encR x).toArray) (fun x y => decide (x = y)) := by
  refine ⟨fun x y w => ?_, GuardAt.agg (fun x : TRange => (encR x).toArray) (by kernel_rfl)⟩
  have h1 : RelV w (gh0 Tryz.prog w) (.agg [.int .i64 x.Low, .int .i64 x.High]) (.agg (encR x).toArray) := .agg _ _ (.cons _ _ _ _ rfl (.int _ _) (.cons _ _ _ _ rfl (.int _ _) .nil))
  have h2 : RelV w (gh0 Tryz.prog w) (.agg [.int .i64 y.Low, .int .i64 y.High]) (.agg (encR y).toArray) := .agg _ _ (.cons _ _ _ _ rfl (.int _ _) (.cons _ _ _ _ rfl (.int _ _) .nil))
  have he : eqD Tryz.prog 74 (.agg [.int .i64 x.Low, .int .i64 x.High]) (.agg [.int .i64 y.Low, .int .i64 y.High]) = some (x.Low == y.Low && (x.High == y.High && true)) :=
    eqD_of Tryz.underlying74 eqs74 eqg74 (eqF_cons (by simp [isAg, Tryz.underlying3]) (by simp [eqF1, Tryz.underlying3, scalarEq]) (eqF_cons (by simp [isAg, Tryz.underlying3]) (by simp [eqF1, Tryz.underlying3, scalarEq]) eqF_nil))
  have hr := run_eqD (P := Tryz.prog) (w := w) h1 h2 he
  have hb : (x.Low == y.Low && (x.High == y.High && true)) = decide (x = y) := by
    rw [Bool.eq_iff_iff]; cases x; cases y; simp
  rw [hb] at hr
  simp [binOp, Sem.run_bind, hr]
set_option maxHeartbeats 2000000 in
/-- Lists of unlike lengths. -/
theorem eq_lens (a1 a2 : Option Addr) (n c m d : Nat) (w : World) (hnm : n ≠ m) : Calls Tryz.prog 35 #[.slice a1 n c, .slice a2 m d] w fun e w' => e = .returned (.bool false) ∧ ∃ q, w' = w.drewN q := by
  have hnm' : ¬ (n : Int) = (m : Int) := by omega
  go_enter Tryz.func35, Tryz.ntmps35
  go_wp2
  go_ret
  exact ⟨rfl, 0, rfl⟩
set_option maxHeartbeats 2000000 in
/-- Two that are empty. -/
theorem eq_none (a1 a2 : Option Addr) (c d : Nat) (w : World) : Calls Tryz.prog 35 #[.slice a1 0 c, .slice a2 0 d] w fun e w' => e = .returned (.bool true) ∧ ∃ q, w' = w.drewN q := by
  go_enter Tryz.func35, Tryz.ntmps35
  go_wp2
  go_loopg [13] 0 (fun _ s13 wr => s13 = .int .i64 0 ∧ wr = w)
  case atStart => exact ⟨rfl, rfl⟩
  case round =>
    obtain ⟨rfl, rfl⟩ := hrel
    go_wp2
    go_ret
    exact ⟨rfl, 0, rfl⟩
variable {w : World} {G : Gh}
theorem list_eq {l m : List TRange} : Lib.allEq (fun x y => decide (x = y)) l m = decide (l = m) := by
  induction l generalizing m with
  | nil => cases m <;> simp [Lib.allEq]
  | cons a l ih =>
    cases m with
    | nil => simp [Lib.allEq]
    | cons b m => simp only [Lib.allEq, ih]; rw [Bool.eq_iff_iff]; simp
/-- Ranges that came in, in the machine. -/
def RngAt (w : World) (l : List TRange) (v : Value) : Prop :=
  (l = [] ∧ ∃ a cap, v = .slice a 0 cap) ∨ l ≠ [] ∧ ∃ b off cap, v = .slice (some ⟨b, off, none⟩) l.length cap ∧ b < w.heap.size ∧ ∀ j, j < l.length → ∀ i u, (encR l[j]!)[i]? = some u → w.cell? ⟨b, off + j * 2 + i, none⟩ = some u
theorem rng_in {l : List TRange} {v : Value} (h : RelV w G (.sl (l.map eRange)) v) : RngAt w l v := by
  generalize hd : DVal.sl (l.map eRange) = d at h
  cases h with
  | nilsl a cap =>
    have : l = [] := by simpa using hd
    exact .inl ⟨this, a, cap, rfl⟩
  | sl xs ad cap k vs hne hcap hg hb hs hk hr hc =>
    obtain rfl : l.map eRange = xs := by simpa using hd
    have hvs := vals_of hr
    refine .inr ⟨fun e => hne (by rw [e]; rfl), ad.block, ad.off, cap, by cases ad; simp_all, hb, fun j hj i u hu => ?_⟩
    have hi : i < 2 := by have := (List.getElem?_eq_some_iff.1 hu).1; simpa [encR] using this
    have hget : vs[j * 2 + i]? = some u := by
      rw [hvs, flat_get l (j * 2 + i) (by omega)]
      have e1 : (j * 2 + i) / 2 = j := by omega
      have e2 : (j * 2 + i) % 2 = i := by omega
      rw [e1, e2]
      have e3 : l.toArray[j]! = l[j]! := by simp [Array.getElem!_eq_getD, Array.getD_eq_getD_getElem?, List.getElem!_eq_getElem?_getD]
      rw [e3]
      rw [List.getElem!_eq_getElem?_getD, hu]; rfl
    have := hc (j * 2 + i) u hget
    rw [← this]
    congr 1
    obtain ⟨blk, off, sp⟩ := ad
    simp only at hs
    subst hs
    by_cases h0 : j * 2 + i = 0
    · rw [h0]; simp only [Addr.add, if_true]; rw [show off + j * 2 + i = off by omega]
    · simp only [Addr.add, h0, if_false]
      rw [Nat.add_assoc]
  | _ => cases hd
theorem RngAt.later {W : World} {l : List TRange} {v : Value} (h : RngAt w l v) (hb : Below w.heap.size w W) : RngAt W l v := by
  rcases h with h | ⟨h1, b, off, cap, h2, h3, h4⟩
  · exact .inl h
  · exact .inr ⟨h1, b, off, cap, h2, Nat.lt_of_lt_of_le h3 hb.size, fun j hj i u hu => by rw [hb.cell (p := ⟨b, off + j * 2 + i, none⟩) h3]; exact h4 j hj i u hu⟩
theorem eq_gives {l m : List TRange} {u v : Value} (hl : RngAt w l u) (hm : RngAt w m v) (h1 : l.length ≤ 140737488355328) (h2 : m.length ≤ 140737488355328) :
    Calls Tryz.prog 35 #[u, v] w fun e w' => e = .returned (.bool (decide (l = m))) ∧ ∃ q, w' = w.drewN q := by
  rcases hl with ⟨rfl, a, c, rfl⟩ | ⟨g1, b, off, c, rfl, g2, g3⟩
  · rcases hm with ⟨rfl, a', d, rfl⟩ | ⟨k1, b', off', d, rfl, k2, k3⟩
    · exact eq_none a a' c d w
    · rw [decide_eq_false (fun e => k1 e.symm)]
      exact eq_lens a _ 0 c m.length d w (fun e => k1 (List.length_eq_zero_iff.1 e.symm))
  · rcases hm with ⟨rfl, a', d, rfl⟩ | ⟨k1, b', off', d, rfl, k2, k3⟩
    · rw [decide_eq_false g1]
      exact eq_lens _ a' l.length c 0 d w (fun e => g1 (List.length_eq_zero_iff.1 e))
    · have hcon := AnyQ.slices_Equal eq_lay 2 Tryz.isAgg74 Tryz.sizeOf74 encR (fun _ => rfl) (fun x y => decide (x = y)) neq_lay b off l.length c b' off' m.length d l m w (Nat.le_refl _) (Nat.le_refl _) (by omega) (by omega) g3 k3
      rw [List.take_length, List.take_length, list_eq] at hcon
      exact hcon
/-- The program's comparison with a captured set. -/
theorem same_gives {l m : List TRange} {u v : Value} {b : Nat} (hl : RngAt w l u) (hm : RngAt w m v) (h1 : l.length ≤ 140737488355328) (h2 : m.length ≤ 140737488355328) (hc : w.cell? ⟨b, 0, none⟩ = some v) :
    Calls Tryz.prog 136 #[u, .pointer (some ⟨b, 0, none⟩)] w fun e w' => e = .returned (.bool (decide (l = m))) ∧ ∃ q, w' = w.drewN q := by
  have hcon := eq_gives hl hm h1 h2
  generalize decide (l = m) = r at hcon ⊢
  clear hl hm
  go_enter Tryz.func136, Tryz.ntmps136
  go_wp2_with (go_at_call 35; refine hcon.mono ?_; rintro e w' ⟨rfl, q', rfl⟩)
  go_ret
  exact ⟨rfl, _, rfl⟩
/-- A set that came in, and what it tells. -/
structure AtR (w : World) where
  v : Value
  l : List TRange
  ok : RngAt w l v
  len : l.length ≤ 140737488355328
instance : Inhabited (AtR w) := ⟨⟨.slice none 0 0, [], .inl ⟨rfl, none, 0, rfl⟩, by simp⟩⟩
theorem ats_of : ∀ {S : List (List TRange)} {vs : List Value}, RelCs w G (allCells (S.map (eL eRange))) vs → (∀ x ∈ S, x.length ≤ 140737488355328) → ∃ zs : List (AtR w), zs.map (fun z => z.v) = vs ∧ zs.map (fun z => z.l) = S
  | [], vs, h, _ => by
    have h' : RelCs w G [] vs := h
    cases h'; exact ⟨[], rfl, rfl⟩
  | s :: S, vs, h, hb => by
    have h' : RelCs w G (.sl (s.map eRange) :: allCells (S.map (eL eRange))) vs := h
    cases h' with
    | cons _ v _ vs _ h1 h2 =>
      obtain ⟨zs, e1, e2⟩ := ats_of h2 fun x hx => hb x (List.mem_cons_of_mem _ hx)
      exact ⟨⟨v, s, rng_in h1, hb s (by simp)⟩ :: zs, by rw [List.map_cons, e1], by rw [List.map_cons, e2]⟩
theorem idx_find (s : List TRange) (d : AtR w) : ∀ (zs : List (AtR w)) (i : Nat), Lib.idxByFrom (fun _ y => decide (y.l = s)) d zs i = findI s (zs.map fun z => z.l) (i : Int)
  | [], _ => rfl
  | z :: zs, i => by
    rw [List.map_cons, findI, Lib.idxByFrom, idx_find s d zs (i + 1)]
    by_cases h : z.l = s <;> simp [h]
theorem look_CT : ∀ g ds h out, CT.look g ds h out → Val.Enters CT.P g ∧ ∀ (w : World) (G : Gh) (vs : List Value), G.P = CT.P → RelArgs w G.lend .slot 0 (sval ds) vs → RelH w G h →
    Calls CT.P g vs.toArray w fun e w' => ∃ us, e = .returned (outVal us) ∧ RelOuts w' G out us ∧ w'.os = w.os ∧ w'.tape = w.tape ∧ w'.output = w.output ∧ w.heap.size ≤ w'.heap.size ∧ ∀ b, b < w.heap.size → w'.heap[b]? = w.heap[b]? := by
  intro g ds h out hl
  obtain ⟨rfl, S, s, l, i, rfl, hat, hf, rfl⟩ : lookL g ds h out := hl
  unfold findR at hf
  split at hf
  case isFalse => cases hf
  rename_i hbd
  obtain ⟨h1, h2, h3⟩ := hbd
  obtain rfl := Option.some.inj hf
  refine ⟨⟨Tryz.f137, _, Tryz.func137, rfl, by kernel_rfl⟩, fun w G vs hP hargs hh => ?_⟩
  obtain ⟨vS, vf, rfl, hvS, hvf⟩ : ∃ vS vf, vs = [vS, vf] ∧ RelV w G.lend (.sl (List.map (eL eRange) S)) vS ∧ RelV w G.lend (.fn 136 [] [.ptr (some (l, 0))]) vf := by
    have hargs' : RelArgs w G.lend .slot 0 [.cv (.val (.sl (List.map (eL eRange) S))), .cv (.val (.fn 136 [] [.ptr (some (l, 0))]))] vs := hargs
    cases hargs' with
    | cons _ c v xs1 vs a1 a2 =>
      cases a2 with
      | cons _ c' v' xs2 vs' b1 b2 =>
        cases b2
        exact ⟨v, v', rfl, a1, b1⟩
  obtain rfl : vf = .func (.func 136) #[] #[.pointer (some ⟨G.ι l, 0, none⟩)] := by
    cases hvf with
    | fn _ _ _ us vs k1 k2 =>
      have e1 : us = #[] := by
        cases hu : us.toList with
        | nil => exact Array.toList_inj.1 hu
        | cons u l => rw [hu] at k1; cases k1
      have e2 : vs = #[.pointer (some ⟨G.ι l, 0, none⟩)] := by
        cases hu : vs.toList with
        | nil => rw [hu] at k2; cases k2
        | cons u l' =>
          rw [hu] at k2
          cases k2 with
          | cons _ _ _ _ _ p1 p2 =>
            cases p2
            cases p1
            exact Array.toList_inj.1 hu
      rw [e1, e2]
  obtain ⟨_, hbx, arr, ty, fr, hheap, _, hbl, hbc⟩ := hh.obj l _ hat
  obtain ⟨v0, hv0⟩ : ∃ v0, arr.toList = [v0] := by
    have : arr.toList.length = 1 := hbl
    match hx : arr.toList, this with
    | [v0], _ => exact ⟨v0, rfl⟩
  have hrel0 : RelV w G (.sl (List.map eRange s)) v0 := (hbc 0 _ v0 rfl (by rw [hv0]; rfl)).1
  have hcell : w.cell? ⟨G.ι l, 0, none⟩ = some v0 := by
    simp only [World.cell?, hheap]
    rw [← Array.getElem?_toList, hv0]; rfl
  have hlt : G.ι l < w.heap.size := heap_lt hheap
  have hs := rng_in hrel0
  have fin : ∀ (e : Ending) (w' : World), (e = .returned (.int .i64 (findI s S 0)) ∧ ∃ q, w' = w.drewN q) → ∃ us, e = .returned (outVal us) ∧ RelOuts w' G [.cv (.val (.int .i64 (findI s S 0)))] us ∧ w'.os = w.os ∧ w'.tape = w.tape ∧ w'.output = w.output ∧ w.heap.size ≤ w'.heap.size ∧ ∀ b, b < w.heap.size → w'.heap[b]? = w.heap[b]? := by
    rintro e w' ⟨rfl, q, rfl⟩
    exact ⟨[.int .i64 (findI s S 0)], rfl, .cons _ _ _ _ (RelV.int _ _) .nil, rfl, rfl, rfl, Nat.le_refl _, fun _ _ => rfl⟩
  generalize hd : DVal.sl (List.map (eL eRange) S) = d at hvS
  cases hvS with
  | nilsl a cap =>
    have : S = [] := by simpa using hd
    subst this
    exact (AnyE.slices_IndexFunc_empty find_lay a cap _ w).mono fun e w' ⟨h1, h2⟩ => fin e w' ⟨h1, 0, h2⟩
  | sl xs ad cap k vs hne hcap hg hb hsp hk hr hc =>
    obtain rfl : List.map (eL eRange) S = xs := by simpa using hd
    obtain ⟨zs, e1, e2⟩ := ats_of (w := w) (by exact hr) h3
    obtain ⟨blk, off, sp⟩ := ad
    simp only at hsp
    subst hsp
    have hzl : zs.length = S.length := by rw [← e2]; simp
    have hp : PredAt Tryz.prog 136 #[.pointer (some ⟨G.ι l, 0, none⟩)] (fun z : AtR w => z.v) (fun z => decide (z.l = s)) w := fun W x hbW =>
      same_gives (x.ok.later hbW) (hs.later hbW) x.len h2 (by rw [hbW.cell (p := ⟨G.ι l, 0, none⟩) hlt]; exact hcell)
    have hcl : ∀ j, j < zs.length → w.cell? ⟨blk, off + j, none⟩ = some (zs[j]!).v := fun j hj => by
      have hget : vs[j]? = some (zs[j]!).v := by
        rw [← e1, List.getElem?_map, List.getElem!_eq_getElem?_getD, List.getElem?_eq_getElem hj]; rfl
      have := hc j _ hget
      rw [← this]
      congr 1
      by_cases h0 : j = 0
      · rw [h0]; simp only [Addr.add, if_true]; rfl
      · simp only [Addr.add, h0, if_false]
    have eg : ∀ args w, (callFunc 136 args).run Tryz.prog w = .ok (.enter 136 args) w := enters_of Tryz.func136 (by kernel_rfl) rfl
    have hcon := AnyE.slices_IndexFunc find_lay (fun z : AtR w => z.v) (fun z => decide (z.l = s)) 136 #[.pointer (some ⟨G.ι l, 0, none⟩)] eg blk off S.length cap zs w hp (by omega) (by omega) hcl
    have hidx : Lib.idxBy (fun _ y => decide (y.l = s)) (zs.take S.length) (default : AtR w) = findI s S 0 := by
      rw [List.take_of_length_le (by omega), Lib.idxBy, idx_find, e2]; rfl
    rw [hidx] at hcon
    have hlm : (List.map (eL eRange) S).length = S.length := by simp
    rw [hlm]
    exact hcon.mono fin
  | _ => cases hd
end Go.Proofs.IR

/- part LZ -/
/- All that is told by hand of SyntaxPrints' functions, in the machine. -/
namespace Go.Proofs.IR
open Go.Val
theorem hand_CT0 : ∀ f a h o h', CT0.hand f a h o h' → Sound CT0.P f a h fun o1 h1 => o1 = o ∧ h1 = h' := by
  intro f a h o h' hh
  obtain ⟨rfl, rfl, b, u, rfl, he, rfl⟩ : handL0 f a h o h' := hh
  exact decode_sound he
theorem ext_CT0 : ExtSound CT0 := ⟨hand_CT0, fun _ _ _ _ e => e.elim, ext_CT1.ext⟩
theorem mixedT : Tryz.prog.follows .mixedOrders = true := by kernel_rfl
theorem awake_sound (h : Heap) : Sound Tryz.prog 5 [] h fun o h' => o = [.cv (.val (.bool true))] ∧ h' = h :=
  sound_any (runs_sound ext_CT0 mixedT awake_runs) (fun _ _ e => e) (fun o e => by cases e) (fun o e => by
    obtain rfl := List.mem_singleton.1 e
    trivial) h
theorem hand_CT : ∀ f a h o h', CT.hand f a h o h' → Sound CT.P f a h fun o1 h1 => o1 = o ∧ h1 = h' := by
  intro f a h o h' hh
  obtain ⟨rfl, hh⟩ : handL f a h o h' := hh
  rcases hh with ⟨rfl, l, u, rfl, he, rfl⟩ | ⟨rfl, l, s, u, rfl, he, rfl⟩ | ⟨rfl, rfl, rfl⟩ | ⟨rfl, b, u, rfl, he, rfl⟩
  · exact set_sound he
  · exact join_sound he
  · exact awake_sound _
  · exact decode_sound he
theorem ext_all : ExtSound CT := ⟨hand_CT, look_CT, ext_CT1.ext⟩
end Go.Proofs.IR

/- part LW13 -/
/- scansion/scansionref08.Nodes runs as it is read off. -/
namespace Go.Val
set_option maxRecDepth 20000
open Go.Proofs
theorem scansionref08_Nodes_runs_r : ∀ (fu : Nat) (n : TNode) (most : Int) (deep : Int) {h : Heap} {a : Int} (e : scansionref08_Nodes.r fu n most deep = some a),
    Runs CT 13 [.cv (.val (.agg [.int .i64 n.Kind, .int .i64 n.Set, .sl (List.map eNode n.Kids)])), .cv (.val (.int .i64 most)), .cv (.val (.int .i64 deep))] h fun o h' => o = [.cv (.val (.int .i64 a))] ∧ h' = h := by
  intro fu
  induction fu with
  | zero => intros; rename_i e; simp [scansionref08_Nodes.r] at e
  | succ fu ih =>
    intro n most deep h a e
    refine Runs.start Tryz.f13 _ Tryz.func13 rfl (by rw [Tryz.ntmps13]; simp) (by rfl) (by rfl) (fun hwf hu => ?_)
    obtain ⟨D, hD, hr⟩ : ∃ D : Int → Prop, (∀ z, D z → z = a) ∧ Holds (scansionref08_Nodes.r (fu + 1) n most deep) D := ⟨fun z => z = a, fun _ h => h, Holds.intro e rfl⟩
    dsimp only [scansionref08_Nodes.r] at hr
    change wpCode _ _ _ _ _ ⟨[(0, .cv (.val (.agg [.int .i64 n.Kind, .int .i64 n.Set, .sl (List.map eNode n.Kids)]))), (1, .cv (.val (.int .i64 most))), (2, .cv (.val (.int .i64 deep)))], h.on []⟩
    refine w_seq ?_
    refine A_region ?_
    refine w_n ?_
    refine w_seq ?_
    refine A_region ?_
    refine w_n ?_
    refine w_seq ?_
    refine w_seq ?_
    refine A_region ?_
    refine w_n ?_
    refine w_K (D := D) (fun xX : Int => ⟨[(1, .cv (.val (.int .i64 most))), (7, .cv (.val (.int .i64 xX)))], h.on []⟩) (fun xX : Int => scansionref08_Nodes.k1 most xX) (fun xX s' hr ht => ?_) ?_
    · obtain ⟨k, rfl⟩ : ∃ z, z = xX := ⟨xX, rfl⟩
      dsimp only [scansionref08_Nodes.k1] at hr ht
      refine (w_nT ht ?_)
      refine w_seq ?_
      refine A_region ?_
      refine w_n ?_
      refine w_ret ?_
      obtain rfl := hD _ hr
      exact (A_endR (A_cut (os' := []) (sl := [(6, .cv (.val (.int .i64 (mn k most))))]) hwf) ⟨rfl, on_nil hwf⟩)
    · refine w_block ?_
      refine w_Loop (fun xX : (Int × Int) => ⟨[(1, .cv (.val (.int .i64 most))), (2, .cv (.val (.int .i64 deep))), (3, .cv (.val (.ptr (some (h.n + 0, 0))))), (7, .cv (.val (.int .i64 xX.1))), (8, .cv (.val (.int .i64 xX.2)))], h.on [some (.cells [.val (.int .i64 n.Kind), .val (.int .i64 n.Set), .val (.sl (List.map eNode n.Kids))])]⟩) hr (A_cut hwf) (fun W1 xX hr => ?_)
      obtain ⟨k1, i⟩ := xX
      dsimp only [scansionref08_Nodes.b1] at hr
      refine w_seq ?_
      refine w_seq ?_
      refine A_region ?_
      refine w_n ?_
      refine A_condH hr (fun cF1 hr => ?_) (fun cF1 hr => ?_)
      · refine w_skip ?_
        refine w_n ?_
        refine w_seq ?_
        refine w_block ?_
        refine w_seq ?_
        refine w_joinR (sj := ⟨[(1, .cv (.val (.int .i64 most))), (2, .cv (.val (.int .i64 deep))), (3, .cv (.val (.ptr (some (h.n + 0, 0))))), (7, .cv (.val (.int .i64 k1))), (8, .cv (.val (.int .i64 i))), (22, .cv (.val (.bool ((decide (k1 ≥ most)) || (decide (deep ≤ (0 : Int)))))))], h.on [some (.cells [.val (.int .i64 n.Kind), .val (.int .i64 n.Set), .val (.sl (List.map eNode n.Kids))])]⟩) (A_ops ?_) ?_
        · refine A_upto 4 ?_
          rcases Bool.eq_false_or_eq_true (decide (k1 ≥ most)) with cF2 | cF2
          · refine A_ops_end ?_
            exact w_k (A_cut hwf)
          · refine A_ops_end ?_
            exact w_k (A_cut hwf)
        refine A_condH hr (fun cF3 hr => ?_) (fun cF3 hr => ?_)
        · refine w_seq ?_
          refine A_region ?_
          refine w_n ?_
          refine w_ret ?_
          obtain rfl := hD _ hr
          exact (w_tr (w_br (w_tr (w_tr (w_br (w_tr (w_tr (A_endR (A_cut (os' := []) (sl := [(6, .cv (.val (.int .i64 most)))]) hwf) ⟨rfl, on_nil hwf⟩))))))))
        · refine w_skip ?_
          refine w_n ?_
          refine A_ops ?_
          obtain ⟨x, nF4, eF5, gF6, hr⟩ := hr.idx
          refine A_upto 11 ?_
          obtain ⟨r, eF7, hr⟩ := hr.bind
          refine A_call (out := ?o_eF7) (hp := ?p_eF7) ?c_eF7 ?d_eF7 ?_
          case c_eF7 => exact ih x (IntKind.i64.wrap (most - k1)) (IntKind.i64.wrap (deep - (1 : Int))) eF7
          case d_eF7 => rfl
          refine A_ops_end ?_
          refine (w_bn (w_n ?_))
          refine A_region ?_
          exact (w_k ⟨((IntKind.i64.wrap (k1 + r)), (IntKind.i64.wrap (i + (1 : Int)))), hr, (A_cut hwf)⟩)
      · refine w_exit ?_
        exact (w_te (w_te (w_bx (w_k ⟨k1, (hr).map, (A_cut hwf)⟩))))
theorem scansionref08_Nodes_runs (n : TNode) (most : Int) (deep : Int) {h : Heap} {a : Int} (e : scansionref08_Nodes n most deep = some a) :
    Runs CT 13 [.cv (.val (.agg [.int .i64 n.Kind, .int .i64 n.Set, .sl (List.map eNode n.Kids)])), .cv (.val (.int .i64 most)), .cv (.val (.int .i64 deep))] h fun o h' => o = [.cv (.val (.int .i64 a))] ∧ h' = h := by
  obtain ⟨fuN, fuH⟩ := lim_some e
  exact scansionref08_Nodes_runs_r fuN n most deep (fuH fuN (Nat.le_refl fuN))
end Go.Val

/- part LW6 -/
/- scansion/scansionlaw08.few runs as it is read off. -/
namespace Go.Val
set_option maxRecDepth 20000
open Go.Proofs
theorem scansionlaw08_few_runs (p : TProgram) {h : Heap} {a : Bool} (e : scansionlaw08_few p = some a) :
    Runs CT 6 [.cv (.val (.agg [.sl (List.map (eL eRange) p.Sets), .sl (List.map eRule p.Rules)]))] h fun o h' => o = [.cv (.val (.bool a))] ∧ h' = h := by
  refine Runs.start Tryz.f6 _ Tryz.func6 rfl (by rw [Tryz.ntmps6]; simp) (by rfl) (by rfl) (fun hwf hu => ?_)
  obtain ⟨D, hD, hr⟩ : ∃ D : Bool → Prop, (∀ z, D z → z = a) ∧ Holds (scansionlaw08_few p) D := ⟨fun z => z = a, fun _ h => h, Holds.intro e rfl⟩
  dsimp only [scansionlaw08_few] at hr
  change wpCode _ _ _ _ _ ⟨[(0, .cv (.val (.agg [.sl (List.map (eL eRange) p.Sets), .sl (List.map eRule p.Rules)])))], h.on []⟩
  refine w_seq ?_
  refine A_region ?_
  refine w_n ?_
  refine w_seq ?_
  refine w_joinR (sj := ⟨[(1, .cv (.val (.ptr (some (h.n + 0, 0))))), (14, .cv (.val (.bool ((decide ((p.Sets.length : Int) > (70 : Int))) || (decide ((p.Rules.length : Int) > (70 : Int)))))))], h.on [some (.cells [.val (.sl (List.map (eL eRange) p.Sets)), .val (.sl (List.map eRule p.Rules))])]⟩) (A_ops ?_) ?_
  · refine A_upto 5 ?_
    rcases Bool.eq_false_or_eq_true (decide ((p.Sets.length : Int) > (70 : Int))) with cF1 | cF1
    · refine A_ops_end ?_
      exact w_k (A_cut hwf)
    · refine A_ops_end ?_
      exact w_k (A_cut hwf)
  refine A_condH hr (fun cF2 hr => ?_) (fun cF2 hr => ?_)
  · refine w_seq ?_
    refine A_region ?_
    refine w_n ?_
    refine w_ret ?_
    obtain rfl := hD _ hr
    exact (w_tr (A_endR (A_cut (os' := []) (sl := [(2, .cv (.val (.bool false)))]) hwf) ⟨rfl, on_nil hwf⟩))
  · refine w_skip ?_
    refine w_n ?_
    refine w_seq ?_
    refine w_seq ?_
    refine A_region ?_
    refine w_n ?_
    refine w_K (D := D) (fun xX : Unit => ⟨[(1, .cv (.val (.ptr (some (h.n + 0, 0)))))], h.on [some (.cells [.val (.sl (List.map (eL eRange) p.Sets)), .val (.sl (List.map eRule p.Rules))])]⟩) (fun xX : Unit => scansionlaw08_few.k1 p) (fun xX s' hr ht => ?_) ?_
    · dsimp only [scansionlaw08_few.k1] at hr ht
      refine (w_nT ht ?_)
      refine w_seq ?_
      refine w_seq ?_
      refine A_region ?_
      refine w_n ?_
      refine w_K (D := D) (fun xX : Unit => ⟨[], h.on []⟩) (fun xX : Unit => scansionlaw08_few.k2) (fun xX s' hr ht => ?_) ?_
      · dsimp only [scansionlaw08_few.k2] at hr ht
        refine (w_nT ht ?_)
        refine w_seq ?_
        refine A_region ?_
        refine w_n ?_
        refine w_ret ?_
        obtain rfl := hD _ hr
        exact (A_endR (A_cut (os' := []) (sl := [(2, .cv (.val (.bool true)))]) hwf) ⟨rfl, on_nil hwf⟩)
      · refine w_block ?_
        refine w_Loop (fun xX : Int => ⟨[(1, .cv (.val (.ptr (some (h.n + 0, 0))))), (4, .cv (.val (.int .i64 xX)))], h.on [some (.cells [.val (.sl (List.map (eL eRange) p.Sets)), .val (.sl (List.map eRule p.Rules))])]⟩) hr (A_cut hwf) (fun W1 xX hr => ?_)
        obtain ⟨i, rfl⟩ : ∃ z, z = xX := ⟨xX, rfl⟩
        dsimp only [scansionlaw08_few.b1] at hr
        refine w_seq ?_
        refine w_seq ?_
        refine A_region ?_
        refine w_n ?_
        refine A_condH hr (fun cF3 hr => ?_) (fun cF3 hr => ?_)
        · refine w_skip ?_
          refine w_n ?_
          refine w_seq ?_
          refine w_block ?_
          obtain ⟨v1, vF10, hr⟩ := hr.bind
          refine w_joinR (sj := ⟨[(1, .cv (.val (.ptr (some (h.n + 0, 0))))), (4, .cv (.val (.int .i64 i))), (53, .cv (.val (.bool v1)))], h.on [some (.cells [.val (.sl (List.map (eL eRange) p.Sets)), .val (.sl (List.map eRule p.Rules))])]⟩) (A_ops ?_) ?_
          · have hr := Holds.intro (D := fun z => z = v1) vF10 rfl
            obtain ⟨x, nF4, eF5, gF6, hr⟩ := hr.idx
            refine A_upto 6 ?_
            obtain ⟨r, eF7, hr⟩ := hr.bind
            refine A_call (out := ?o_eF7) (hp := ?p_eF7) ?c_eF7 ?d_eF7 ?_
            case c_eF7 => exact scansionref08_Nodes_runs x.Left (150 : Int) (60 : Int) eF7
            case d_eF7 => rfl
            refine A_upto 2 ?_
            rcases hr.ite with ⟨cF8, hr⟩ | ⟨cF8, hr⟩
            · refine A_upto 6 ?_
              refine A_off ?_
              refine A_ops_end ?_
              obtain rfl : _ = v1 := hr
              exact w_k (A_cut hwf)
            · refine A_upto 6 ?_
              obtain ⟨r1, eF9, hr⟩ := hr.bind
              refine A_call (out := ?o_eF9) (hp := ?p_eF9) ?c_eF9 ?d_eF9 ?_
              case c_eF9 => exact scansionref08_Nodes_runs x.Right (150 : Int) (60 : Int) eF9
              case d_eF9 => rfl
              refine A_ops_end ?_
              obtain rfl : _ = v1 := hr
              exact w_k (A_cut hwf)
          refine A_condH hr (fun cF11 hr => ?_) (fun cF11 hr => ?_)
          · refine w_seq ?_
            refine A_region ?_
            refine w_n ?_
            refine w_ret ?_
            obtain rfl := hD _ hr
            exact (w_br (w_tr (w_tr (w_br (w_tr (w_tr (A_endR (A_cut (os' := []) (sl := [(2, .cv (.val (.bool false)))]) hwf) ⟨rfl, on_nil hwf⟩)))))))
          · refine w_skip ?_
            refine (w_bn (w_n ?_))
            refine A_region ?_
            exact (w_k ⟨(IntKind.i64.wrap (i + (1 : Int))), hr, (A_cut hwf)⟩)
        · refine w_exit ?_
          exact (w_te (w_te (w_bx (w_k ⟨(), (hr).map, (A_cut hwf)⟩))))
    · refine w_block ?_
      refine w_Loop (fun xX : Int => ⟨[(1, .cv (.val (.ptr (some (h.n + 0, 0))))), (3, .cv (.val (.int .i64 xX)))], h.on [some (.cells [.val (.sl (List.map (eL eRange) p.Sets)), .val (.sl (List.map eRule p.Rules))])]⟩) hr (A_cut hwf) (fun W2 xX hr => ?_)
      obtain ⟨i1, rfl⟩ : ∃ z, z = xX := ⟨xX, rfl⟩
      dsimp only [scansionlaw08_few.b2] at hr
      refine w_seq ?_
      refine w_seq ?_
      refine A_region ?_
      refine w_n ?_
      refine A_condH hr (fun cF12 hr => ?_) (fun cF12 hr => ?_)
      · refine w_skip ?_
        refine w_n ?_
        refine w_seq ?_
        refine w_block ?_
        refine w_seq ?_
        obtain ⟨xs, nF13, eF14, gF15, hr⟩ := hr.idx
        refine A_region ?_
        refine w_n ?_
        refine A_condH hr (fun cF16 hr => ?_) (fun cF16 hr => ?_)
        · refine w_seq ?_
          refine A_region ?_
          refine w_n ?_
          refine w_ret ?_
          obtain rfl := hD _ hr
          exact (w_br (w_tr (w_tr (w_br (w_tr (w_tr (A_endR (A_cut (os' := []) (sl := [(2, .cv (.val (.bool false)))]) hwf) ⟨rfl, on_nil hwf⟩)))))))
        · refine w_skip ?_
          refine (w_bn (w_n ?_))
          refine A_region ?_
          exact (w_k ⟨(IntKind.i64.wrap (i1 + (1 : Int))), hr, (A_cut hwf)⟩)
      · refine w_exit ?_
        exact (w_te (w_te (w_bx (w_k ⟨(), (hr).map, (A_cut hwf)⟩))))
end Go.Val

/- part LW53 -/
/- scansion/ranges.Make$1 runs as it is read off. -/
namespace Go.Val
set_option maxRecDepth 20000
open Go.Proofs
theorem ranges_Make_1_runs (x : TRange) {h : Heap} {a : Bool} (e : ranges_Make_1 x = some a) :
    Runs CT 53 [.cv (.val (.agg [.int .i64 x.Low, .int .i64 x.High]))] h fun o h' => o = [.cv (.val (.bool a))] ∧ h' = h := by
  refine Runs.start Tryz.f53 _ Tryz.func53 rfl (by rw [Tryz.ntmps53]; simp) (by rfl) (by rfl) (fun hwf hu => ?_)
  obtain ⟨D, hD, hr⟩ : ∃ D : Bool → Prop, (∀ z, D z → z = a) ∧ Holds (ranges_Make_1 x) D := ⟨fun z => z = a, fun _ h => h, Holds.intro e rfl⟩
  dsimp only [ranges_Make_1] at hr
  change wpCode _ _ _ _ _ ⟨[(0, .cv (.val (.agg [.int .i64 x.Low, .int .i64 x.High])))], h.on []⟩
  refine w_seq ?_
  refine A_region ?_
  refine w_n ?_
  refine w_joinR (sj := ⟨[(2, .cv (.val (.bool ((decide (x.Low < (0 : Int))) || ((decide (x.High > (1114111 : Int))) || (decide (x.Low > x.High)))))))], h.on []⟩) (A_ops ?_) ?_
  · refine A_upto 4 ?_
    rcases Bool.eq_false_or_eq_true (decide (x.Low < (0 : Int))) with cF1 | cF1
    · refine A_ops_end ?_
      exact w_k (A_cut hwf)
    · refine A_upto 5 ?_
      rcases Bool.eq_false_or_eq_true (decide (x.High > (1114111 : Int))) with cF2 | cF2
      · refine A_ops_end ?_
        exact w_k (A_cut hwf)
      · refine A_ops_end ?_
        exact w_k (A_cut hwf)
  refine w_ret ?_
  obtain rfl := hD _ hr
  exact (A_endR (A_cut (os' := []) (sl := [(2, .cv (.val (.bool ((decide (x.Low < (0 : Int))) || ((decide (x.High > (1114111 : Int))) || (decide (x.Low > x.High)))))))]) hwf) ⟨rfl, on_nil hwf⟩)
end Go.Val

/- part LW81 -/
/- slices.IndexFunc[[]scansion/api.Range,scansion/api.Range] runs as it is read off. -/
namespace Go.Val
set_option maxRecDepth 20000
open Go.Proofs
theorem slices_IndexFunc_api_Range_api_Range_runs (s : List TRange) (f : TRange → Option Bool) (fid_f : FuncId) (caps_f : List DVal) {h : Heap} (h_f : ∀ os x0 r, f x0 = some r → Runs CT fid_f ([.cv (.val (.agg [.int .i64 x0.Low, .int .i64 x0.High]))] ++ sval caps_f) (h.on os) fun o h' => o = [.cv (.val (.bool r))] ∧ h' = h.on os) (d_f : ∀ i, CT.how fid_f i = .data) {a : Int} (e : slices_IndexFunc_api_Range_api_Range s f = some a) :
    Runs CT 81 [.cv (.val (.sl (List.map eRange s))), .cv (.val (.fn fid_f [] caps_f))] h fun o h' => o = [.cv (.val (.int .i64 a))] ∧ h' = h := by
  refine Runs.start Tryz.f81 _ Tryz.func81 rfl (by rw [Tryz.ntmps81]; simp) (by rfl) (by rfl) (fun hwf hu => ?_)
  have u_f : underL h.n caps_f := (hu (.cv (.val (.fn fid_f [] caps_f))) (by simp)).2
  have vu_f := fun k => under_add (k := k) u_f
  obtain ⟨D, hD, hr⟩ : ∃ D : Int → Prop, (∀ z, D z → z = a) ∧ Holds (slices_IndexFunc_api_Range_api_Range s f) D := ⟨fun z => z = a, fun _ h => h, Holds.intro e rfl⟩
  dsimp only [slices_IndexFunc_api_Range_api_Range] at hr
  change wpCode _ _ _ _ _ ⟨[(0, .cv (.val (.sl (List.map eRange s)))), (1, .cv (.val (.fn fid_f [] caps_f)))], h.on []⟩
  refine w_seq ?_
  refine A_region ?_
  refine w_n ?_
  refine w_seq ?_
  refine w_seq ?_
  refine A_region ?_
  refine w_n ?_
  refine w_K (D := D) (fun xX : Unit => ⟨[], h.on []⟩) (fun xX : Unit => slices_IndexFunc_api_Range_api_Range.k1) (fun xX s' hr ht => ?_) ?_
  · dsimp only [slices_IndexFunc_api_Range_api_Range.k1] at hr ht
    refine (w_nT ht ?_)
    refine w_seq ?_
    refine A_region ?_
    refine w_n ?_
    refine w_ret ?_
    obtain rfl := hD _ hr
    exact (A_endR (A_cut (os' := []) (sl := [(4, .cv (.val (.int .i64 (-1 : Int))))]) hwf) ⟨rfl, on_nil hwf⟩)
  · refine w_block ?_
    refine w_Loop (fun xX : Int => ⟨[(0, .cv (.val (.sl (List.map eRange s)))), (1, .cv (.val (.fn fid_f [] caps_f))), (7, .cv (.val (.int .i64 (s.length : Int)))), (8, .cv (.val (.int .i64 xX)))], h.on []⟩) hr (A_cut hwf) (fun W1 xX hr => ?_)
    obtain ⟨v, rfl⟩ : ∃ z, z = xX := ⟨xX, rfl⟩
    dsimp only [slices_IndexFunc_api_Range_api_Range.b1] at hr
    refine w_seq ?_
    refine A_region ?_
    refine w_n ?_
    refine w_seq ?_
    refine A_condH hr (fun cF1 hr => ?_) (fun cF1 hr => ?_)
    · refine w_skip ?_
      refine w_n ?_
      refine w_seq ?_
      refine w_block ?_
      refine w_seq ?_
      refine A_region ?_
      refine w_n ?_
      refine w_seq ?_
      refine A_ops ?_
      obtain ⟨x, nF2, eF3, gF4, hr⟩ := hr.idx
      refine A_upto 5 ?_
      obtain ⟨r, eF5, hr⟩ := hr.bind
      refine A_call (out := ?o_eF5) (hp := ?p_eF5) ?c_eF5 ?d_eF5 ?_
      case c_eF5 => exact h_f _ _ _ eF5
      case d_eF5 => rfl
      refine w_ops_nil ?_
      refine w_n ?_
      refine A_condH hr (fun cF6 hr => ?_) (fun cF6 hr => ?_)
      · refine w_seq ?_
        refine A_region ?_
        refine w_n ?_
        refine w_ret ?_
        obtain rfl := hD _ hr
        exact (w_br (w_tr (w_tr (w_br (w_tr (w_tr (A_endR (A_cut (os' := []) (sl := [(4, .cv (.val (.int .i64 v)))]) hwf) ⟨rfl, on_nil hwf⟩)))))))
      · refine w_skip ?_
        refine (w_bn (w_n ?_))
        refine A_region ?_
        exact (w_k ⟨(IntKind.i64.wrap (v + (1 : Int))), hr, (A_cut hwf)⟩)
    · refine w_exit ?_
      exact (w_te (w_te (w_bx (w_k ⟨(), (hr).map, (A_cut hwf)⟩))))
end Go.Val

/- part LW54 -/
/- slices.ContainsFunc[[]scansion/api.Range,scansion/api.Range] runs as it is read off. -/
namespace Go.Val
set_option maxRecDepth 20000
open Go.Proofs
theorem slices_ContainsFunc_api_Range_api_Range_runs (s : List TRange) (f : TRange → Option Bool) (fid_f : FuncId) (caps_f : List DVal) {h : Heap} (h_f : ∀ os x0 r, f x0 = some r → Runs CT fid_f ([.cv (.val (.agg [.int .i64 x0.Low, .int .i64 x0.High]))] ++ sval caps_f) (h.on os) fun o h' => o = [.cv (.val (.bool r))] ∧ h' = h.on os) (d_f : ∀ i, CT.how fid_f i = .data) {a : Bool} (e : slices_ContainsFunc_api_Range_api_Range s f = some a) :
    Runs CT 54 [.cv (.val (.sl (List.map eRange s))), .cv (.val (.fn fid_f [] caps_f))] h fun o h' => o = [.cv (.val (.bool a))] ∧ h' = h := by
  refine Runs.start Tryz.f54 _ Tryz.func54 rfl (by rw [Tryz.ntmps54]; simp) (by rfl) (by rfl) (fun hwf hu => ?_)
  have u_f : underL h.n caps_f := (hu (.cv (.val (.fn fid_f [] caps_f))) (by simp)).2
  have vu_f := fun k => under_add (k := k) u_f
  obtain ⟨D, hD, hr⟩ : ∃ D : Bool → Prop, (∀ z, D z → z = a) ∧ Holds (slices_ContainsFunc_api_Range_api_Range s f) D := ⟨fun z => z = a, fun _ h => h, Holds.intro e rfl⟩
  dsimp only [slices_ContainsFunc_api_Range_api_Range] at hr
  change wpCode _ _ _ _ _ ⟨[(0, .cv (.val (.sl (List.map eRange s)))), (1, .cv (.val (.fn fid_f [] caps_f)))], h.on []⟩
  refine w_seq ?_
  refine A_region ?_
  refine w_n ?_
  refine w_seq ?_
  refine A_ops ?_
  refine A_upto 2 ?_
  obtain ⟨r, eF1, hr⟩ := hr.bind
  refine A_call (out := ?o_eF1) (hp := ?p_eF1) ?c_eF1 ?d_eF1 ?_
  case c_eF1 => (refine slices_IndexFunc_api_Range_api_Range_runs s f _ _ ?_ ?_ eF1; (exact (fun os x0 r e => by rw [on_on]; exact h_f _ x0 r e)); (exact d_f))
  case d_eF1 => rfl
  refine A_ops_end ?_
  refine w_n ?_
  refine w_ret ?_
  obtain rfl := hD _ hr
  exact (A_endR (A_cut (os' := []) (sl := [(4, .cv (.val (.bool (decide (r ≥ (0 : Int))))))]) hwf) ⟨rfl, on_nil hwf⟩)
end Go.Val

/- part LW55 -/
/- slices.Clone at ranges: by hand (an empty slice may be nil, or not). -/
namespace Go.Val
set_option maxRecDepth 20000
open Go.Proofs
theorem slices_Clone_api_Range_api_Range_runs (s : List TRange) {h : Heap} {a : List TRange} (e : slices_Clone_api_Range_api_Range s = some a) :
    Runs CT 55 [.cv (.val (.sl (List.map eRange s)))] h fun o h' => o = [.cv (.row 74 (List.map eRange a))] ∧ h' = h := by
  refine Runs.start Tryz.f55 _ Tryz.func55 rfl (by rw [Tryz.ntmps55]; simp) (by rfl) (by rfl) (fun hwf hu => ?_)
  have hr : Holds (slices_Clone_api_Range_api_Range s) (fun z => z = a) := Holds.intro e rfl
  unfold slices_Clone_api_Range_api_Range at hr
  obtain ⟨nF1, hr⟩ := hr.room
  obtain rfl : s = a := hr
  change wpCode _ _ _ _ _ ⟨[(0, .cv (.val (.sl (List.map eRange s))))], h.on []⟩
  refine w_seq ?_
  refine A_region ?_
  refine w_n ?_
  refine w_seq ?_
  refine w_seq ?_
  refine A_ops ?_
  refine A_upto 1 ?_
  refine w_nilCmp rfl Tryz.underlying35 (by simp (disch := (apply Apart.mk; decide)) only [go_sem, Nat.reduceAdd, Nat.reduceLT]; rfl) (fun b hb => ?_)
  refine w_ops_nil ?_
  refine w_n ?_
  cases b with
  | true =>
    have hs : s = [] := by
      cases s with
      | nil => rfl
      | cons x l => exact absurd (hb (by simp)) (by simp)
    subst hs
    refine A_cond true (fun _ => ?_) (fun e => by cases e)
    refine w_seq ?_
    refine A_region ?_
    refine w_n ?_
    refine w_ret ?_
    exact (w_tr (A_endR (A_cut (os' := []) (sl := [(2, .cv (.row 74 (List.map eRange ([] : List TRange))))]) hwf) ⟨rfl, on_nil hwf⟩))
  | false =>
    refine A_cond false (fun e => by cases e) (fun _ => ?_)
    refine w_skip ?_
    refine w_n ?_
    refine w_seq ?_
    refine A_region ?_
    refine w_n ?_
    refine w_ret ?_
    exact (A_endR (A_cut (os' := []) (sl := [(2, .cv (.row 74 (List.map eRange s)))]) hwf) ⟨rfl, on_nil hwf⟩)
end Go.Val

/- part LW59 -/
/- scansion/ranges.put runs as it is read off. -/
namespace Go.Val
set_option maxRecDepth 20000
open Go.Proofs
theorem ranges_put_runs (l : List TRange) (x : TRange) {h : Heap} {a : List TRange} (e : ranges_put l x = some a) :
    Runs CT 59 [.cv (.row 74 (List.map eRange l)), .cv (.val (.agg [.int .i64 x.Low, .int .i64 x.High]))] h fun o h' => o = [.cv (.row 74 (List.map eRange a))] ∧ h' = h := by
  refine Runs.start Tryz.f59 _ Tryz.func59 rfl (by rw [Tryz.ntmps59]; simp) (by rfl) (by rfl) (fun hwf hu => ?_)
  obtain ⟨D, hD, hr⟩ : ∃ D : List TRange → Prop, (∀ z, D z → z = a) ∧ Holds (ranges_put l x) D := ⟨fun z => z = a, fun _ h => h, Holds.intro e rfl⟩
  dsimp only [ranges_put] at hr
  change wpCode _ _ _ _ _ ⟨[(0, .cv (.row 74 (List.map eRange l))), (1, .cv (.val (.agg [.int .i64 x.Low, .int .i64 x.High])))], h.on []⟩
  refine w_seq ?_
  refine A_region ?_
  refine w_n ?_
  refine w_seq ?_
  refine A_region ?_
  refine w_n ?_
  refine w_seq ?_
  obtain ⟨v, vF5, hr⟩ := hr.bind
  refine w_joinR (sj := ⟨[(0, .cv (.row 74 (List.map eRange l))), (3, .cv (.val (.ptr (some (h.n + 0, 0))))), (5, .cv (.val (.int .i64 (l.length : Int)))), (21, .cv (.val (.bool v)))], h.on [some (.cells [.val (.int .i64 x.Low), .val (.int .i64 x.High)])]⟩) (w_drawn [0, 1, 2, 3, 4, 5, 6, 7, 8, 9, 10, 11, 12, 13] (by rfl) ?_) ?_
  · have hr := Holds.intro (D := fun z => z = v) vF5 rfl
    refine A_prun [0, 1, 2] [2, 1, 0] ?_
    rcases hr.ite with ⟨cF1, hr⟩ | ⟨cF1, hr⟩
    · obtain ⟨x1, nF2, eF3, gF4, hr⟩ := hr.idx
      refine A_prun [3, 4, 5, 6, 7, 8, 9, 10, 11, 12, 13] [13, 12, 11, 10, 9, 8, 7, 6, 5, 4, 3, 2, 1, 0] ?_
      refine A_pend ?_
      obtain rfl : _ = v := hr
      exact w_k (A_cut hwf)
    · refine A_prun [3, 4, 5, 6, 7, 8, 9, 10, 11, 12, 13] [13, 12, 11, 10, 9, 8, 7, 6, 5, 4, 3, 2, 1, 0] ?_
      refine A_pend ?_
      obtain rfl : _ = v := hr
      exact w_k (A_cut hwf)
  refine A_condH hr (fun cF6 hr => ?_) (fun cF6 hr => ?_)
  · refine w_seq ?_
    refine w_drawn [0, 1, 2, 3, 4, 5, 6, 7, 8, 9, 10, 11, 12, 13, 14] (by rfl) ?_
    obtain ⟨x2, nF7, eF8, gF9, hr⟩ := hr.idx
    refine A_prun [0, 1, 2, 3, 4, 5, 6, 7, 8, 9, 10, 11, 12, 13] [13, 12, 11, 10, 9, 8, 7, 6, 5, 4, 3, 2, 1, 0] ?_
    refine A_pop [] ?_
    refine A_pend ?_
    refine w_n ?_
    refine w_seq ?_
    refine A_region ?_
    refine w_n ?_
    refine w_ret ?_
    obtain rfl := hD _ hr
    exact (w_tr (A_endR (A_cut (os' := []) (sl := [(4, .cv (.row 74 (List.map eRange (List.set l (Int.toNat (IntKind.i64.wrap ((l.length : Int) - (1 : Int)))) (TRange.mk x2.Low (mx x2.High x.High))))))]) hwf) ⟨rfl, on_nil hwf⟩))
  · refine w_skip ?_
    refine w_n ?_
    refine w_seq ?_
    obtain ⟨nF10, hr⟩ := hr.room
    refine A_region ?_
    refine w_n ?_
    refine w_ret ?_
    obtain rfl := hD _ hr
    exact (A_endR (A_cut (os' := []) (sl := [(4, .cv (.row 74 (List.map eRange (l ++ ([x])))))]) hwf) ⟨rfl, on_nil hwf⟩)
end Go.Val

/- part LW34 -/
/- scansion/ranges.Make runs as it is read off. -/
namespace Go.Val
set_option maxRecDepth 20000
open Go.Proofs
theorem ranges_Make_runs (l : List TRange) {h : Heap} {a : (List TRange × Int)} (e : ranges_Make l = some a) :
    Runs CT 34 [.cv (.val (.sl (List.map eRange l)))] h fun o h' => o = [.cv (.val (.sl (List.map eRange a.1))), .cv (.val (.int .i64 a.2))] ∧ h' = h := by
  refine Runs.start Tryz.f34 _ Tryz.func34 rfl (by rw [Tryz.ntmps34]; simp) (by rfl) (by rfl) (fun hwf hu => ?_)
  obtain ⟨D, hD, hr⟩ : ∃ D : (List TRange × Int) → Prop, (∀ z, D z → z = a) ∧ Holds (ranges_Make l) D := ⟨fun z => z = a, fun _ h => h, Holds.intro e rfl⟩
  dsimp only [ranges_Make] at hr
  change wpCode _ _ _ _ _ ⟨[(0, .cv (.val (.sl (List.map eRange l))))], h.on []⟩
  refine w_seq ?_
  refine A_region ?_
  refine w_n ?_
  refine w_seq ?_
  refine A_region ?_
  refine w_n ?_
  refine w_seq ?_
  refine w_seq ?_
  refine A_ops ?_
  refine A_upto 2 ?_
  obtain ⟨r, eF1, hr⟩ := hr.bind
  refine A_call (out := ?o_eF1) (hp := ?p_eF1) ?c_eF1 ?d_eF1 ?_
  case c_eF1 => (refine slices_ContainsFunc_api_Range_api_Range_runs l (ranges_Make_1) _ _ ?_ ?_ eF1; (exact (fun os x0 r e => ranges_Make_1_runs x0 e)); (exact (fun i => by simp [CT])))
  case d_eF1 => rfl
  refine w_ops_nil ?_
  refine w_n ?_
  refine A_condH hr (fun cF2 hr => ?_) (fun cF2 hr => ?_)
  · refine w_seq ?_
    refine A_region ?_
    refine w_n ?_
    refine w_ret ?_
    obtain rfl := hD _ hr
    exact (w_tr (A_endR (A_cut (os' := []) (sl := [(2, .cv (.val (.sl (List.map eRange ([] : List TRange))))), (3, .cv (.val (.int .i64 (1 : Int))))]) hwf) ⟨rfl, on_nil hwf⟩))
  · refine w_skip ?_
    refine w_n ?_
    refine w_seq ?_
    refine A_ops ?_
    refine A_upto 1 ?_
    obtain ⟨r1, eF3, hr⟩ := hr.bind
    refine A_call (out := ?o_eF3) (hp := ?p_eF3) ?c_eF3 ?d_eF3 ?_
    case c_eF3 => exact slices_Clone_api_Range_api_Range_runs l eF3
    case d_eF3 => rfl
    refine A_ops_end ?_
    refine w_n ?_
    refine w_seq ?_
    refine A_ops ?_
    refine A_upto 1 ?_
    obtain ⟨l1, eF4, hr⟩ := hr.bind
    refine w_ext  rfl (by simp (disch := (apply Apart.mk; decide)) only [go_sem, Nat.reduceAdd, Nat.reduceLT, Nat.reduceMul, Nat.reduceLeDiff, Int.reduceToNat, Int.reduceLT, Int.reduceLE, Option.getD_some] <;> rfl) rfl (by simp (disch := (apply Apart.mk; decide)) only [go_sem, Nat.reduceAdd, Nat.reduceLT, Nat.reduceMul, Nat.reduceLeDiff, Int.reduceToNat, Int.reduceLT, Int.reduceLE, Option.getD_some] <;> rfl) (by simp (disch := (apply Apart.mk; decide)) only [go_sem, Nat.reduceAdd, Nat.reduceLT, Nat.reduceMul, Nat.reduceLeDiff, Int.reduceToNat, Int.reduceLT, Int.reduceLE, Option.getD_some] <;> rfl) (by simp (disch := (apply Apart.mk; decide)) only [go_sem, Nat.reduceAdd, Nat.reduceLT, Nat.reduceMul, Nat.reduceLeDiff, Int.reduceToNat, Int.reduceLT, Int.reduceLE, Option.getD_some] <;> rfl) (by rfl) (ext_sortR eF4) ?_
    refine w_ops_nil ?_
    refine w_n ?_
    refine w_seq ?_
    refine A_region ?_
    refine w_n ?_
    refine w_seq ?_
    refine w_seq ?_
    refine A_region ?_
    refine w_n ?_
    refine w_K (D := D) (fun xX : List TRange => ⟨[(6, .cv (.row 74 (List.map eRange xX)))], h.on []⟩) (fun xX : List TRange => ranges_Make.k1 xX) (fun xX s' hr ht => ?_) ?_
    · obtain ⟨out, rfl⟩ : ∃ z, z = xX := ⟨xX, rfl⟩
      dsimp only [ranges_Make.k1] at hr ht
      refine (w_nT ht ?_)
      refine w_seq ?_
      refine A_region ?_
      refine w_n ?_
      refine w_ret ?_
      obtain rfl := hD _ hr
      exact (A_endR (.fix _ _ (.slot 2) 74 _ (by simp (disch := (apply Apart.mk; decide)) only [go_sem, Nat.reduceAdd, Nat.reduceLT, Nat.reduceMul, Nat.reduceLeDiff, Int.reduceToNat, Int.reduceLT, Int.reduceLE, cF2]; rfl) (A_cut (os' := []) (sl := [(2, .cv (.val (.sl (List.map eRange out)))), (3, .cv (.val (.int .i64 (0 : Int))))]) hwf)) ⟨rfl, on_nil hwf⟩)
    · refine w_block ?_
      refine w_Loop (fun xX : (List TRange × Int) => ⟨[(5, .cv (.row 74 (List.map eRange l1))), (6, .cv (.row 74 (List.map eRange xX.1))), (16, .alias (.slot 5)), (17, .cv (.val (.int .i64 (l1.length : Int)))), (18, .cv (.val (.int .i64 xX.2)))], h.on []⟩) hr (A_cut hwf) (fun W1 xX hr => ?_)
      obtain ⟨out1, v⟩ := xX
      dsimp only [ranges_Make.b1] at hr
      refine w_seq ?_
      refine A_region ?_
      refine w_n ?_
      refine w_seq ?_
      refine A_condH hr (fun cF5 hr => ?_) (fun cF5 hr => ?_)
      · refine w_skip ?_
        refine w_n ?_
        refine w_seq ?_
        refine w_block ?_
        refine w_seq ?_
        obtain ⟨x, nF6, eF7, gF8, hr⟩ := hr.idx
        refine A_region ?_
        refine w_n ?_
        refine A_ops ?_
        refine A_upto 2 ?_
        obtain ⟨r2, eF9, hr⟩ := hr.bind
        refine A_call (out := ?o_eF9) (hp := ?p_eF9) ?c_eF9 ?d_eF9 ?_
        case c_eF9 => exact ranges_put_runs out1 x eF9
        case d_eF9 => rfl
        refine A_ops_end ?_
        refine (w_bn (w_n ?_))
        refine A_region ?_
        exact (w_k ⟨(r2, (IntKind.i64.wrap (v + (1 : Int)))), hr, (A_cut hwf)⟩)
      · refine w_exit ?_
        exact (w_te (w_te (w_bx (w_k ⟨out1, (hr).map, (A_cut hwf)⟩))))
end Go.Val

/- part LW35 -/
/- slices.Equal[[]scansion/api.Range,scansion/api.Range] runs as it is read off. -/
namespace Go.Val
set_option maxRecDepth 20000
open Go.Proofs
theorem slices_Equal_api_Range_api_Range_runs (s1 : List TRange) (s2 : List TRange) {h : Heap} {a : Bool} (e : slices_Equal_api_Range_api_Range s1 s2 = some a) :
    Runs CT 35 [.cv (.val (.sl (List.map eRange s1))), .cv (.val (.sl (List.map eRange s2)))] h fun o h' => o = [.cv (.val (.bool a))] ∧ h' = h := by
  refine Runs.start Tryz.f35 _ Tryz.func35 rfl (by rw [Tryz.ntmps35]; simp) (by rfl) (by rfl) (fun hwf hu => ?_)
  obtain ⟨D, hD, hr⟩ : ∃ D : Bool → Prop, (∀ z, D z → z = a) ∧ Holds (slices_Equal_api_Range_api_Range s1 s2) D := ⟨fun z => z = a, fun _ h => h, Holds.intro e rfl⟩
  dsimp only [slices_Equal_api_Range_api_Range] at hr
  change wpCode _ _ _ _ _ ⟨[(0, .cv (.val (.sl (List.map eRange s1)))), (1, .cv (.val (.sl (List.map eRange s2))))], h.on []⟩
  refine w_seq ?_
  refine A_region ?_
  refine w_n ?_
  refine w_seq ?_
  refine w_seq ?_
  refine A_region ?_
  refine w_n ?_
  refine A_condH hr (fun cF1 hr => ?_) (fun cF1 hr => ?_)
  · refine w_seq ?_
    refine A_region ?_
    refine w_n ?_
    refine w_ret ?_
    obtain rfl := hD _ hr
    exact (w_tr (A_endR (A_cut (os' := []) (sl := [(4, .cv (.val (.bool false)))]) hwf) ⟨rfl, on_nil hwf⟩))
  · refine w_skip ?_
    refine w_n ?_
    refine w_seq ?_
    refine w_seq ?_
    refine A_region ?_
    refine w_n ?_
    refine w_K (D := D) (fun xX : Unit => ⟨[], h.on []⟩) (fun xX : Unit => slices_Equal_api_Range_api_Range.k1) (fun xX s' hr ht => ?_) ?_
    · dsimp only [slices_Equal_api_Range_api_Range.k1] at hr ht
      refine (w_nT ht ?_)
      refine w_seq ?_
      refine A_region ?_
      refine w_n ?_
      refine w_ret ?_
      obtain rfl := hD _ hr
      exact (A_endR (A_cut (os' := []) (sl := [(4, .cv (.val (.bool true)))]) hwf) ⟨rfl, on_nil hwf⟩)
    · refine w_block ?_
      refine w_Loop (fun xX : Int => ⟨[(0, .cv (.val (.sl (List.map eRange s1)))), (1, .cv (.val (.sl (List.map eRange s2)))), (12, .cv (.val (.int .i64 (s1.length : Int)))), (13, .cv (.val (.int .i64 xX)))], h.on []⟩) hr (A_cut hwf) (fun W1 xX hr => ?_)
      obtain ⟨v, rfl⟩ : ∃ z, z = xX := ⟨xX, rfl⟩
      dsimp only [slices_Equal_api_Range_api_Range.b1] at hr
      refine w_seq ?_
      refine A_region ?_
      refine w_n ?_
      refine w_seq ?_
      refine A_condH hr (fun cF2 hr => ?_) (fun cF2 hr => ?_)
      · refine w_skip ?_
        refine w_n ?_
        refine w_seq ?_
        refine w_block ?_
        refine w_seq ?_
        refine A_region ?_
        refine w_n ?_
        refine w_seq ?_
        refine w_drawn [0, 1, 2, 3, 4, 5, 6, 7, 8] (by rfl) ?_
        obtain ⟨x, nF3, eF4, gF5, hr⟩ := hr.idx
        obtain ⟨x1, nF6, eF7, gF8, hr⟩ := hr.idx
        refine A_prun [0, 1, 2, 3, 4, 5, 6, 7, 8] [8, 7, 6, 5, 4, 3, 2, 1, 0] ?_
        refine A_pend ?_
        refine w_n ?_
        refine A_condH hr (fun cF9 hr => ?_) (fun cF9 hr => ?_)
        · refine w_seq ?_
          refine A_region ?_
          refine w_n ?_
          refine w_ret ?_
          obtain rfl := hD _ hr
          exact (w_br (w_tr (w_tr (w_br (w_tr (w_tr (A_endR (A_cut (os' := []) (sl := [(4, .cv (.val (.bool false)))]) hwf) ⟨rfl, on_nil hwf⟩)))))))
        · refine w_skip ?_
          refine (w_bn (w_n ?_))
          refine A_region ?_
          exact (w_k ⟨(IntKind.i64.wrap (v + (1 : Int))), hr, (A_cut hwf)⟩)
      · refine w_exit ?_
        exact (w_te (w_te (w_bx (w_k ⟨(), (hr).map, (A_cut hwf)⟩))))
end Go.Val

/- part LW16 -/
/- scansion/syntax.set runs as it is read off. -/
namespace Go.Val
set_option maxRecDepth 20000
open Go.Proofs
theorem syntax_set_runs (l : List TRange) {h : Heap} {a : Bool} (e : syntax_set l = some a) :
    Runs CT 16 [.cv (.val (.sl (List.map eRange l)))] h fun o h' => o = [.cv (.val (.bool a))] ∧ h' = h := by
  refine Runs.start Tryz.f16 _ Tryz.func16 rfl (by rw [Tryz.ntmps16]; simp) (by rfl) (by rfl) (fun hwf hu => ?_)
  obtain ⟨D, hD, hr⟩ : ∃ D : Bool → Prop, (∀ z, D z → z = a) ∧ Holds (syntax_set l) D := ⟨fun z => z = a, fun _ h => h, Holds.intro e rfl⟩
  dsimp only [syntax_set] at hr
  change wpCode _ _ _ _ _ ⟨[(0, .cv (.val (.sl (List.map eRange l))))], h.on []⟩
  refine w_seq ?_
  refine A_region ?_
  refine w_n ?_
  refine w_seq ?_
  refine A_ops ?_
  refine A_upto 1 ?_
  obtain ⟨r, eF1, hr⟩ := hr.bind
  refine A_call (out := ?o_eF1) (hp := ?p_eF1) ?c_eF1 ?d_eF1 ?_
  case c_eF1 => exact ranges_Make_runs l eF1
  case d_eF1 => rfl
  refine A_ops_end ?_
  refine w_n ?_
  obtain ⟨v, vF4, hr⟩ := hr.bind
  refine w_joinR (sj := ⟨[(2, .cv (.val (.bool v)))], h.on []⟩) (A_ops ?_) ?_
  · have hr := Holds.intro (D := fun z => z = v) vF4 rfl
    refine A_upto 3 ?_
    rcases hr.ite with ⟨cF2, hr⟩ | ⟨cF2, hr⟩
    · refine A_upto 2 ?_
      obtain ⟨r1, eF3, hr⟩ := hr.bind
      refine A_call (out := ?o_eF3) (hp := ?p_eF3) ?c_eF3 ?d_eF3 ?_
      case c_eF3 => exact slices_Equal_api_Range_api_Range_runs r.1 l eF3
      case d_eF3 => rfl
      refine A_ops_end ?_
      obtain rfl : _ = v := hr
      exact w_k (A_cut hwf)
    · refine A_upto 2 ?_
      refine A_off ?_
      refine A_ops_end ?_
      obtain rfl : _ = v := hr
      exact w_k (A_cut hwf)
  refine w_ret ?_
  obtain rfl := hD _ hr
  exact (A_endR (A_cut (os' := []) (sl := [(2, .cv (.val (.bool v)))]) hwf) ⟨rfl, on_nil hwf⟩)
end Go.Val

/- part LW17 -/
/- lex_Set is told by hand. -/
namespace Go.Val
theorem lex_Set_runs (b : List TRange) {h : Heap} {u : Str} (e : lex_Set b = some u) :
    Runs CT 17 [.cv (.val (.sl (List.map eRange b)))] h fun o h' => o = [.cv (.val (.str (bs u)))] ∧ h' = h :=
  Runs.hand (C := CT) (show handL 17 _ h _ h from ⟨rfl, .inl ⟨rfl, b, u, rfl, e, rfl⟩⟩) ⟨rfl, rfl⟩
end Go.Val

/- part LW39 -/
/- scansion/syntax.signed runs as it is read off. -/
namespace Go.Val
set_option maxRecDepth 20000
open Go.Proofs
theorem syntax_signed_runs (n : TNode) {h : Heap} {a : Bool} (e : syntax_signed n = some a) :
    Runs CT 39 [.cv (.val (.agg [.int .i64 n.Kind, .int .i64 n.Set, .sl (List.map eNode n.Kids)]))] h fun o h' => o = [.cv (.val (.bool a))] ∧ h' = h := by
  refine Runs.start Tryz.f39 _ Tryz.func39 rfl (by rw [Tryz.ntmps39]; simp) (by rfl) (by rfl) (fun hwf hu => ?_)
  obtain ⟨D, hD, hr⟩ : ∃ D : Bool → Prop, (∀ z, D z → z = a) ∧ Holds (syntax_signed n) D := ⟨fun z => z = a, fun _ h => h, Holds.intro e rfl⟩
  dsimp only [syntax_signed] at hr
  change wpCode _ _ _ _ _ ⟨[(0, .cv (.val (.agg [.int .i64 n.Kind, .int .i64 n.Set, .sl (List.map eNode n.Kids)])))], h.on []⟩
  refine w_seq ?_
  refine A_region ?_
  refine w_n ?_
  refine w_joinR (sj := ⟨[(2, .cv (.val (.bool ((decide (n.Kind ≥ (3 : Int))) && (decide (n.Kind ≤ (5 : Int)))))))], h.on []⟩) (A_ops ?_) ?_
  · refine A_upto 4 ?_
    rcases Bool.eq_false_or_eq_true (decide (n.Kind ≥ (3 : Int))) with cF1 | cF1
    · refine A_ops_end ?_
      exact w_k (A_cut hwf)
    · refine A_ops_end ?_
      exact w_k (A_cut hwf)
  refine w_ret ?_
  obtain rfl := hD _ hr
  exact (A_endR (A_cut (os' := []) (sl := [(2, .cv (.val (.bool ((decide (n.Kind ≥ (3 : Int))) && (decide (n.Kind ≤ (5 : Int)))))))]) hwf) ⟨rfl, on_nil hwf⟩)
end Go.Val

/- part LW40 -/
/- scansion/syntax.fits runs as it is read off. -/
namespace Go.Val
set_option maxRecDepth 20000
open Go.Proofs
theorem syntax_fits_runs (n : TNode) {h : Heap} {a : Bool} (e : syntax_fits n = some a) :
    Runs CT 40 [.cv (.val (.agg [.int .i64 n.Kind, .int .i64 n.Set, .sl (List.map eNode n.Kids)]))] h fun o h' => o = [.cv (.val (.bool a))] ∧ h' = h := by
  refine Runs.start Tryz.f40 _ Tryz.func40 rfl (by rw [Tryz.ntmps40]; simp) (by rfl) (by rfl) (fun hwf hu => ?_)
  obtain ⟨D, hD, hr⟩ : ∃ D : Bool → Prop, (∀ z, D z → z = a) ∧ Holds (syntax_fits n) D := ⟨fun z => z = a, fun _ h => h, Holds.intro e rfl⟩
  dsimp only [syntax_fits] at hr
  change wpCode _ _ _ _ _ ⟨[(0, .cv (.val (.agg [.int .i64 n.Kind, .int .i64 n.Set, .sl (List.map eNode n.Kids)])))], h.on []⟩
  refine w_seq ?_
  refine A_region ?_
  refine w_n ?_
  refine w_seq ?_
  refine w_seq ?_
  refine A_region ?_
  refine w_n ?_
  refine w_block ?_
  refine w_seq ?_
  refine A_region ?_
  refine w_n ?_
  refine A_condH hr (fun cF1 hr => ?_) (fun cF1 hr => ?_)
  · refine w_seq ?_
    refine A_region ?_
    refine w_n ?_
    refine w_ret ?_
    obtain rfl := hD _ hr
    exact (w_br (w_tr (A_endR (A_cut (os' := []) (sl := [(2, .cv (.val (.bool ((n.Kids.length : Int) != (1 : Int)))))]) hwf) ⟨rfl, on_nil hwf⟩)))
  · refine w_seq ?_
    refine A_region ?_
    refine w_n ?_
    refine A_condH hr (fun cF2 hr => ?_) (fun cF2 hr => ?_)
    · refine w_seq ?_
      refine A_region ?_
      refine w_n ?_
      refine w_ret ?_
      obtain rfl := hD _ hr
      exact (w_br (w_tr (A_endR (A_cut (os' := []) (sl := [(2, .cv (.val (.bool (decide ((n.Kids.length : Int) > (1 : Int))))))]) hwf) ⟨rfl, on_nil hwf⟩)))
    · refine w_skip ?_
      refine (w_bn (w_n ?_))
      obtain ⟨v, vF5, hr⟩ := hr.bind
      refine w_joinR (sj := ⟨[(2, .cv (.val (.bool v)))], h.on []⟩) (A_ops ?_) ?_
      · have hr := Holds.intro (D := fun z => z = v) vF5 rfl
        refine A_upto 1 ?_
        obtain ⟨r, eF3, hr⟩ := hr.bind
        refine A_call (out := ?o_eF3) (hp := ?p_eF3) ?c_eF3 ?d_eF3 ?_
        case c_eF3 => exact syntax_signed_runs n eF3
        case d_eF3 => rfl
        refine A_upto 1 ?_
        rcases hr.ite with ⟨cF4, hr⟩ | ⟨cF4, hr⟩
        · refine A_ops_end ?_
          obtain rfl : _ = v := hr
          exact w_k (A_cut hwf)
        · refine A_ops_end ?_
          obtain rfl : _ = v := hr
          exact w_k (A_cut hwf)
      refine w_ret ?_
      obtain rfl := hD _ hr
      exact (A_endR (A_cut (os' := []) (sl := [(2, .cv (.val (.bool v)))]) hwf) ⟨rfl, on_nil hwf⟩)
end Go.Val

/- part LW30 -/
/- scansion/syntax.open runs as it is read off. -/
namespace Go.Val
set_option maxRecDepth 20000
open Go.Proofs
theorem syntax_open_runs (of : TNode) (n : TNode) {h : Heap} {a : Bool} (e : syntax_open of n = some a) :
    Runs CT 30 [.cv (.val (.agg [.int .i64 of.Kind, .int .i64 of.Set, .sl (List.map eNode of.Kids)])), .cv (.val (.agg [.int .i64 n.Kind, .int .i64 n.Set, .sl (List.map eNode n.Kids)]))] h fun o h' => o = [.cv (.val (.bool a))] ∧ h' = h := by
  refine Runs.start Tryz.f30 _ Tryz.func30 rfl (by rw [Tryz.ntmps30]; simp) (by rfl) (by rfl) (fun hwf hu => ?_)
  obtain ⟨D, hD, hr⟩ : ∃ D : Bool → Prop, (∀ z, D z → z = a) ∧ Holds (syntax_open of n) D := ⟨fun z => z = a, fun _ h => h, Holds.intro e rfl⟩
  dsimp only [syntax_open] at hr
  change wpCode _ _ _ _ _ ⟨[(0, .cv (.val (.agg [.int .i64 of.Kind, .int .i64 of.Set, .sl (List.map eNode of.Kids)]))), (1, .cv (.val (.agg [.int .i64 n.Kind, .int .i64 n.Set, .sl (List.map eNode n.Kids)])))], h.on []⟩
  refine w_seq ?_
  refine A_region ?_
  refine w_n ?_
  refine w_joinR (sj := ⟨[(4, .cv (.val (.bool ((n.Kind == (2 : Int)) || ((n.Kind == (0 : Int)) && (of.Kind != (2 : Int)))))))], h.on []⟩) (A_ops ?_) ?_
  · refine A_upto 4 ?_
    rcases Bool.eq_false_or_eq_true (n.Kind == (2 : Int)) with cF1 | cF1
    · refine A_ops_end ?_
      exact w_k (A_cut hwf)
    · refine A_upto 4 ?_
      rcases Bool.eq_false_or_eq_true (n.Kind == (0 : Int)) with cF2 | cF2
      · refine A_ops_end ?_
        exact w_k (A_cut hwf)
      · refine A_ops_end ?_
        exact w_k (A_cut hwf)
  refine w_ret ?_
  obtain rfl := hD _ hr
  exact (A_endR (A_cut (os' := []) (sl := [(4, .cv (.val (.bool ((n.Kind == (2 : Int)) || ((n.Kind == (0 : Int)) && (of.Kind != (2 : Int)))))))]) hwf) ⟨rfl, on_nil hwf⟩)
end Go.Val
