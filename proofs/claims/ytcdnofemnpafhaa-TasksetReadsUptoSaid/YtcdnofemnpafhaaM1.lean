/- An interpreter of the program's code over abstract values (numbers, rows that are only read, blocks of the call's own): definitions. Conditions: none. -/
import Derived.Calls
import Derived.Laws.AppendOwn
namespace Go.Proofs.YtcdnofemnpafhaaM
set_option linter.unusedVariables false
set_option linter.unusedSimpArgs false
set_option linter.unnecessarySimpa false
set_option linter.unusedSectionVars false
open Go

inductive Ty where
  | int (k : IntKind)
  | bool
  | str
  | ro (t : Ty)
  | unit
  | pair (a b : Ty)
  deriving DecidableEq

@[reducible] def Ty.den : Ty → Type
  | .int _ => Int
  | .bool => Bool
  | .str => ByteArray
  | .ro t => List t.den
  | .unit => Unit
  | .pair a b => a.den × b.den

def Ty.sz : Ty → Nat
  | .unit => 0
  | .pair a b => a.sz + b.sz
  | _ => 1

def Ty.noRo : Ty → Bool
  | .ro _ => false
  | .pair a b => a.noRo && b.noRo
  | _ => true

def Ty.own : Ty → Bool
  | .ro u => u.noRo && decide (0 < u.sz)
  | .pair a b => a.noRo && b.own
  | _ => false
def Ty.inn : Ty → Ty
  | .ro u => u
  | .pair _ b => b.inn
  | _ => .unit
def getL : (t : Ty) → t.den → List t.inn.den
  | .ro _, l => l
  | .pair _ b, x => getL b x.2
  | .int _, _ => []
  | .bool, _ => []
  | .str, _ => []
  | .unit, _ => []
def setL : (t : Ty) → t.den → List t.inn.den → t.den
  | .ro _, _, m => m
  | .pair _ b, x, m => (x.1, setL b x.2 m)
  | .int _, x, _ => x
  | .bool, x, _ => x
  | .str, x, _ => x
  | .unit, x, _ => x

def Ty.dflt : (t : Ty) → t.den
  | .int _ => (0 : Int)
  | .bool => false
  | .str => (⟨#[]⟩ : ByteArray)
  | .ro _ => []
  | .unit => ()
  | .pair a b => (a.dflt, b.dflt)

inductive Cell where
  | int (k : IntKind) (n : Int)
  | bool (b : Bool)
  | str (s : ByteArray)
  | ro (t : Ty) (l : List t.den)
  | nils
  | full (b : Nat)
  | part (b off len : Nat)
  | ptr (b i o : Nat)
  | arr (b o n i : Nat)
  | rop (t : Ty) (x : t.den) (o : Nat)
  | nilp
  | fn (f : Nat) (b : Nat)
  | sfn (f : Nat)
  | nilf
  | map (b : Nat)
  | nilm
  | yl (b : Nat)
  | vsl (b n : Nat)
  | lnk (c i : Nat)
  | nptr (c i o : Nat)
  | hole (b o c i : Nat)
  | ofull (b : Nat)
  | optr (b i o : Nat)
  | oin (b i n : Nat)
  | oip (b i k o : Nat)
  | top

inductive V1 where
  | one (c : Cell)
  | agg (cs : List Cell)

inductive AV where
  | v (x : V1)
  | tup (vs : List V1)

inductive Blk where
  | dead
  | var (T : TypeId) (cs : List Cell)
  | row (T : TypeId) (t : Ty) (l : List t.den)
  | clo (fn : Nat) (first cap : List V1)
  | map (kt vt : Ty) (m : List (kt.den × vt.den))
  | yld (f : Nat) (a : List V1) (d : Bool)
  | chn (T : TypeId) (t : Ty) (l : List t.den)
  | own (T : TypeId) (t : Ty) (l : List t.den)

structure St where
  env : List AV
  H : List Blk

def AV.top : AV := .v (.one .top)

def V1.cells : V1 → List Cell
  | .one x => [x]
  | .agg cs => cs

def V1.cells? : V1 → Option (List Cell)
  | .one .top => none
  | .one x => some [x]
  | .agg cs => some cs

def enc : (t : Ty) → t.den → List Cell
  | .int k, n => [.int k n]
  | .bool, b => [.bool b]
  | .str, s => [.str s]
  | .ro t, l => [.ro t l]
  | .unit, _ => []
  | .pair a b, x => enc a x.1 ++ enc b x.2

def dec : (t : Ty) → List Blk → List Cell → Option (t.den × List Cell × List Blk)
  | .int k, H, .int k' n :: r => if k' = k then some (n, r, H) else none
  | .bool, H, .bool b :: r => some (b, r, H)
  | .str, H, .str s :: r => some (s, r, H)
  | .ro t, H, .ro t' l :: r => if h : t' = t then some (h ▸ l, r, H) else none
  | .ro _, H, .nils :: r => some ([], r, H)
  | .ro t, H, .full b :: r =>
    match H[b]? with
    | some (.row _ t' l) => if h : t' = t then some (h ▸ l, r, H.set b .dead) else none
    | _ => none
  | .unit, H, r => some ((), r, H)
  | .pair a b, H, r =>
    match dec a H r with
    | some (x, r1, H1) =>
      match dec b H1 r1 with
      | some (y, r2, H2) => some ((x, y), r2, H2)
      | none => none
    | none => none
  | _, _, _ => none

def decAll (t : Ty) (H : List Blk) (cs : List Cell) : Option (t.den × List Blk) :=
  match dec t H cs with
  | some (x, [], H') => some (x, H')
  | _ => none

def cellOf : Value → Cell
  | .int k n => .int k n
  | .bool b => .bool b
  | .string s => .str s
  | .slice none 0 0 => .nils
  | .pointer none => .nilp
  | .nilFunc => .nilf
  | .map none => .nilm
  | _ => .top

def v1Of : Value → V1
  | .agg cs => if cs.toList.all fun u => match u with | .agg _ | .tuple _ => false | _ => true then .agg (cs.toList.map cellOf) else .one .top
  | v => .one (cellOf v)

def evalV (env : List AV) : Operand → AV
  | .tmp t => env.getD t AV.top
  | .const v => .v (v1Of v)
  | .func f => .v (.one (.sfn f))
  | .global _ => AV.top

section
variable (P : Program)

def isAggT (t : TypeId) : Bool :=
  match P.underlying t with
  | some (.struct _) | some (.array _ _) => true
  | _ => false

def tyOf : Nat → TypeId → Option Ty
  | 0, _ => none
  | n + 1, t =>
    match P.underlying t with
    | some (.int k) => some (.int k)
    | some .bool => some .bool
    | some .string => some .str
    | some (.slice e) => (tyOf n e).map .ro
    | some (.struct fs) => pairs n (fs.toList.map (·.type))
    | some (.array m e) => (tyOf n e).map fun t => rep t m
    | _ => none
where
  pairs : Nat → List TypeId → Option Ty
    | _, [] => some .unit
    | 0, _ => none
    | n + 1, [t] => tyOf n t
    | n + 1, t :: r => match tyOf n t, pairs n r with
      | some a, some b => some (.pair a b)
      | _, _ => none
  rep (t : Ty) : Nat → Ty
    | 0 => .unit
    | 1 => t
    | m + 1 => .pair t (rep t m)
end

end Go.Proofs.YtcdnofemnpafhaaM

/- An interpreter of the program's code over abstract values: its steps. Conditions: none. -/
namespace Go.Proofs.YtcdnofemnpafhaaM
set_option linter.unusedVariables false
set_option linter.unusedSimpArgs false
set_option linter.unnecessarySimpa false
set_option linter.unusedSectionVars false
open Go

/-! ### Renaming of blocks -/
def Cell.ren (f : Nat → Option Nat) : Cell → Cell
  | .full b => match f b with | some x => .full x | none => .top
  | .part b o n => match f b with | some x => .part x o n | none => .top
  | .ptr b i o => match f b with | some x => .ptr x i o | none => .top
  | .arr b o n i => match f b with | some x => .arr x o n i | none => .top
  | .fn g b => match f b with | some x => .fn g x | none => .top
  | .map b => match f b with | some x => .map x | none => .top
  | .yl b => match f b with | some x => .yl x | none => .top
  | .vsl b n => match f b with | some x => .vsl x n | none => .top
  | .lnk c i => match f c with | some x => .lnk x i | none => .top
  | .nptr c i o => match f c with | some x => .nptr x i o | none => .top
  | .hole b o c i => match f b, f c with | some x, some y => .hole x o y i | _, _ => .top
  | .ofull b => match f b with | some x => .ofull x | none => .top
  | .optr b i o => match f b with | some x => .optr x i o | none => .top
  | .oin b i n => match f b with | some x => .oin x i n | none => .top
  | .oip b i k o => match f b with | some x => .oip x i k o | none => .top
  | c => c
def V1.ren (f : Nat → Option Nat) : V1 → V1
  | .one c => .one (c.ren f)
  | .agg cs => .agg (cs.map (Cell.ren f))
def AV.ren (f : Nat → Option Nat) : AV → AV
  | .v x => .v (x.ren f)
  | .tup vs => .tup (vs.map (V1.ren f))
def Blk.ren (f : Nat → Option Nat) : Blk → Blk
  | .var T cs => .var T (cs.map (Cell.ren f))
  | .clo g a b => .clo g (a.map (V1.ren f)) (b.map (V1.ren f))
  | .yld g a n => .yld g (a.map (V1.ren f)) n
  | B => B
def Cell.ids : Cell → List Nat
  | .full b => [b]
  | .part b _ _ => [b]
  | .ptr b _ _ => [b]
  | .arr b _ _ _ => [b]
  | .fn _ b => [b]
  | .map b => [b]
  | .yl b => [b]
  | .vsl b _ => [b]
  | .lnk c _ => [c]
  | .nptr c _ _ => [c]
  | .hole b _ c _ => [b, c]
  | .ofull b => [b]
  | .optr b _ _ => [b]
  | .oin b _ _ => [b]
  | .oip b _ _ _ => [b]
  | _ => []
def V1.ids (v : V1) : List Nat := v.cells.flatMap Cell.ids
def Blk.ids : Blk → List Nat
  | .var _ cs => cs.flatMap Cell.ids
  | .clo _ a b => (a ++ b).flatMap V1.ids
  | .yld _ a _ => a.flatMap V1.ids
  | _ => []
def reach (H : List Blk) : Nat → List Nat → List Nat → List Nat
  | 0, _, acc => acc
  | _, [], acc => acc
  | n + 1, b :: r, acc => if acc.contains b then reach H n r acc else reach H n (r ++ (H.getD b .dead).ids) (acc ++ [b])
def place : List Nat → Nat → Option Nat
  | [], _ => none
  | x :: r, b => if x = b then some 0 else (place r b).map (· + 1)
def pick (H : List Blk) (ρ : List Nat) : List Blk := ρ.map fun b => (H.getD b .dead).ren (place ρ)

/-! ### Shapes: what is told of values and blocks at a loop's head, of arguments, of results -/
inductive CS where
  | int (k : IntKind) | bool | str | ro (t : Ty) | full (b : Nat) | ptr (b o : Nat) | ptrI (b o : Nat) | nilp | fn (f b : Nat) | sfn (f : Nat) | map (b : Nat) | yl (b : Nat) | lnk (c : Nat) | lnkI (c : Nat) | hole (b o c : Nat) | ofull (b : Nat) | top
@[reducible] def CS.den : CS → Type
  | .int _ => Int
  | .bool => Bool
  | .str => ByteArray
  | .ro t => List t.den
  | .ptrI _ _ => Nat
  | .lnkI _ => Nat
  | .hole _ _ _ => Nat
  | _ => Unit
def CS.inj : (s : CS) → s.den → Cell
  | .int k, n => .int k n
  | .bool, b => .bool b
  | .str, x => .str x
  | .ro t, l => .ro t l
  | .full b, _ => .full b
  | .ptr b o, _ => .ptr b 0 o
  | .ptrI b o, i => .ptr b i o
  | .nilp, _ => .nilp
  | .fn f b, _ => .fn f b
  | .sfn f, _ => .sfn f
  | .map b, _ => .map b
  | .yl b, _ => .yl b
  | .lnk c, _ => .lnk c 0
  | .lnkI c, i => .lnk c i
  | .hole b o c, i => .hole b o c i
  | .ofull b, _ => .ofull b
  | .top, _ => .top
def CS.prj : (s : CS) → Cell → Option s.den
  | .int k, .int k' n => if k' = k then some n else none
  | .bool, .bool b => some b
  | .str, .str x => some x
  | .ro t, .ro t' l => if h : t' = t then some (h ▸ l) else none
  | .full b, .full b' => if b' = b then some () else none
  | .ptr b o, .ptr b' i o' => if b' = b then if i = 0 then if o' = o then some () else none else none else none
  | .ptrI b o, .ptr b' i o' => if b' = b then if o' = o then some i else none else none
  | .nilp, .nilp => some ()
  | .fn f b, .fn f' b' => if f' = f then if b' = b then some () else none else none
  | .sfn f, .sfn f' => if f' = f then some () else none
  | .map b, .map b' => if b' = b then some () else none
  | .yl b, .yl b' => if b' = b then some () else none
  | .ofull b, .ofull b' => if b' = b then some () else none
  | .lnk c, .lnk c' i => if c' = c then if i = 0 then some () else none else none
  | .lnkI c, .lnk c' i => if c' = c then some i else none
  | .hole b o c, .hole b' o' c' i => if b' = b then if o' = o then if c' = c then some i else none else none else none
  | .top, .top => some ()
  | _, _ => none

@[reducible] def CSs.den : List CS → Type
  | [] => Unit
  | s :: r => s.den × CSs.den r
def CSs.inj : (l : List CS) → CSs.den l → List Cell
  | [], _ => []
  | s :: r, x => s.inj x.1 :: CSs.inj r x.2
def CSs.prj : (l : List CS) → List Cell → Option (CSs.den l)
  | [], [] => some ()
  | s :: r, c :: cs => match s.prj c, CSs.prj r cs with
    | some a, some b => some (a, b)
    | _, _ => none
  | _, _ => none

inductive VS where
  | one (s : CS)
  | agg (l : List CS)
@[reducible] def VS.den : VS → Type
  | .one s => s.den
  | .agg l => CSs.den l
def VS.inj : (s : VS) → s.den → V1
  | .one s, x => .one (s.inj x)
  | .agg l, x => .agg (CSs.inj l x)
def VS.prj : (s : VS) → V1 → Option s.den
  | .one s, .one c => s.prj c
  | .agg l, .agg cs => CSs.prj l cs
  | _, _ => none
@[reducible] def VSs.den : List VS → Type
  | [] => Unit
  | s :: r => s.den × VSs.den r
def VSs.inj : (l : List VS) → VSs.den l → List V1
  | [], _ => []
  | s :: r, x => s.inj x.1 :: VSs.inj r x.2
def VSs.prj : (l : List VS) → List V1 → Option (VSs.den l)
  | [], [] => some ()
  | s :: r, c :: cs => match s.prj c, VSs.prj r cs with
    | some a, some b => some (a, b)
    | _, _ => none
  | _, _ => none

inductive BS where
  | dead
  | var (T : TypeId) (l : List CS)
  | row (T : TypeId) (t : Ty)
  | clo (f : Nat) (a b : List VS)
  | map (kt vt : Ty)
  | yld (f : Nat) (a : List VS)
  | chn (T : TypeId) (t : Ty)
  | own (T : TypeId) (t : Ty)
@[reducible] def BS.den : BS → Type
  | .dead => Unit
  | .var _ l => CSs.den l
  | .row _ t => List t.den
  | .clo _ a b => VSs.den a × VSs.den b
  | .map kt vt => List (kt.den × vt.den)
  | .yld _ a => VSs.den a × Bool
  | .chn _ t => List t.den
  | .own _ t => List t.den
def BS.inj : (s : BS) → s.den → Blk
  | .dead, _ => .dead
  | .var T l, x => .var T (CSs.inj l x)
  | .row T t, l => .row T t l
  | .clo f a b, x => .clo f (VSs.inj a x.1) (VSs.inj b x.2)
  | .map kt vt, m => .map kt vt m
  | .yld f a, x => .yld f (VSs.inj a x.1) x.2
  | .chn T t, l => .chn T t l
  | .own T t, l => .own T t l
def BS.prj : (s : BS) → Blk → Option s.den
  | .dead, .dead => some ()
  | .var T l, .var T' cs => if T' = T then CSs.prj l cs else none
  | .row T t, .row T' t' l => if T' = T then if h : t' = t then some (h ▸ l) else none else none
  | .clo f a b, .clo f' x y => if f' = f then (match VSs.prj a x, VSs.prj b y with | some u, some v => some (u, v) | _, _ => none) else none
  | .map kt vt, .map kt' vt' m => if h : kt' = kt then if h' : vt' = vt then some (h ▸ h' ▸ m) else none else none
  | .yld f a, .yld f' x n => if f' = f then (match VSs.prj a x with | some u => some (u, n) | none => none) else none
  | .chn T t, .chn T' t' l => if T' = T then if h : t' = t then some (h ▸ l) else none else none
  | .own T t, .own T' t' l => if T' = T then if h : t' = t then some (h ▸ l) else none else none
  | _, _ => none
@[reducible] def BSs.den : List BS → Type
  | [] => Unit
  | s :: r => s.den × BSs.den r
def BSs.inj : (l : List BS) → BSs.den l → List Blk
  | [], _ => []
  | s :: r, x => s.inj x.1 :: BSs.inj r x.2
def BSs.prj : (l : List BS) → List Blk → Option (BSs.den l)
  | [], [] => some ()
  | s :: r, c :: cs => match s.prj c, BSs.prj r cs with
    | some a, some b => some (a, b)
    | _, _ => none
  | _, _ => none

structure Pat where
  vs : List VS
  bs : List BS
@[reducible] def Pat.den (p : Pat) : Type := VSs.den p.vs × BSs.den p.bs
def Pat.inj (p : Pat) (x : p.den) : List V1 × List Blk := (VSs.inj p.vs x.1, BSs.inj p.bs x.2)
def Pat.prj (p : Pat) (vs : List V1) (H : List Blk) : Option p.den :=
  match VSs.prj p.vs vs, BSs.prj p.bs H with
  | some a, some b => some (a, b)
  | _, _ => none

def encO (b i : Nat) : (t : Ty) → t.den → List Cell
  | .ro _, l => [.oin b i l.length]
  | .pair a c, x => enc a x.1 ++ encO b i c x.2
  | _, _ => []
def decN : (t : Ty) → List Cell → Option t.den
  | .ro _, [.nils] => some []
  | .pair a c, cs => match dec a [] cs with
    | some (x, r, _) => match decN c r with
      | some y => some (x, y)
      | none => none
    | none => none
  | _, _ => none
def decO (H : List Blk) : (t : Ty) → List Cell → Option (t.den × Option Nat)
  | .ro u, [.nils] => some ([], none)
  | .ro u, [.full b] => match H[b]? with
    | some (.row _ t' l) => if h : t' = u then some (h ▸ l, some b) else none
    | _ => none
  | .pair a c, cs => match dec a [] cs with
    | some (x, r, _) => match decO H c r with
      | some (y, b) => some ((x, y), b)
      | none => none
    | none => none
  | _, _ => none

def lnkAt (c : Nat) : List Cell → Nat → Option Nat
  | [], _ => none
  | .lnk c' i :: r, o => if c' = c then (if i = 0 then some o else lnkAt c r (o + 1)) else lnkAt c r (o + 1)
  | _ :: r, o => lnkAt c r (o + 1)
def headOf (c : Nat) : List Blk → Nat → Option (Nat × Nat)
  | [], _ => none
  | .var _ cs :: r, b => match lnkAt c cs 0 with | some o => some (b, o) | none => headOf c r (b + 1)
  | _ :: r, b => headOf c r (b + 1)

def CS.fit (bs : List BS) : CS → Cell → List Blk → Cell × List Blk
  | .top, _, H => (.top, H)
  | .ro t, .full b, H =>
    match H[b]? with
    | some (.row _ t' l) => if h : t' = t then (.ro t (h ▸ l), H.set b .dead) else (.full b, H)
    | _ => (.full b, H)
  | .ro t, .nils, H => (.ro t [], H)
  | .full b, .nils, H =>
    match bs[b]? with
    | some (.row T t) => (.full H.length, H ++ [.row T t []])
    | _ => (.nils, H)
  | .full _, .full b, H =>
    match bs[b]?, H[b]? with
    | some .dead, some (.row T t l) => (.full H.length, H.set b .dead ++ [.row T t l])
    | _, _ => (.full b, H)
  | .ofull b, .nils, H =>
    match bs[b]? with
    | some (.own T t) => if t.own = true then (.ofull H.length, H ++ [.own T t []]) else (.nils, H)
    | _ => (.nils, H)
  | .ofull _, .ofull b, H =>
    match bs[b]?, H[b]? with
    | some .dead, some (.own T t l) => (.ofull H.length, H.set b .dead ++ [.own T t l])
    | _, _ => (.ofull b, H)
  | .lnk b, .nilp, H =>
    match bs[b]? with
    | some (.chn T t) => if t.noRo = true ∧ 0 < t.sz then (.lnk H.length 0, H ++ [.chn T t []]) else (.nilp, H)
    | _ => (.nilp, H)
  | .lnk _, .lnk b i, H =>
    if i = 0 then
      match bs[b]?, H[b]? with
      | some .dead, some (.chn T t l) => (.lnk H.length 0, H.set b .dead ++ [.chn T t l])
      | _, _ => (.lnk b i, H)
    else (.lnk b i, H)
  | .hole _ _ _, .ptr b i o, H =>
    if i = 0 then
      match H[b]? with
      | some (.var _ cs) => match cs[o]? with
        | some (.lnk c k) => if k = 0 then (.hole b o c 0, H) else (.ptr b i o, H)
        | _ => (.ptr b i o, H)
      | _ => (.ptr b i o, H)
    else (.ptr b i o, H)
  | .hole _ _ _, .nptr c i o, H =>
    match H[c]?, headOf c H 0 with
    | some (.chn _ t _), some (b, o') => if o = t.sz then (.hole b o' c (i + 1), H) else (.nptr c i o, H)
    | _, _ => (.nptr c i o, H)
  | _, c, H => (c, H)
def CSs.fit (bs : List BS) : List CS → List Cell → List Blk → List Cell × List Blk
  | s :: r, c :: cs, H =>
    let a := s.fit bs c H
    let b := CSs.fit bs r cs a.2
    (a.1 :: b.1, b.2)
  | _, cs, H => (cs, H)
def VS.fit (bs : List BS) : VS → V1 → List Blk → V1 × List Blk
  | .one s, .one c, H => let a := s.fit bs c H; (.one a.1, a.2)
  | .one .top, _, H => (.one .top, H)
  | .agg l, .agg cs, H => let a := CSs.fit bs l cs H; (.agg a.1, a.2)
  | _, v, H => (v, H)
def VSs.fit (bs : List BS) : List VS → List V1 → List Blk → List V1 × List Blk
  | s :: r, c :: cs, H =>
    let a := s.fit bs c H
    let b := VSs.fit bs r cs a.2
    (a.1 :: b.1, b.2)
  | _, cs, H => (cs, H)

def BSs.fit : List BS → Nat → List Blk → List Blk
  | [], _, H => H
  | s :: r, q, H => BSs.fit r (q + 1) (match s, H[q]? with
    | .dead, _ => H.set q .dead
    | .var _ l, some (.var T cs) => let a := CSs.fit [] l cs H; if a.1.length = cs.length then a.2.set q (.var T a.1) else H
    | _, _ => H)

def pairC : CS → Cell → List (Nat × Nat)
  | .ptr q _, .ptr b _ _ => [(b, q)]
  | .ptrI q _, .ptr b _ _ => [(b, q)]
  | .fn _ q, .fn _ b => [(b, q)]
  | .yl q, .yl b => [(b, q)]
  | _, _ => []
def pairsC : List CS → List Cell → List (Nat × Nat)
  | s :: r, c :: cs => pairC s c ++ pairsC r cs
  | _, _ => []
def pairV : VS → V1 → List (Nat × Nat)
  | .one s, .one c => pairC s c
  | .agg l, .agg cs => pairsC l cs
  | _, _ => []
def pairsV : List VS → List V1 → List (Nat × Nat)
  | s :: r, c :: cs => pairV s c ++ pairsV r cs
  | _, _ => []
def BSs.deep (bs : List BS) : Nat → List (Nat × Nat) → List Nat → List Blk → List Blk
  | 0, _, _, H => H
  | _, [], _, H => H
  | n + 1, (b, q) :: r, seen, H =>
    if seen.contains b then BSs.deep bs n r seen H else
    match H[b]?, bs[q]? with
    | some (.var T cs), some (.var _ l) =>
      let a := CSs.fit bs l cs H
      if a.1.length = cs.length then BSs.deep bs n (r ++ pairsC l a.1) (b :: seen) (a.2.set b (.var T a.1)) else BSs.deep bs n r (b :: seen) H
    | some (.clo _ x y), some (.clo _ u v) => BSs.deep bs n (r ++ pairsV u x ++ pairsV v y) (b :: seen) H
    | some (.yld _ x _), some (.yld _ u) => BSs.deep bs n (r ++ pairsV u x) (b :: seen) H
    | _, _ => BSs.deep bs n r (b :: seen) H

def fuelR : Nat := 400
def Pat.take (p : Pat) (n : Nat) (vs : List V1) (H : List Blk) : Option p.den :=
  let a := VSs.fit p.bs p.vs vs H
  let H1 := BSs.deep p.bs fuelR ((List.range n).map (fun i => (i, i)) ++ pairsV p.vs a.1) [] a.2
  let ρ := reach H1 fuelR ((H1.take n).flatMap Blk.ids ++ a.1.flatMap V1.ids) (List.range n)
  p.prj (a.1.map (V1.ren (place ρ))) (BSs.fit p.bs 0 (pick H1 ρ))

/-! ### Calls and loops -/
structure FSpec where
  X : Type
  imp : List V1 → List Blk → Option X
  out : List V1 → List Blk → X → AV × List Blk
  borrow : Bool
  round : Option Nat := none
  outK : {R : Type} → List V1 → List Blk → X → (AV × List Blk → Option R) → Option R
  outK_eq : ∀ {R : Type} (args : List V1) (H : List Blk) (x : X) (k : AV × List Blk → Option R), outK args H x k = k (out args H x)

structure LSpec where
  key : Nat
  slots : List Nat
  pat : Pat

def loopN {S R : Type} : Nat → ((S → Option R) → S → Option R) → S → Option R
  | 0, _, _ => none
  | n + 1, F, s => F (loopN n F) s
def withJoin {S R : Type} (g : S → Option R) (body : (S → Option R) → Option R) : Option R := body g

def firstRegion : Code → Option Nat
  | .region id _ _ => some id
  | .seq a b => match firstRegion a with | some x => some x | none => firstRegion b
  | .block _ c => firstRegion c
  | .loop c => firstRegion c
  | .scope c => firstRegion c
  | .cond _ a b => match firstRegion a with | some x => some x | none => firstRegion b
  | .rangeFunc _ _ a b => match firstRegion a with | some x => some x | none => firstRegion b
  | _ => none

def rfsOf : Code → List (Array Tmp × Code × Code)
  | .seq a b => rfsOf a ++ rfsOf b
  | .cond _ a b => rfsOf a ++ rfsOf b
  | .block _ c => rfsOf c
  | .loop c => rfsOf c
  | .scope c => rfsOf c
  | .rangeFunc _ ps a b => [(ps, a, b)]
  | _ => []
def rfId (g : Nat) (b : Code) : Nat := 1000000 * (g + 1) + (firstRegion b).getD 0
def rinfo (P : Program) (f : Nat) : Option (Array Tmp × Code × Code) :=
  ((P.funcs[f / 1000000 - 1]?).bind (·.body)).bind fun c => (rfsOf c).find? fun x => (firstRegion x.2.2).getD 0 == f % 1000000
def rfOk (c : Code) : Bool := decide (((rfsOf c).map fun x => (firstRegion x.2.2).getD 0).Nodup) && (rfsOf c).all fun x => decide ((firstRegion x.2.2).getD 0 < 1000000)
def jumpC (d : Bool) : Option Code := if d = true then some .ret else none
def slotsC : Code → List Nat
  | .seq a b => slotsC a ++ slotsC b
  | .cond x a b => (match x with | .tmp t => [t] | _ => []) ++ (slotsC a ++ slotsC b)
  | .block _ c => slotsC c
  | .loop c => slotsC c
  | .scope c => slotsC c
  | .rangeFunc _ _ a b => slotsC a ++ slotsC b
  | .region _ ops _ => ops.toList.flatMap fun o => o.op.operands.toList.filterMap fun | .tmp t => some t | _ => none
  | _ => []
def dstsC : Code → List Nat
  | .seq a b => dstsC a ++ dstsC b
  | .cond _ a b => dstsC a ++ dstsC b
  | .block _ c => dstsC c
  | .loop c => dstsC c
  | .scope c => dstsC c
  | .rangeFunc _ _ a b => dstsC a ++ dstsC b
  | .region _ ops _ => ops.toList.filterMap fun o => o.dst
  | _ => []
def rslots (ps : Array Tmp) (a b : Code) : List Nat :=
  let no := ps.toList ++ (dstsC a ++ dstsC b)
  (slotsC a ++ slotsC b).foldl (fun l i => if no.contains i || l.contains i then l else l ++ [i]) []
def rnt (P : Program) (f : Nat) : Nat := ((P.funcs[f / 1000000 - 1]?).map (·.ntmps)).getD 0

def slotsOf (env : List AV) (l : List Nat) : List V1 := l.map fun i => match env.getD i AV.top with | .v x => x | _ => .one .top
def envAt (m : Nat) (l : List Nat) (vs : List V1) : List AV := (l.zip vs).foldl (fun e p => e.set p.1 (.v p.2)) (List.replicate m AV.top)

def startE (m : Nat) (l : List Nat) (ps : Array Tmp) (args : List V1) : List AV :=
  (ps.toList.zip (args.drop l.length)).foldl (fun e p => e.set p.1 (.v p.2)) (envAt m l (args.take l.length))

/-! ### Maps -/
def Ty.beqD : (t : Ty) → t.den → t.den → Bool
  | .int _, a, b => decide ((a : Int) = b)
  | .bool, a, b => decide ((a : Bool) = b)
  | .pair a b, x, y => Ty.beqD a x.1 y.1 && Ty.beqD b x.2 y.2
  | _, _, _ => false
def mapGet {K V : Type} (eq : K → K → Bool) (k : K) : List (K × V) → Option V
  | [] => none
  | p :: m => if eq k p.1 = true then some p.2 else mapGet eq k m
def mapPut {K V : Type} (eq : K → K → Bool) (k : K) (v : V) : List (K × V) → List (K × V)
  | [] => [(k, v)]
  | p :: m => if eq k p.1 = true then (k, v) :: m else p :: mapPut eq k v m
def keyCells : Ty → V1 → Option (List Cell)
  | .pair _ _, .agg cs => some cs
  | .pair _ _, _ => none
  | .unit, _ => none
  | _, .one c => some [c]
  | _, _ => none

/-! ### Operations -/
section
variable (P : Program)

def infoSz (T : TypeId) : Option Nat := (P.info? T).map (·.size)
def keyOk (T : TypeId) (kt : Ty) : Bool :=
  match P.underlying T with
  | some (.int k) => decide (kt = .int k)
  | some .bool => decide (kt = .bool)
  | some (.struct fs) =>
    match fs.toList with
    | [f, g] =>
      decide (f.name ≠ "_") && decide (g.name ≠ "_") && f.offset == 0 && g.offset == 1 && infoSz P f.type == some 1 && infoSz P g.type == some 1 &&
      (match P.underlying f.type, P.underlying g.type with
       | some (.int k), some (.int k') => decide (kt = .pair (.int k) (.int k'))
       | _, _ => false) && !P.stoodInHeld T
    | _ => false
  | _ => false
def elemOk (T : TypeId) (vt : Ty) : Bool :=
  match P.underlying T with
  | some (.int k) => decide (vt = .int k)
  | some .bool => decide (vt = .bool)
  | _ => false
def elemZ (T : TypeId) : (vt : Ty) → Option vt.den
  | .int k => match (P.info? T).bind (·.zero) with | some (.int k' n) => if k' = k then some n else none | _ => none
  | .bool => match (P.info? T).bind (·.zero) with | some (.bool b) => some b | _ => none
  | _ => none
def zeroCells (T : TypeId) : Option (List Cell) := ((P.info? T).bind (·.zero)).bind fun v => (v1Of v).cells?
def tyOfT (T : TypeId) : Option Ty := match tyOf P 40 T, infoSz P T with | some t, some n => if t.sz = n then some t else none | _, _ => none

def asVal (T : TypeId) (cs : List Cell) : Option V1 :=
  match P.underlying T with
  | some (.struct _) => some (.agg cs)
  | some (.array _ _) => some (.agg cs)
  | some _ => match cs with | [c] => some (.one c) | _ => none
  | none => none

def spliceL {α : Type} (l : List α) (o : Nat) (n : List α) : List α := l.take o ++ n ++ l.drop (o + n.length)

def fillL (place : Nat → Option (Nat × Nat)) (cells : List Cell) : List (Nat × List Cell) → Option (List Cell)
  | [] => some cells
  | (i, v) :: rest =>
    match place i with
    | none => none
    | some (off, size) => if v.length = size then (if off + v.length ≤ cells.length then fillL place (spliceL cells off v) rest else none) else none

def decRow (t : Ty) : Nat → List Blk → List Cell → Option (List t.den × List Blk)
  | 0, H, [] => some ([], H)
  | 0, _, _ :: _ => none
  | n + 1, H, cs =>
    match dec t H cs with
    | some (x, r, H1) => match decRow t n H1 r with
      | some (l, H2) => some (x :: l, H2)
      | none => none
    | none => none

def intsOf (k : IntKind) : List Cell → Option (List Int)
  | [] => some []
  | .int k' n :: r => if k' = k then (intsOf k r).map (n :: ·) else none
  | _ :: _ => none

def loadC (H : List Blk) (T : TypeId) (c : Cell) : Option V1 :=
  match c, infoSz P T with
  | .ptr b i o, some n =>
    match H[b]? with
    | some (.var _ cs) => if i = 0 then (if o + n ≤ cs.length then asVal P T ((cs.drop o).take n) else none) else none
    | some (.row _ t l) => if o + n ≤ t.sz then asVal P T (((enc t (l.getD i t.dflt)).drop o).take n) else none
    | _ => none
  | .rop t x o, some n => if o + n ≤ t.sz then asVal P T (((enc t x).drop o).take n) else none
  | .arr b o m i, some 1 =>
    match H[b]?, isAggT P T, P.underlying T with
    | some (.var _ cs), false, some _ =>
      match (cs.drop o).head? with
      | some (.int k _) => if o + m ≤ cs.length then (match intsOf k ((cs.drop o).take m) with | some l => some (.one (.int k (l.getD i 0))) | none => none) else none
      | _ => none
    | _, _, _ => none
  | .nptr c i o, some n =>
    match H[c]? with
    | some (.chn _ t l) =>
      if o + n ≤ t.sz then asVal P T (((enc t (l.getD i t.dflt)).drop o).take n)
      else if o = t.sz ∧ n = 1 then asVal P T [.lnk c (i + 1)] else none
    | _ => none
  | .hole b o c i, some n =>
    match H[b]?, H[c]? with
    | some (.var _ cs), some (.chn _ _ _) => match cs[o]? with
      | some (.lnk c' k) => if c' = c ∧ k = 0 ∧ n = 1 then asVal P T [.lnk c i] else none
      | _ => none
    | _, _ => none
  | .optr b i o, some n =>
    match H[b]? with
    | some (.own _ t l) => if o + n ≤ t.sz then asVal P T (((encO b i t (l.getD i t.dflt)).drop o).take n) else none
    | _ => none
  | _, _ => none

def holeStore (H : List Blk) (b o c i : Nat) (v : List Cell) : Option (Nat × Nat × List Blk) :=
  match H[b]?, H[c]? with
  | some (.var Tb cs), some (.chn T t l) =>
    match cs[o]? with
    | some (.lnk c0 k0) =>
      if c0 = c ∧ k0 = 0 then
        match v with
        | [.lnk c' k] => if c' = c then some (i, k, ((H.set c .dead).set b (.var Tb (cs.set o (.lnk H.length 0)))) ++ [.chn T t (l.take i ++ l.drop k)]) else none
        | [.ptr nb pi po] =>
          if pi = 0 ∧ po = 0 ∧ nb ≠ b then
            match H[nb]? with
            | some (.var T' ns) =>
              if T' = T then
                match ns.drop t.sz, decAll t [] (ns.take t.sz) with
                | [.lnk c' k], some (x, _) => if c' = c then some (i, k, (((H.set c .dead).set nb .dead).set b (.var Tb (cs.set o (.lnk H.length 0)))) ++ [.chn T t (l.take i ++ x :: l.drop k)]) else none
                | _, _ => none
              else none
            | _ => none
          else none
        | _ => none
      else none
    | _ => none
  | _, _ => none

def storeC (H : List Blk) (T : TypeId) (c : Cell) (v : List Cell) : Option (Nat × Nat × List Blk) :=
  match c, infoSz P T with
  | .ptr b i o, some n =>
    if v.length = n then
      match H[b]? with
      | some (.var T' cs) =>
        if i = 0 then
          match v, cs[o]? with
          | [.lnk c k], some (.lnk c' _) => if c' = c then holeStore H b o c 0 v else (if o + n ≤ cs.length then some (0, 0, H.set b (.var T' (spliceL cs o v))) else none)
          | _, _ => (if o + n ≤ cs.length then some (0, 0, H.set b (.var T' (spliceL cs o v))) else none)
        else none
      | some (.row T' t l) =>
        if o + n ≤ t.sz then
          match decAll t H (spliceL (enc t (l.getD i t.dflt)) o v) with
          | some (x, H1) =>
            match H1[b]? with
            | some (.row _ _ _) => some (0, 0, H1.set b (.row T' t (l.set i x)))
            | _ => none
          | none => none
        else none
      | _ => none
    else none
  | .arr b o m i, some 1 =>
    match H[b]?, v with
    | some (.var T' cs), [.int k x] =>
      if o + m ≤ cs.length then
        match intsOf k ((cs.drop o).take m) with
        | some l => some (0, 0, H.set b (.var T' (spliceL cs o ((List.range m).map fun q => Cell.int k ((l.set i x).getD q 0)))))
        | none => none
      else none
    | _, _ => none
  | .nptr c i o, some n =>
    if v.length = n then
      match H[c]? with
      | some (.chn T' t l) =>
        if o + n ≤ t.sz then
          match decAll t [] (spliceL (enc t (l.getD i t.dflt)) o v) with
          | some (x, _) => some (0, 0, H.set c (.chn T' t (l.set i x)))
          | none => none
        else none
      | _ => none
    else none
  | .hole b o c i, some 1 => holeStore H b o c i v
  | .optr b i o, some n =>
    match H[b]? with
    | some (.own T' t l) =>
      if o = 0 ∧ n = t.sz ∧ v.length = n then
        match decN t v with
        | some x => some (0, 0, H.set b (.own T' t (l.set i x)))
        | none => none
      else none
    | _ => none
  | .oip b i k o, some n =>
    match H[b]? with
    | some (.own T' t l) =>
      if o = 0 ∧ n = t.inn.sz ∧ v.length = n then
        match decAll t.inn [] v with
        | some (y, _) => some (k + 1, (getL t (l.getD i t.dflt)).length, H.set b (.own T' t (l.set i (setL t (l.getD i t.dflt) ((getL t (l.getD i t.dflt)).set k y)))))
        | none => none
      else none
    | _ => none
  | _, _ => none

def eqC : Cell → Cell → Option Bool
  | .int k a, .int k' b => if k = k' then some (a == b) else none
  | .bool a, .bool b => some (a == b)
  | .str a, .str b => some (a.toList == b.toList)
  | .nilp, .nilp => some true
  | .nilp, .ptr _ _ _ => some false
  | .ptr _ _ _, .nilp => some false
  | _, _ => none

def eqFields (cmp : TypeId → List Cell → List Cell → Option Bool) (a b : List Cell) : List Field → Option Bool
  | [] => some true
  | fd :: r =>
    if fd.name = "_" then none else
    match infoSz P fd.type with
    | some s => match cmp fd.type ((a.drop fd.offset).take s) ((b.drop fd.offset).take s), eqFields cmp a b r with
      | some x, some y => some (x && y)
      | _, _ => none
    | none => none
def eqElems (cmp : TypeId → List Cell → List Cell → Option Bool) (e : TypeId) (s : Nat) (a b : List Cell) : List Nat → Option Bool
  | [] => some true
  | i :: r => match cmp e ((a.drop (i * s)).take s) ((b.drop (i * s)).take s), eqElems cmp e s a b r with
    | some x, some y => some (x && y)
    | _, _ => none

def eqT : Nat → TypeId → List Cell → List Cell → Option Bool
  | 0, _, _, _ => none
  | n + 1, T, a, b =>
    match P.underlying T, a, b with
    | some (.int _), [.int k x], [.int k' y] => if k = k' then some (x == y) else none
    | some .bool, [.bool x], [.bool y] => some (x == y)
    | some .string, [.str x], [.str y] => some (x.toList == y.toList)
    | some (.struct fs), _, _ => if P.stoodInHeld T then none else eqFields P (eqT n) a b fs.toList
    | some (.array m e), _, _ => match infoSz P e with | some s => eqElems (eqT n) e s a b (List.range m) | none => none
    | _, _, _ => none

def rowOf (H : List Blk) (t : Ty) : Cell → Option (List t.den)
  | .nils => some []
  | .ro t' l => if h : t' = t then some (h ▸ l) else none
  | .full b => match H[b]? with | some (.row _ t' l) => if h : t' = t then some (h ▸ l) else none | _ => none
  | .part b o n => match H[b]? with | some (.row _ t' l) => if h : t' = t then some (((h ▸ l : List t.den).drop o).take n) else none | _ => none
  | _ => none

def bytesOf (l : List Int) : ByteArray := ⟨(l.map fun n => UInt8.ofNat n.toNat).toArray⟩
def ofBytes (s : ByteArray) : List Int := s.data.toList.map fun b => (b.toNat : Int)

variable {R : Type}

def binInt (op : BinOp) (k : IntKind) (a b : Int) (f : Cell → Option R) : Option R :=
  match op with
  | .add => f (.int k (k.wrap (a + b)))
  | .sub => f (.int k (k.wrap (a - b)))
  | .mul => f (.int k (k.wrap (a * b)))
  | .quo => if b = 0 then none else f (.int k (k.wrap (a.tdiv b)))
  | .rem => if b = 0 then none else f (.int k (a.tmod b))
  | .and => f (.int k (k.wrap (BitVec.ofInt k.bits a &&& BitVec.ofInt k.bits b).toNat))
  | .or => f (.int k (k.wrap (BitVec.ofInt k.bits a ||| BitVec.ofInt k.bits b).toNat))
  | .xor => f (.int k (k.wrap (BitVec.ofInt k.bits a ^^^ BitVec.ofInt k.bits b).toNat))
  | .andNot => f (.int k (k.wrap (BitVec.ofInt k.bits a &&& ~~~ BitVec.ofInt k.bits b).toNat))
  | .eql => f (.bool (a == b))
  | .neq => f (.bool (a != b))
  | .lss => f (.bool (a < b))
  | .leq => f (.bool (a ≤ b))
  | .gtr => f (.bool (!decide (a ≤ b)))
  | .geq => f (.bool (!decide (a < b)))
  | _ => none
end

end Go.Proofs.YtcdnofemnpafhaaM

/- An interpreter of the program's code over abstract values: operations, regions, code, functions. Conditions: none. -/
namespace Go.Proofs.YtcdnofemnpafhaaM
set_option linter.unusedVariables false
set_option linter.unusedSimpArgs false
set_option linter.unnecessarySimpa false
set_option linter.unusedSectionVars false
open Go

section
variable (P : Program)

def placesOf (T : TypeId) : Option (Nat → Option (Nat × Nat)) :=
  match P.underlying T with
  | some (.struct fs) => if fs.toList.all fun f => (infoSz P f.type).isSome then some fun i => (fs[i]?).bind fun f => (infoSz P f.type).map fun n => (f.offset, n) else none
  | some (.array _ e) => (infoSz P e).map fun n i => some (i * n, n)
  | _ => none

def V1.ofAV : AV → Option V1
  | .v x => some x
  | _ => none

def partsOf (env : List AV) : List (Nat × Operand) → Option (List (Nat × List Cell))
  | [] => some []
  | (i, x) :: r => match (V1.ofAV (evalV env x)).bind V1.cells?, partsOf env r with
    | some v, some l => some ((i, v) :: l)
    | _, _ => none

def lenC (H : List Blk) : Cell → Option Int
  | .str s => some s.size
  | .ro _ l => some l.length
  | .nils => some 0
  | .full b => match H[b]? with | some (.row _ _ l) => some l.length | _ => none
  | .part b _ n => match H[b]? with | some (.row _ _ _) => some n | _ => none
  | .vsl b n => match H[b]? with | some (.var _ _) => some n | _ => none
  | .ofull b => match H[b]? with | some (.own _ _ l) => some l.length | _ => none
  | .oin b _ n => match H[b]? with | some (.own _ _ _) => some n | _ => none
  | _ => none

def cellV (c : Cell) : AV := .v (.one c)

variable {R : Type}

def byB (b : Bool) (x y : Option R) : Option R := if b = true then x else y

def idx (T : TypeId) (x : V1) (i : Int) (f : V1 → Option R) : Option R :=
  match x, P.underlying T with
  | .agg cs, some (.array n e) =>
    match infoSz P e, isAggT P e, P.underlying e with
    | some 1, false, some _ =>
      match cs with
      | .int k _ :: _ => match intsOf k cs with
        | some l => if 0 ≤ i ∧ i < n ∧ i < l.length then f (.one (.int k (l.getD i.toNat 0))) else none
        | none => none
      | _ => none
    | _, _, _ => none
  | .one (.str s), some .string => if h : 0 ≤ i ∧ i.toNat < s.size then f (.one (.int .u8 ((s[i.toNat]'h.2).toNat : Int))) else none
  | _, _ => none

def idxAddr (H : List Blk) (T : TypeId) (x : Cell) (i : Int) (f : Cell → Option R) : Option R :=
  match x, P.underlying T with
  | .ro t l, some (.slice e) => if infoSz P e = some t.sz then (if 0 ≤ i ∧ i < l.length then f (.rop t (l.getD i.toNat t.dflt) 0) else none) else none
  | .full b, some (.slice e) => match H[b]? with
    | some (.row _ t l) => if infoSz P e = some t.sz then (if 0 ≤ i ∧ i < l.length then f (.ptr b i.toNat 0) else none) else none
    | _ => none
  | .part b o n, some (.slice e) => match H[b]? with
    | some (.row _ t _) => if infoSz P e = some t.sz then (if 0 ≤ i ∧ i < n then f (.ptr b (o + i.toNat) 0) else none) else none
    | _ => none
  | .vsl b n, some (.slice e) => match H[b]? with
    | some (.var _ _) => if infoSz P e = some 1 then (if 0 ≤ i ∧ i < n then f (.ptr b 0 i.toNat) else none) else none
    | _ => none
  | .ofull b, some (.slice e) => match H[b]? with
    | some (.own _ t l) => if infoSz P e = some t.sz then (if 0 ≤ i ∧ i < l.length then f (.optr b i.toNat 0) else none) else none
    | _ => none
  | .oin b q n, some (.slice e) => match H[b]? with
    | some (.own _ t _) => if infoSz P e = some t.inn.sz then (if 0 ≤ i ∧ i < n then f (.oip b q i.toNat 0) else none) else none
    | _ => none
  | .ptr b 0 o, some (.array n e) => match infoSz P e with
    | some 1 => if 0 ≤ i ∧ i < n then f (.arr b o n i.toNat) else none
    | _ => none
  | _, _ => none

def boundX (env : List AV) (d : Int) : Option Operand → Option Int
  | none => some d
  | some y => match evalV env y with | .v (.one (.int _ n)) => some n | _ => none

def cutX (u : TypeDesc) (c : Cell) (l h : Int) (H : List Blk) (f : AV → List Blk → Option R) : Option R :=
  match u, c with
  | .string, .str s => f (cellV (.str (s.extract l.toNat h.toNat))) H
  | .slice e, .ro t xs => if infoSz P e = some t.sz then f (cellV (.ro t ((xs.take h.toNat).drop l.toNat))) H else none
  | .slice e, .nils => match infoSz P e with | some _ => f (cellV .nils) H | none => none
  | .slice e, .full b => match H[b]? with
    | some (.row _ t _) => if infoSz P e = some t.sz then f (cellV (.part b l.toNat (h - l).toNat)) H else none
    | _ => none
  | .slice e, .part b o _ => match H[b]? with
    | some (.row _ t _) => if infoSz P e = some t.sz then f (cellV (.part b (o + l.toNat) (h - l).toNat)) H else none
    | _ => none
  | _, _ => none

def convX (own : Bool) (src dst : TypeId) (x : Operand) (env : List AV) (H : List Blk) (f : AV → List Blk → Option R) : Option R :=
  match P.underlying src, P.underlying dst, evalV env x with
  | some (.int _), some (.int k), .v (.one (.int _ n)) => f (cellV (.int k (k.wrap n))) H
  | some .string, some .string, .v (.one (.str s)) => f (cellV (.str s)) H
  | some .string, some (.slice e), .v (.one (.str s)) =>
    match P.underlying e with
    | some (.int .u8) => if own = true then (if s.size ≤ 4611686018427387904 then f (cellV (.full H.length)) (H ++ [.row (1000000 + e) (.int .u8) (ofBytes s)]) else none) else f (cellV (.ro (.int .u8) (ofBytes s))) H
    | _ => none
  | some (.slice e), some .string, .v (.one c) =>
    match P.underlying e, rowOf H (.int .u8) c with
    | some (.int .u8), some l => f (cellV (.str (bytesOf l))) H
    | _, _ => none
  | _, _, _ => none

def opV (o : Op) (env : List AV) (H : List Blk) (f : AV → List Blk → Option R) : Option R :=
  match o with
  | .move x | .assign x => f (evalV env x) H
  | .pick c a b =>
    match evalV env c with
    | .v (.one (.bool t)) => byB t (f (evalV env a) H) (f (evalV env b) H)
    | _ => none
  | .alloc T =>
    match zeroCells P T with
    | some cs => f (cellV (.ptr H.length 0 0)) (H ++ [.var T cs])
    | none => none
  | .box T x =>
    match (V1.ofAV (evalV env x)).bind V1.cells? with
    | some cs => f (cellV (.ptr H.length 0 0)) (H ++ [.var T cs])
    | none => none
  | .build T parts =>
    match zeroCells P T, placesOf P T, partsOf env parts.toList with
    | some z, some pl, some ps => match fillL pl z ps with
      | some cs => f (.v (.agg cs)) H
      | none => none
    | _, _, _ => none
  | .buildSlice T n parts =>
    match P.underlying T with
    | some (.slice e) =>
      match tyOfT P e, zeroCells P e, partsOf env parts.toList with
      | some t, some z, some ps =>
        if n * t.sz ≤ 16777216 ∧ 0 < t.sz ∧ z.length = t.sz then
          match fillL (fun i => some (i * t.sz, t.sz)) ((List.replicate n z).flatten) ps with
          | some cs => match decRow t n H cs with
            | some (l, H1) => f (cellV (.full H1.length)) (H1 ++ [.row e t l])
            | none => none
          | none => none
        else none
      | none, some z, some ps =>
        if n ≤ 4096 ∧ 0 < n ∧ z.length = 1 ∧ infoSz P e = some 1 then
          match fillL (fun i => some (i * 1, 1)) ((List.replicate n z).flatten) ps with
          | some cs => if cs.length = n then f (cellV (.vsl H.length n)) (H ++ [.var e cs]) else none
          | none => none
        else none
      | _, _, _ => none
    | _ => none
  | .load T x =>
    match evalV env x with
    | .v (.one c) => match loadC P H T c with
      | some v => f (.v v) H
      | none => none
    | _ => none
  | .store T x y =>
    match evalV env x, (V1.ofAV (evalV env y)).bind V1.cells? with
    | .v (.one c), some v => match storeC P H T c v with
      | some (i, k, H1) => if i ≤ k then f AV.top H1 else none
      | none => none
    | _, _ => none
  | .nilCheck x =>
    match evalV env x with
    | .v (.one .nilp) => none
    | .v (.one .nilf) => none
    | .v (.one (.ptr b i o)) => f (cellV (.ptr b i o)) H
    | .v (.one (.rop t y o)) => f (cellV (.rop t y o)) H
    | .v (.one (.sfn g)) => f (cellV (.sfn g)) H
    | .v (.one (.nptr c i o)) => f (cellV (.nptr c i o)) H
    | .v (.one (.hole b o c i)) => f (cellV (.hole b o c i)) H
    | .v (.one (.lnk c i)) => match H[c]? with
      | some (.chn _ _ l) => if i < l.length then f (cellV (.nptr c i 0)) H else none
      | _ => none
    | .v (.one (.fn g b)) => match H[b]? with
      | some (.clo _ _ _) => f (cellV (.fn g b)) H
      | _ => none
    | _ => none
  | .binOp op T x y _ =>
    match evalV env x, evalV env y with
    | .v (.one (.int k a)), .v (.one (.int k' b)) =>
      match op with
      | .shl => if b < 0 then none else f (cellV (.int k (k.wrap (a * 2 ^ (min b.toNat k.bits))))) H
      | .shr => if b < 0 then none else f (cellV (.int k (a.fdiv (2 ^ (min b.toNat k.bits))))) H
      | _ => if k = k' then binInt op k a b fun c => f (cellV c) H else none
    | .v (.one (.str a)), .v (.one (.str b)) =>
      match op with
      | .add => if a.size + b.size ≤ 9223372036854775807 then f (cellV (.str (a ++ b))) H else none
      | .eql => f (cellV (.bool (a.toList == b.toList))) H
      | .neq => f (cellV (.bool (!(a.toList == b.toList)))) H
      | _ => none
    | .v (.one (.bool a)), .v (.one (.bool b)) =>
      match op, P.underlying T with
      | .eql, some .bool => f (cellV (.bool (a == b))) H
      | .neq, some .bool => f (cellV (.bool (!(a == b)))) H
      | _, _ => none
    | .v (.one .nilp), .v (.one .nilp) => match op, P.underlying T with | .eql, some (.pointer _) => f (cellV (.bool true)) H | .neq, some (.pointer _) => f (cellV (.bool false)) H | _, _ => none
    | .v (.one .nilp), .v (.one (.ptr _ _ _)) => match op, P.underlying T with | .eql, some (.pointer _) => f (cellV (.bool false)) H | .neq, some (.pointer _) => f (cellV (.bool true)) H | _, _ => none
    | .v (.one (.ptr _ _ _)), .v (.one .nilp) => match op, P.underlying T with | .eql, some (.pointer _) => f (cellV (.bool false)) H | .neq, some (.pointer _) => f (cellV (.bool true)) H | _, _ => none
    | .v (.one (.hole _ _ _ _)), .v (.one .nilp) => match op, P.underlying T with | .eql, some (.pointer _) => f (cellV (.bool false)) H | .neq, some (.pointer _) => f (cellV (.bool true)) H | _, _ => none
    | .v (.one (.lnk c i)), .v (.one .nilp) => match H[c]? with
      | some (.chn _ _ l) => match op, P.underlying T with | .eql, some (.pointer _) => f (cellV (.bool (decide (l.length ≤ i)))) H | .neq, some (.pointer _) => f (cellV (.bool (decide (i < l.length)))) H | _, _ => none
      | _ => none
    | .v (.agg a), .v (.agg b) =>
      match (if (P.eqGuardType P.depth T || !isAggT P T) = true then none else eqT P 100 T a b) with
      | some r => match op with | .eql => f (cellV (.bool r)) H | .neq => f (cellV (.bool (!r))) H | _ => none
      | none => none
    | _, _ => none
  | .unOp op _ x =>
    match op, evalV env x with
    | .neg, .v (.one (.int k n)) => f (cellV (.int k (k.wrap (0 - n)))) H
    | .not, .v (.one (.bool b)) => f (cellV (.bool (!b))) H
    | .xor, .v (.one (.int k n)) => f (cellV (.int k (k.wrap (BitVec.ofInt k.bits (if k.signed then -1 else k.max) ^^^ BitVec.ofInt k.bits n).toNat))) H
    | _, _ => none
  | .convert src dst x => convX P true src dst x env H f
  | .makeFunc (.func g) first cap =>
    match first.toList.mapM (fun x => V1.ofAV (evalV env x)), cap.toList.mapM (fun x => V1.ofAV (evalV env x)) with
    | some a, some b => f (cellV (.fn g H.length)) (H ++ [.clo g a b])
    | _, _ => none
  | .makeSlice T x y =>
    match P.underlying T, evalV env x, evalV env y with
    | some (.slice e), .v (.one (.int .i64 n)), .v (.one (.int .i64 m)) =>
      match tyOfT P e, zeroCells P e, P.info? e with
      | some t, some z, some i =>
        match decAll t H z with
        | some (d, H1) =>
          if 0 < t.sz ∧ 1 ≤ i.bytes then
            if 0 ≤ n ∧ n ≤ m ∧ i.bytes * m ≤ 281474976710656 then f (cellV (.full H1.length)) (H1 ++ [.row e t (List.replicate n.toNat d)]) else none
          else none
        | none => none
      | _, _, _ => none
    | _, _, _ => none
  | .slice T x lo hi none =>
    match P.underlying T, evalV env x with
    | some u, .v (.one c) =>
      match boundX env 0 lo, lenC H c with
      | some l, some n =>
        match boundX env n hi with
        | some h => if 0 ≤ l ∧ l ≤ h ∧ h ≤ n then cutX P u c l h H f else none
        | none => none
      | _, _ => none
    | _, _ => none
  | .fieldAddr T x i =>
    match P.underlying T, evalV env x with
    | some (.struct fs), .v (.one (.ptr b j o)) => match fs[i]? with
      | some fd => match infoSz P fd.type with
        | some (_ + 1) => f (cellV (.ptr b j (o + fd.offset))) H
        | _ => none
      | none => none
    | some (.struct fs), .v (.one (.rop t y o)) => match fs[i]? with
      | some fd => match infoSz P fd.type with
        | some (_ + 1) => f (cellV (.rop t y (o + fd.offset))) H
        | _ => none
      | none => none
    | some (.struct fs), .v (.one (.optr b j o)) => match fs[i]? with
      | some fd => match infoSz P fd.type with
        | some (_ + 1) => f (cellV (.optr b j (o + fd.offset))) H
        | _ => none
      | none => none
    | some (.struct fs), .v (.one (.nptr c j o)) => match fs[i]? with
      | some fd => match infoSz P fd.type with
        | some (_ + 1) => f (cellV (.nptr c j (o + fd.offset))) H
        | _ => none
      | none => none
    | _, _ => none
  | .field T x i =>
    match P.underlying T, evalV env x with
    | some (.struct fs), .v (.agg cs) => match fs[i]? with
      | some fd => match infoSz P fd.type with
        | some n => if fd.offset + n ≤ cs.length then (match asVal P fd.type ((cs.drop fd.offset).take n) with | some v => f (.v v) H | none => none) else none
        | none => none
      | none => none
    | _, _ => none
  | .indexAddr T x i =>
    match evalV env x, evalV env i with
    | .v (.one c), .v (.one (.int _ n)) =>
      match c with
      | _ => idxAddr P H T c n fun c => f (cellV c) H
    | _, _ => none
  | .index T x i =>
    match evalV env x, evalV env i with
    | .v v, .v (.one (.int _ n)) => idx P T v n fun v => f (.v v) H
    | _, _ => none
  | .extract x i =>
    match evalV env x with
    | .tup vs => match vs[i]? with
      | some v => f (.v v) H
      | none => none
    | _ => none
  | .makeMap T none =>
    match P.underlying T with
    | some (.map kT eT) =>
      match tyOfT P kT, tyOfT P eT with
      | some kt, some vt => if (keyOk P kT kt && elemOk P eT vt) = true then f (cellV (.map H.length)) (H ++ [.map kt vt []]) else none
      | _, _ => none
    | _ => none
  | .lookup T x i ok =>
    match P.underlying T, evalV env x, V1.ofAV (evalV env i) with
    | some (.map kT eT), .v (.one (.map b)), some kv =>
      match H[b]? with
      | some (.map kt vt m) =>
        if (keyOk P kT kt && elemOk P eT vt) = true then
          match (keyCells kt kv).bind (decAll kt []), elemZ P eT vt with
          | some (k, _), some d =>
            if ok = true then f (.tup [.one ((enc vt ((mapGet (Ty.beqD kt) k m).getD d)).headD .top), .one (.bool (mapGet (Ty.beqD kt) k m).isSome)]) H
            else f (.v (.one ((enc vt ((mapGet (Ty.beqD kt) k m).getD d)).headD .top))) H
          | _, _ => none
        else none
      | _ => none
    | _, _, _ => none
  | .mapUpdate T x i y =>
    match P.underlying T, evalV env x, V1.ofAV (evalV env i), V1.ofAV (evalV env y) with
    | some (.map kT eT), .v (.one (.map b)), some kv, some (.one v) =>
      match H[b]? with
      | some (.map kt vt m) =>
        if (keyOk P kT kt && elemOk P eT vt) = true then
          match (keyCells kt kv).bind (decAll kt []), decAll vt [] [v] with
          | some (k, _), some (d, _) => f AV.top (H.set b (.map kt vt (mapPut (Ty.beqD kt) k d m)))
          | _, _ => none
        else none
      | _ => none
    | _, _, _, _ => none
  | _ => none

/-! ### Calls -/
def St.put (s : St) (d : Option Tmp) (v : AV) : St := match d with | some i => { s with env := s.env.set i v } | none => s

def foldI (g : Int → Int → Int) (k : IntKind) : Int → List V1 → Option Int
  | a, [] => some a
  | a, .one (.int _ b) :: r => foldI g k (g a b) r
  | _, _ => none

def baseOf (H : List Blk) (e : TypeId) (t : Ty) : Cell → Option (List t.den × Nat)
  | .nils => some ([], H.length)
  | .full b => match H[b]? with | some (.row T t' l) => if T = e ∧ T < 1000000 then (if h : t' = t then some (h ▸ l, b) else none) else none | _ => none
  | _ => none

def builtinX (b : Builtin) (ts : Array TypeId) (args : List V1) (H : List Blk) (f : AV → List Blk → Option R) : Option R :=
  match b with
  | .len =>
    match args, ts[0]? with
    | [.one c], some T =>
      match P.underlying T, c with
      | some .string, .str s => f (cellV (.int .i64 s.size)) H
      | some (.slice _), .str _ => none
      | some (.slice _), c => match lenC H c with | some n => f (cellV (.int .i64 n)) H | none => none
      | _, _ => none
    | _, _ => none
  | .min =>
    match args with
    | .one (.int k a) :: r => match foldI (fun x y => if y < x then y else x) k a r with | some n => f (cellV (.int k n)) H | none => none
    | _ => none
  | .max =>
    match args with
    | .one (.int k a) :: r => match foldI (fun x y => if y > x then y else x) k a r with | some n => f (cellV (.int k n)) H | none => none
    | _ => none
  | .append =>
    match args, ts[0]?, ts[1]? with
    | [.one c, .one d], some T, some T' =>
      match P.underlying T, P.underlying T' with
      | some (.slice e), some (.slice _) =>
        match tyOfT P e, P.info? e with
        | some t, some i =>
          match baseOf H e t c, rowOf H t d with
          | some (l, b), some m =>
            if 0 < t.sz ∧ (i.zero.map (·.cells.size)) = some t.sz ∧ T' = T ∧ 1 ≤ i.bytes then
              if (l.length + m.length) * i.bytes ≤ 140737488355328 then
                f (cellV (.full H.length)) (H.set b .dead ++ [.row e t (l ++ m)])
              else none
            else none
          | _, _ => none
        | _, _ => none
      | _, _ => none
    | _, _, _ => none
  | _ => none

def lend (H : List Blk) : Cell → Cell
  | .full b => match H[b]? with | some (.row _ t l) => .ro t l | _ => .full b
  | .part b o n => match H[b]? with | some (.row _ t l) => .ro t ((l.drop o).take n) | _ => .part b o n
  | .ofull b => match H[b]? with | some (.own _ t l) => .ro t l | _ => .ofull b
  | c => c
def V1.lend (H : List Blk) : V1 → V1
  | .one c => .one (YtcdnofemnpafhaaM.lend H c)
  | .agg cs => .agg (cs.map (YtcdnofemnpafhaaM.lend H))

def lentIds (H : List Blk) : Cell → List Nat
  | .full b => match H[b]? with | some (.row _ _ _) => [b] | _ => []
  | .part b _ _ => match H[b]? with | some (.row _ _ _) => [b] | _ => []
  | .ofull b => match H[b]? with | some (.own _ _ _) => [b] | _ => []
  | _ => []

def back (ρ : List Nat) (m : Nat) (q : Nat) : Option Nat := some (if q < ρ.length then ρ.getD q 0 else m + (q - ρ.length))
def merge (H : List Blk) (ρ : List Nat) (H' : List Blk) : List Blk :=
  H.mapIdx (fun i B => match place ρ i with | some q => (H'.getD q .dead).ren (back ρ H.length) | none => B) ++ (H'.drop ρ.length).map (Blk.ren (back ρ H.length))

/-! No row that is only read is told. -/
def Cell.noRo : Cell → Bool
  | .ro _ _ => false
  | .rop _ _ _ => false
  | _ => true
def V1.noRo (v : V1) : Bool := v.cells.all Cell.noRo
def AV.noRo : AV → Bool
  | .v x => x.noRo
  | .tup vs => vs.all V1.noRo
def Blk.noRo : Blk → Bool
  | .dead => true
  | .var _ cs => cs.all Cell.noRo
  | .row _ t _ => t.noRo
  | .clo _ a b => (a ++ b).all V1.noRo
  | .map k v _ => k.noRo && v.noRo
  | .yld _ a _ => a.all V1.noRo
  | .chn _ t _ => t.noRo
  | .own _ _ _ => true

variable (fs : FuncId → List V1 → List Blk → Option FSpec)

def callF (g : FuncId) (args : List V1) (H : List Blk) (f : AV → List Blk → Option R) : Option R :=
  match fs g args H with
  | some sp =>
    if sp.round.isSome = true then none else
    if sp.borrow = true then
      let as := args.map (V1.lend H)
      let ρ := reach H fuelR (as.flatMap V1.ids) []
      if (ρ.all (· < H.length) && (args.flatMap fun v => v.cells.flatMap (lentIds H)).all (fun b => !ρ.contains b)) = true then
        (sp.imp (as.map (V1.ren (place ρ))) (pick H ρ)).bind fun x =>
          sp.outK (as.map (V1.ren (place ρ))) (pick H ρ) x fun r => if (r.1.noRo && r.2.all Blk.noRo) = true then f (r.1.ren (back ρ H.length)) (merge H ρ r.2) else none
      else none
    else
      let ρ := reach H fuelR (args.flatMap V1.ids) []
      if (ρ.all (· < H.length)) = true then
        (sp.imp (args.map (V1.ren (place ρ))) (pick H ρ)).bind fun x =>
          sp.outK (args.map (V1.ren (place ρ))) (pick H ρ) x fun r => f (r.1.ren (back ρ H.length)) (merge H ρ r.2)
      else none
  | none => none

theorem callF_def (g : FuncId) (args : List V1) (H : List Blk) (f : AV → List Blk → Option R) : callF fs g args H f =
  (match fs g args H with
  | some sp =>
    if sp.round.isSome = true then none else
    if sp.borrow = true then
      let as := args.map (V1.lend H)
      let ρ := reach H fuelR (as.flatMap V1.ids) []
      if (ρ.all (· < H.length) && (args.flatMap fun v => v.cells.flatMap (lentIds H)).all (fun b => !ρ.contains b)) = true then
        (sp.imp (as.map (V1.ren (place ρ))) (pick H ρ)).bind fun x =>
          let r := sp.out (as.map (V1.ren (place ρ))) (pick H ρ) x
          if (r.1.noRo && r.2.all Blk.noRo) = true then f (r.1.ren (back ρ H.length)) (merge H ρ r.2) else none
      else none
    else
      let ρ := reach H fuelR (args.flatMap V1.ids) []
      if (ρ.all (· < H.length)) = true then
        (sp.imp (args.map (V1.ren (place ρ))) (pick H ρ)).bind fun x =>
          let r := sp.out (args.map (V1.ren (place ρ))) (pick H ρ) x
          f (r.1.ren (back ρ H.length)) (merge H ρ r.2)
      else none
  | none => none : Option R) := by
  simp only [callF, FSpec.outK_eq]

def callR (f : Nat) (a args : List V1) (b : Nat) (H : List Blk) (k : AV → List Blk → Option R) : Option R :=
  match fs f (a ++ args) H with
  | some sp =>
    if sp.round = some args.length then
    let ρ := reach H fuelR ((a ++ args).flatMap V1.ids) []
    if (ρ.all (· < H.length) && !ρ.contains b) = true then
      (sp.imp ((a ++ args).map (V1.ren (place ρ))) (pick H ρ)).bind fun x =>
        sp.outK ((a ++ args).map (V1.ren (place ρ))) (pick H ρ) x fun r =>
          match r.1 with
          | .v (.one (.bool d)) => byB d (k (cellV (.bool false)) (merge (H.set b (.yld f a true)) ρ r.2)) (k (cellV (.bool true)) (merge (H.set b (.yld f a false)) ρ r.2))
          | _ => none
    else none
    else none
  | none => none
theorem callR_def (f : Nat) (a args : List V1) (b : Nat) (H : List Blk) (k : AV → List Blk → Option R) : callR fs f a args b H k = (
  match fs f (a ++ args) H with
  | some sp =>
    if sp.round = some args.length then
    let ρ := reach H fuelR ((a ++ args).flatMap V1.ids) []
    if (ρ.all (· < H.length) && !ρ.contains b) = true then
      (sp.imp ((a ++ args).map (V1.ren (place ρ))) (pick H ρ)).bind fun x =>
        let r := sp.out ((a ++ args).map (V1.ren (place ρ))) (pick H ρ) x
        match r.1 with
        | .v (.one (.bool d)) => byB d (k (cellV (.bool false)) (merge (H.set b (.yld f a true)) ρ r.2)) (k (cellV (.bool true)) (merge (H.set b (.yld f a false)) ρ r.2))
        | _ => none
    else none
    else none
  | none => none : Option R) := by
  simp only [callR, FSpec.outK_eq]

def valsOf (env : List AV) : List Operand → Option (List V1)
  | [] => some []
  | x :: r => match V1.ofAV (evalV env x), valsOf env r with
    | some v, some l => some (v :: l)
    | _, _ => none

def callX (c : Call) (env : List AV) (H : List Blk) (f : AV → List Blk → Option R) : Option R :=
  match valsOf env c.args.toList with
  | some args =>
    match c.callee with
    | .builtin b => builtinX P b c.argTypes args H f
    | .value g =>
      match evalV env g with
      | .v (.one (.sfn g)) => callF fs g args H f
      | .v (.one (.fn g b)) => match H[b]? with
        | some (.clo g' first cap) => if g' = g then callF fs g (first ++ args ++ cap) H f else none
        | _ => none
      | .v (.one (.yl b)) => match H[b]? with
        | some (.yld g a d) => byB d none (callR fs g a args b H f)
        | _ => none
      | _ => none
    | _ => none
  | none => none

def opX (o : Op) (env : List AV) (H : List Blk) (f : AV → List Blk → Option R) : Option R :=
  match o with
  | .call c => callX P fs c env H f
  | o => opV P o env H f

/-! ### Regions whose operations may come in any order -/
def opQ (o : Op) (env : List AV) (H : List Blk) (f : AV → List Blk → Option R) : Option R :=
  match o with
  | .buildSlice T n parts =>
    match P.underlying T with
    | some (.slice e) =>
      match tyOfT P e, zeroCells P e, partsOf env parts.toList with
      | some t, some z, some ps =>
        if n * t.sz ≤ 16777216 ∧ 0 < t.sz ∧ z.length = t.sz then
          match fillL (fun i => some (i * t.sz, t.sz)) ((List.replicate n z).flatten) ps with
          | some cs => match decRow t n [] cs with
            | some (l, _) => f (cellV (.ro t l)) H
            | none => none
          | none => none
        else none
      | _, _, _ => none
    | _ => none
  | .convert src dst x => convX P false src dst x env H f
  | o => opX P fs o env H f
def Op.quiet : Op → Bool
  | .buildSlice _ _ _ => true
  | .move _ | .assign _ | .pick _ _ _ | .build _ _ | .load _ _ | .nilCheck _ | .binOp _ _ _ _ _ | .unOp _ _ _ | .convert _ _ _ | .fieldAddr _ _ _ | .field _ _ _ | .indexAddr _ _ _ | .index _ _ _ | .extract _ _ | .slice _ _ _ _ _ | .lookup _ _ _ _ => true
  | .call c => match c.callee with | .builtin .len | .builtin .min | .builtin .max => true | _ => false
  | _ => false
def AV.idsOf : AV → List Nat
  | .v x => x.ids
  | .tup xs => xs.flatMap V1.ids
def opIds (env : List AV) (o : Op) : List Nat := o.operands.toList.flatMap fun x => (evalV env x).idsOf

def callMods (g : FuncId) (args : List V1) (H : List Blk) : List Nat :=
  match fs g args H with
  | some sp => reach H fuelR ((if sp.borrow = true then args.map (V1.lend H) else args).flatMap V1.ids) []
  | none => []
def callXMods (c : Call) (env : List AV) (H : List Blk) : List Nat :=
  match valsOf env c.args.toList with
  | some args =>
    match c.callee with
    | .builtin _ => args.flatMap V1.ids
    | .value g =>
      match evalV env g with
      | .v (.one (.sfn g)) => callMods fs g args H
      | .v (.one (.fn g b)) => match H[b]? with
        | some (.clo _ first cap) => callMods fs g (first ++ args ++ cap) H
        | _ => []
      | .v (.one (.yl b)) => match H[b]? with
        | some (.yld _ a _) => b :: reach H fuelR ((a ++ args).flatMap V1.ids) []
        | _ => []
      | _ => []
    | _ => []
  | none => []
def opMods (o : Op) (env : List AV) (H : List Blk) : List Nat :=
  match o with
  | .call c => callXMods fs c env H
  | o => opIds env o

structure Note where
  skip : Bool
  reads : List Nat
  mods : List Nat

def drawX (all : Array Oper) : List Oper → St → List Note → (St → List Note → Option R) → Option R
  | [], s, L, k => k s L
  | o :: r, s, L, k =>
    let pass (s : St) : Option R := drawX all r (s.put o.dst (.tup [])) (L ++ [⟨true, [], []⟩]) k
    let make (s : St) : Option R := opQ P fs o.op s.env s.H fun v H => drawX all r (({ s with H := H } : St).put o.dst v) (L ++ [⟨false, opIds s.env o.op, opMods fs o.op s.env s.H ++ List.range' s.H.length (H.length - s.H.length)⟩]) k
    match o.guard with
    | none => make s
    | some (j, want) =>
      match (all[j]?).bind (·.dst) with
      | some d =>
        match s.env.getD d AV.top with
        | .v (.one (.bool b)) =>
          let on (t : Bool) : Option R :=
            let s1 : St := { s with env := s.env.set d (cellV (.bool t)) }
            if t = want then make s1 else pass s1
          byB b (on true) (on false)
        | .tup [] => pass s
        | _ => none
      | none => none

def predsOf (o : Oper) : List Nat := (o.after.toList.filter (Region.binds .any)).map (·.on)
def ancsOf (ops : List Oper) : List (List Nat) :=
  ops.foldl (fun A o => A ++ [(predsOf o).foldl (fun acc p => (p :: A.getD p []).foldl (fun acc q => if acc.contains q then acc else q :: acc) acc) []]) []
def slotsRead (all : Array Oper) (o : Oper) : List Nat :=
  (o.op.operands.toList.filterMap fun | .tmp t => some t | _ => none) ++
  (match o.guard with
   | some (g, _) => ((all[g]?).bind (·.dst)).toList
   | none => [])
def freeOk (all : Array Oper) : Bool :=
  let l := all.toList
  let A := ancsOf l
  let n := l.length
  (List.range n).all fun i => match all[i]? with
    | none => false
    | some o =>
      ((predsOf o).all (· < i) && (A.getD i []).all (fun q => (predsOf o).any fun p => p == q || (A.getD p []).contains q)) &&
      (match o.op with | .select _ _ => false | _ => true) &&
      (List.range n).all fun k => match all[k]? with
        | none => false
        | some p =>
          k == i ||
          ((match p.dst with
            | some d => (!(slotsRead all o).contains d || (if k < i then (A.getD i []).contains k else (A.getD k []).contains i)) && o.dst != some d
            | none => true) &&
           (Op.quiet o.op || Op.quiet p.op || (if k < i then (A.getD i []).contains k else (A.getD k []).contains i)))
def notesOk (all : Array Oper) (L : List Note) : Bool :=
  let l := all.toList
  let A := ancsOf l
  let n := l.length
  (List.range n).all fun i => (List.range n).all fun k =>
    match all[i]?, all[k]?, L[i]?, L[k]? with
    | some o, some p, some x, some y =>
      (k == i) || !Op.quiet o.op || Op.quiet p.op || x.skip || y.skip || (A.getD i []).contains k || (A.getD k []).contains i || x.reads.all fun b => !y.mods.contains b
    | _, _, _, _ => false

def opsX (all : Array Oper) : List Oper → St → (St → Option R) → Option R
  | [], s, k => k s
  | o :: r, s, k =>
    match o.guard with
    | none => opX P fs o.op s.env s.H fun v H => opsX all r (({ s with H := H } : St).put o.dst v) k
    | some (j, want) =>
      match (all[j]?).bind (·.dst) with
      | some d =>
        match s.env.getD d AV.top with
        | .v (.one (.bool b)) =>
          let on (t : Bool) : Option R :=
            let s1 : St := { s with env := s.env.set d (cellV (.bool t)) }
            if t = want then opX P fs o.op s1.env s1.H fun v H => opsX all r (({ s1 with H := H } : St).put o.dst v) k
            else opsX all r (s1.put o.dst (.tup [])) k
          byB b (on true) (on false)
        | .tup [] => opsX all r (s.put o.dst (.tup [])) k
        | _ => none
      | none => none

/-! ### A row that is appended to, and read on: from then on all of it is only read -/
def Cell.frz (b : Nat) (t : Ty) (l : List t.den) : Cell → Cell
  | .full b' => if b' = b then .ro t l else .full b'
  | x => x
def V1.frz (b : Nat) (t : Ty) (l : List t.den) : V1 → V1
  | .one x => .one (x.frz b t l)
  | .agg cs => .agg (cs.map (Cell.frz b t l))
def AV.frz (b : Nat) (t : Ty) (l : List t.den) : AV → AV
  | .v x => .v (x.frz b t l)
  | .tup vs => .tup (vs.map (V1.frz b t l))
def Blk.frz (b : Nat) (t : Ty) (l : List t.den) : Blk → Blk
  | .var T cs => .var T (cs.map (Cell.frz b t l))
  | .clo f x y => .clo f (x.map (V1.frz b t l)) (y.map (V1.frz b t l))
  | .yld f x d => .yld f (x.map (V1.frz b t l)) d
  | B => B
def appZ (T T' : TypeId) (b : Nat) (y : Cell) (env : List AV) (H : List Blk) (f : AV → List AV → List Blk → Option R) : Option R :=
  match P.underlying T, P.underlying T', H[b]? with
  | some (.slice e), some (.slice _), some (.row e' t l) =>
    match tyOfT P e, P.info? e, rowOf H t y with
    | some t', some i, some m =>
      if t' = t ∧ e' = e ∧ e < 1000000 ∧ 0 < t.sz ∧ (i.zero.map (·.cells.size)) = some t.sz ∧ T' = T ∧ 1 ≤ i.bytes then
        if (l.length + m.length) * i.bytes ≤ 140737488355328 then f (cellV (.ro t (l ++ m))) (env.map (AV.frz b t l)) ((H.set b .dead).map (Blk.frz b t l)) else none
      else none
    | _, _, _ => none
  | _, _, _ => none
def killO (H : List Blk) : Option Nat → List Blk
  | some b => H.set b .dead
  | none => H
def bldO (T : TypeId) (parts : Array (Nat × Operand)) (env : List AV) (H : List Blk) (f : AV → List Blk → Option R) : Option R :=
  match P.underlying T with
  | some (.slice e) =>
    match tyOfT P e, zeroCells P e, partsOf env parts.toList with
    | some t, some z, some ps =>
      if t.own = true ∧ t.sz ≤ 16777216 ∧ z.length = t.sz then
        match fillL (fun i => some (i * t.sz, t.sz)) z ps with
        | some cs => match decO H t cs with
          | some (x, b) => f (cellV (.ofull H.length)) (killO H b ++ [.own e t [x]])
          | none => none
        | none => none
      else none
    | _, _, _ => none
  | _ => none
def appO (T T' : TypeId) (x : Cell) (d : Nat) (H : List Blk) (f : AV → List Blk → Option R) : Option R :=
  match P.underlying T, P.underlying T', H[d]? with
  | some (.slice e), some (.slice _), some (.own e' t m) =>
    match tyOfT P e, P.info? e with
    | some t', some i =>
      if t' = t ∧ e' = e ∧ (i.zero.map (·.cells.size)) = some t.sz ∧ T' = T ∧ 1 ≤ i.bytes then
        match x with
        | .nils => if m.length * i.bytes ≤ 140737488355328 then f (cellV (.ofull H.length)) (H.set d .dead ++ [.own e t m]) else none
        | .ofull b =>
          if b = d then none else
          match H[b]? with
          | some (.own e2 t2 l) =>
            if e2 = e then
              if h : t2 = t then
                if (l.length + m.length) * i.bytes ≤ 140737488355328 then f (cellV (.ofull H.length)) ((H.set d .dead).set b .dead ++ [.own e t ((h ▸ l : List t.den) ++ m)]) else none
              else none
            else none
          | _ => none
        | _ => none
      else none
    | _, _ => none
  | _, _, _ => none
def opZ (o : Op) (env : List AV) (H : List Blk) (f : AV → List AV → List Blk → Option R) : Option R :=
  match o with
  | .call c =>
    match c.callee, valsOf env c.args.toList, c.argTypes[0]?, c.argTypes[1]? with
    | .builtin .append, some [.one x, .one y], some T, some T' =>
      match y with
      | .ofull d => appO P T T' x d H fun v H => f v env H
      | y => match x with
        | .full b => appZ P T T' b y env H f
        | _ => none
    | _, _, _, _ => none
  | .buildSlice T n parts =>
    match (P.underlying T).bind (fun | .slice e => tyOfT P e | _ => none) with
    | some t => if t.own = true ∧ n = 1 then bldO P T parts env H fun v H => f v env H else opX P fs (.buildSlice T n parts) env H fun v H => f v env H
    | none => opX P fs (.buildSlice T n parts) env H fun v H => f v env H
  | o => opX P fs o env H fun v H => f v env H
def opsZ : List Oper → St → (St → Option R) → Option R
  | [], s, k => k s
  | o :: r, s, k =>
    match o.guard with
    | none => opZ P fs o.op s.env s.H fun v env H => opsZ r (({ env := env, H := H } : St).put o.dst v) k
    | some _ => none

def ownNil1 (i : Nat) (H : List Blk) : List Blk :=
  match H[i]? with
  | some (.var T [.nils]) =>
    match P.underlying T with
    | some (.slice e) => match tyOfT P e with
      | some t => BSs.deep [.row e t, .var T [.full 0]] 1 [(i, 1)] [] H
      | none => H
    | _ => H
  | _ => H
def ownNils (H : List Blk) : List Blk := (List.range H.length).foldl (fun H i => ownNil1 P i H) H

def rfX (gid : Nat) (g : Operand) (ps : Array Tmp) (as body : Code) (s : St) (k : Exit → St → Option R) : Option R :=
  match evalV s.env g with
  | .v (.one (.fn g b)) =>
    match s.H[b]? with
    | some (.clo g' first cap) =>
      if g' = g then
        if s.env.length = rnt P (rfId gid body) then
        callF fs g (first ++ [.one (.yl s.H.length)] ++ cap) (s.H ++ [.yld (rfId gid body) (slotsOf s.env (rslots ps as body)) false]) fun _ H =>
          match H[s.H.length]? with
          | some (.yld _ _ d) => byB d (k .ret ⟨s.env, H.set s.H.length .dead⟩) (k .normal ⟨s.env, H.set s.H.length .dead⟩)
          | _ => none
        else none
      else none
    | _ => none
  | _ => none

variable (N nin gid : Nat) (loops joins : List LSpec)

def St.takeP (l : LSpec) (s : St) : Option l.pat.den := l.pat.take nin (slotsOf s.env l.slots) s.H
def St.ofP (m : Nat) (l : LSpec) (x : l.pat.den) : St := ⟨envAt m l.slots (l.pat.inj x).1, (l.pat.inj x).2⟩

def unrollX (body : St → (Exit → St → Option R) → Option R) : Nat → St → (Exit → St → Option R) → Option R
  | 0, _, _ => none
  | n + 1, s, k => body s fun e s' => match e with | .normal => unrollX body n s' k | e => k e s'
def codeX : Code → St → (Exit → St → Option R) → Option R
  | .skip, s, k => k .normal s
  | .label _, s, k => k .normal s
  | .exit id, s, k => k (.exit id) s
  | .ret, s, k => k .ret s
  | .region id ops d, s, k =>
    if d = true then (if (freeOk ops && P.follows .mixedOrders) = true then drawX P fs ops ops.toList s [] fun s L => if notesOk ops L = true then k .normal s else none else none)
    else if (joins.any fun l => l.key == 1000000000 + id) = true then opsZ P fs ops.toList s (k .normal)
    else opsX P fs ops ops.toList s (k .normal)
  | .seq a b, s, k =>
    match joins.find? fun l => some l.key == firstRegion b with
    | some l => withJoin (fun x => codeX b (St.ofP s.env.length l x) k) fun j => codeX a s fun e s' => match e with | .normal => (s'.takeP nin l).bind j | e => k e s'
    | none => codeX a s fun e s' => match e with | .normal => codeX b s' k | e => k e s'
  | .cond c a b, s, k =>
    match evalV s.env c with
    | .v (.one (.bool t)) => byB t (codeX a s k) (codeX b s k)
    | _ => none
  | .block id c, s, k => codeX c s fun e s' => match e with | .exit i => if i = id then k .normal s' else k (.exit i) s' | e => k e s'
  | .scope c, s, k => codeX c s fun e s' => match e with | .goto _ => none | e => k e s'
  | .loop c, s, k =>
    match loops.find? fun l => some l.key == firstRegion c with
    | some l => (s.takeP nin l).bind (loopN N fun again x => codeX c (St.ofP s.env.length l x) fun e s' => match e with | .normal => (s'.takeP nin l).bind again | e => k e s')
    | none => unrollX (fun s k => codeX c s k) 12 s k
  | .rangeFunc g ps as body, s, k => rfX P fs gid g ps as body ⟨s.env, ownNils P s.H⟩ k
  | _, _, _ => none

def resX (s : St) : List ResultVar → Option (List V1)
  | [] => some []
  | .tmp t :: r => match V1.ofAV (s.env.getD t AV.top), resX s r with
    | some v, some l => some (v :: l)
    | _, _ => none
  | .cell a T :: r => match s.env.getD a AV.top, resX s r with
    | .v (.one c), some l => match loadC P s.H T c with
      | some v => some (v :: l)
      | none => none
    | _, _ => none

@[reducible] def RP.den : List Pat → Type
  | [] => Empty
  | [p] => p.den
  | p :: q :: r => p.den ⊕ RP.den (q :: r)
def RP.take : (l : List Pat) → Nat → List V1 → List Blk → Option (RP.den l)
  | [], _, _, _ => none
  | [p], n, vs, H => p.take n vs H
  | p :: q :: r, n, vs, H =>
    match p.take n vs H with
    | some x => some (.inl x)
    | none => match RP.take (q :: r) n vs H with
      | some y => some (.inr y)
      | none => none
def RP.inj : (l : List Pat) → RP.den l → List V1 × List Blk
  | [], _ => ([], [])
  | [p], x => p.inj x
  | p :: _ :: _, .inl x => p.inj x
  | _ :: q :: r, .inr y => RP.inj (q :: r) y
def RP.byK {R : Type} : (l : List Pat) → RP.den l → (List V1 × List Blk → Option R) → Option R
  | [], _, k => k ([], [])
  | [p], x, k => k (p.inj x)
  | p :: q :: r, x, k =>
    match x with
    | .inl x => k (p.inj x)
    | .inr y => RP.byK (q :: r) y k
theorem RP.byK_eq {R : Type} : ∀ (l : List Pat) (x : RP.den l) (k : List V1 × List Blk → Option R), RP.byK l x k = k (RP.inj l x)
  | [], _, _ => rfl
  | [_], _, _ => rfl
  | _ :: _ :: _, .inl _, _ => rfl
  | _ :: q :: r, .inr y, k => RP.byK_eq (q :: r) y k

def funX (fn : Func) (ap : Pat) (rp : List Pat) (x : ap.den) : Option (RP.den rp) :=
  match fn.body with
  | some c =>
    if rfOk c = true then
    let a := ap.inj x
    codeX P fs N ap.bs.length gid loops joins c ⟨a.1.map .v ++ List.replicate (fn.ntmps - a.1.length) AV.top, a.2⟩ fun e s =>
      match e with
      | .normal | .ret => (resX P s fn.results.toList).bind fun vs => RP.take rp ap.bs.length vs s.H
      | _ => none
    else none
  | none => none

def isBoolP (p : Pat) : Bool := match p.vs with | [.one .bool] => true | _ => false

def rndX (m : Nat) (ri : Array Tmp × Code × Code) (ap : Pat) (rp : List Pat) (x : ap.den) : Option (RP.den rp) :=
  let a := ap.inj x
  if ((rfsOf ri.2.1).isEmpty && (rfsOf ri.2.2).isEmpty && rp.all isBoolP) = true then
    codeX P fs N ap.bs.length gid loops joins ri.2.1 ⟨startE m (rslots ri.1 ri.2.1 ri.2.2) ri.1 a.1, a.2⟩ fun e s =>
      match e with
      | .normal => codeX P fs N ap.bs.length gid loops joins ri.2.2 s fun e s =>
        match e with
        | .normal => RP.take rp ap.bs.length [.one (.bool false)] s.H
        | .ret => RP.take rp ap.bs.length [.one (.bool true)] s.H
        | _ => none
      | _ => none
  else none

def resAV : List V1 → AV
  | [v] => .v v
  | vs => .tup vs

def CS.ron : CS → Cell → Cell
  | .ro t, .nils => .ro t []
  | _, c => c
def CSs.ron : List CS → List Cell → List Cell
  | s :: r, c :: cs => s.ron c :: CSs.ron r cs
  | _, cs => cs
def VS.ron : VS → V1 → V1
  | .one s, .one c => .one (s.ron c)
  | .agg l, .agg cs => .agg (CSs.ron l cs)
  | _, v => v
def VSs.ron : List VS → List V1 → List V1
  | s :: r, c :: cs => s.ron c :: VSs.ron r cs
  | _, cs => cs
def okArgs (ap : Pat) (borrow : Bool) (args : List V1) (H : List Blk) : Bool :=
  let as := if borrow = true then args.map (V1.lend H) else args
  let ρ := reach H fuelR (as.flatMap V1.ids) []
  (ap.prj (VSs.ron ap.vs (as.map (V1.ren (place ρ)))) (pick H ρ)).isSome

def specOf (ap : Pat) (rp : List Pat) (borrow : Bool) (f : ap.den → Option (RP.den rp)) : FSpec where
  X := RP.den rp
  imp := fun args H => (ap.prj (VSs.ron ap.vs args) H).bind f
  out := fun _ _ y => (resAV (RP.inj rp y).1, (RP.inj rp y).2)
  borrow := borrow
  outK := fun _ _ y k => RP.byK rp y fun z => k (resAV z.1, z.2)
  outK_eq := fun _ _ y k => RP.byK_eq rp y fun z => k (resAV z.1, z.2)

def rspecOf (m : Nat) (ap : Pat) (rp : List Pat) (f : ap.den → Option (RP.den rp)) : FSpec := { specOf ap rp false f with round := some m }

end

end Go.Proofs.YtcdnofemnpafhaaM
