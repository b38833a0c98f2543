/- What an operation of the loaded program and one of the evaluator have to do with each other. -/
import Derived.Test.YtbfmjoheolgjeaaGreatDoorAvC
import Derived.Laws.Append
import Derived.Laws.CopyRow
import Derived.Laws.Entries
import Derived.Lib.AppendStr
import Derived.Lib.AppendZeros
import Derived.Lib.AppendZerosOnto
import Derived.WalkKit
namespace Go.Av

mutual
def vmatch : AV → Value → Bool
  | .int k n, .int k' n' => k == k' && n == n'
  | .bool b, .bool b' => b == b'
  | .str l n, .string s => s.data.toList.length == l && pack s.data.toList == n
  | .nilp, .pointer none => true
  | .nils, .slice none 0 0 => true
  | .nilf, .nilFunc => true
  | .fn f [] [], .func (.func f') a b => f == f' && a.size == 0 && b.size == 0
  | .nili, .nilIface => true
  | .ifc t v, .iface t' u => t == t' && vmatch v u
  | .nilm, .map none => true
  | .agg l, .agg x => lmatch l x.toList
  | .tup l, .tuple x => lmatch l x.toList
  | _, _ => false
def lmatch : List AV → List Value → Bool
  | [], [] => true
  | v :: l, u :: x => vmatch v u && lmatch l x
  | _, _ => false
end

theorem LR.cons {β : Beta} {v : AV} {u : Value} {l : List AV} {x : List Value} (hv : VR β v u) (h : LR β l x.toArray) : LR β (v :: l) (u :: x).toArray := by
  refine ⟨by have := h.size; simpa using this, fun i h1 h2 => ?_⟩
  cases i with
  | zero => simpa using hv
  | succ i =>
    have := h.at_ i (by simpa using h1) (by simpa using h2)
    simpa using this

mutual
theorem vmatch_sound (β : Beta) : ∀ (v : AV) (u : Value), vmatch v u = true → VR β v u := by
  intro v u h
  cases v with
  | agg l =>
    cases u <;> first | (simp [vmatch] at h; done) | skip
    rename_i x
    have := lmatch_sound β l x.toList (by simpa [vmatch] using h)
    exact .agg l x (by simpa using this.size) (fun i a b => by have := this.at_ i a (by simpa using b); simpa using this)
  | tup l =>
    cases u <;> first | (simp [vmatch] at h; done) | skip
    rename_i x
    have := lmatch_sound β l x.toList (by simpa [vmatch] using h)
    exact .tup l x (by simpa using this.size) (fun i a b => by have := this.at_ i a (by simpa using b); simpa using this)
  | ifc t v =>
    cases u <;> first | (simp [vmatch] at h; done) | skip
    rename_i t' u
    simp only [vmatch, Bool.and_eq_true, beq_iff_eq] at h
    obtain ⟨rfl, h2⟩ := h
    exact .ifc t v u (vmatch_sound β v u h2)
  | int k n =>
    cases u <;> first | (simp [vmatch] at h; done) | skip
    simp only [vmatch, Bool.and_eq_true, beq_iff_eq] at h
    obtain ⟨rfl, rfl⟩ := h
    exact .int _ _
  | bool b =>
    cases u <;> first | (simp [vmatch] at h; done) | skip
    simp only [vmatch, beq_iff_eq] at h
    subst h
    exact .bool _
  | str l n =>
    cases u <;> first | (simp [vmatch] at h; done) | skip
    simp only [vmatch, Bool.and_eq_true, beq_iff_eq] at h
    exact .str _ l n h.1 h.2
  | nilp =>
    unfold vmatch at h
    split at h <;> first | (cases h; done) | skip
    all_goals first | exact .nilp | simp_all
  | nils =>
    unfold vmatch at h
    split at h <;> first | (cases h; done) | skip
    all_goals first | exact .nils | simp_all
  | nilf =>
    unfold vmatch at h
    split at h <;> first | (cases h; done) | skip
    all_goals first | exact .nilf | simp_all
  | nili =>
    unfold vmatch at h
    split at h <;> first | (cases h; done) | skip
    all_goals first | exact .nili | simp_all
  | nilm =>
    unfold vmatch at h
    split at h <;> first | (cases h; done) | skip
    all_goals first | exact .nilm | simp_all
  | fn f first captured =>
    cases first with
    | cons x l => cases u <;> simp [vmatch] at h
    | nil => cases captured with
      | cons x l => cases u <;> simp [vmatch] at h
      | nil => cases u with
        | func g a b => cases g with
          | func f' =>
            simp only [vmatch, Bool.and_eq_true, beq_iff_eq] at h
            obtain ⟨⟨rfl, h2⟩, h3⟩ := h
            exact .fn _ [] [] _ _ (by simpa using h2) (by simpa using h3) (fun i a => by simp at a) (fun i a => by simp at a)
          | _ => simp [vmatch] at h
        | _ => simp [vmatch] at h
  | ptr b off => cases u <;> simp [vmatch] at h
  | slc b off len cap => cases u <;> simp [vmatch] at h
  | map b => cases u <;> simp [vmatch] at h
theorem lmatch_sound (β : Beta) : ∀ (l : List AV) (x : List Value), lmatch l x = true → LR β l x.toArray := by
  intro l x h
  cases l with
  | nil => cases x with
    | nil => exact LR.nil β
    | cons u x => simp [lmatch] at h
  | cons v l => cases x with
    | nil => simp [lmatch] at h
    | cons u x =>
      simp only [lmatch, Bool.and_eq_true] at h
      exact LR.cons (vmatch_sound β v u h.1) (lmatch_sound β l x h.2)
end

def omatch (ids vars : List Nat) : Opd → Operand → Bool
  | .loc i, .tmp t => match ids[i]? with | some t' => t == t' | none => false
  | .var t, .tmp t' => t == t' && vars.contains t
  | .cst v, .const u => vmatch v u
  | .cst v, .func f => vmatch v (.func (.func f) #[] #[])
  | _, _ => false

def osmatch (om : Opd → Operand → Bool) : List Opd → List Operand → Bool
  | [], [] => true
  | x :: l, o :: r => om x o && osmatch om l r
  | _, _ => false

def oomatch (om : Opd → Operand → Bool) : Option Opd → Option Operand → Bool
  | none, none => true
  | some x, some o => om x o
  | _, _ => false

/-- Is a type a struct or an array, and how many cells has it? -/
def aggN (P : Program) (t : TypeId) : Option Nat :=
  match P.underlying t with
  | some (.struct _) | some (.array _ _) => some (P.cellsOf t)
  | _ => none

def loadOK (P : Program) (t : TypeId) (n : Option Nat) : Bool :=
  (P.underlying t).isSome && (P.info? t).isSome && n == aggN P t

def partsOK (om : Opd → Operand → Bool) (place : Nat → Option (Nat × Nat)) : List (Nat × Nat × Opd) → List (Nat × Operand) → Bool
  | [], [] => true
  | (off, n, x) :: l, (i, o) :: r => (match place i with | some (off', n') => off == off' && n == n' | none => false) && om x o && partsOK om place l r
  | _, _ => false

def zeroIs (P : Program) (t : TypeId) (z : List AV) : Bool :=
  match P.info? t with
  | some i => match i.zero with
    | some v => lmatch z v.cells.toList
    | none => false
  | none => false

/-- A slice type's element: its cells are esz (1 at least), its bytes not too many. -/
def elemOK (P : Program) (t : TypeId) (esz : Nat) : Bool :=
  match P.underlying t with
  | some (.slice e) => match P.info? e with
    | some i => i.size == esz && decide (0 < esz) && decide (i.bytes ≤ 65536) && (match i.zero with | some z => z.cells.size == esz | none => false)
    | none => false
  | _ => false

def elemOf? (P : Program) (t : TypeId) : Option TypeId :=
  match P.underlying t with
  | some (.slice e) => some e
  | _ => none

def eqTag (P : Program) (t : TypeId) : Nat → Bool
  | 0 => match P.underlying t with | some .bool => true | _ => false
  | 1 => match P.underlying t with | some (.pointer _) => true | _ => false
  | 2 => match P.underlying t with | some (.slice _) => true | _ => false
  | 3 => match P.underlying t with | some (.func _ _ _) => true | _ => false
  | 4 => match P.underlying t with | some (.interface _) => true | _ => false
  | _ => false

def bodyOK (P : Program) (f : FuncId) : Bool :=
  match P.funcs[f]? with
  | some fn => fn.body.isSome && fn.name != "runtime.NumGoroutine"
  | none => false

def isInt (P : Program) (t : TypeId) : Bool := match P.underlying t with | some (.int _) => true | _ => false
def isStr (P : Program) (t : TypeId) : Bool := match P.underlying t with | some .string => true | _ => false

def lenKind (P : Program) (t : TypeId) (str : Bool) : Bool :=
  match P.underlying t, str with
  | some .string, true => true
  | some (.slice _), false => true
  | _, _ => false

def lenArg (P : Program) (om : Opd → Operand → Bool) (x : Opd) (c : Call) (str : Bool) : Bool :=
  match c.args.toList, c.argTypes[0]? with
  | [o], some t => om x o && lenKind P t str
  | _, _ => false

def tagOK (P : Program) (t : TypeId) : Nat → Bool
  | 0 => isInt P t
  | 1 => match P.underlying t with | some .bool => true | _ => false
  | _ => isStr P t

def fieldsOK (P : Program) : List (Nat × Nat) → List Field → Bool
  | fs, f :: l => if f.name = "_" then fieldsOK P fs l else (match fs with
    | (off, tag) :: fs => off == f.offset && tagOK P f.type tag && fieldsOK P fs l
    | [] => false)
  | [], [] => true
  | _, [] => false

/-- Does an operation of the loaded program do what an operation of the evaluator does? -/
def xmatch (P : Program) (om : Opd → Operand → Bool) (op : Op) : AX → Bool
  | .mov x => match op with | .move o => om x o | .assign o => om x o | _ => false
  | .pick c a b => match op with | .pick c' a' b' => om c c' && om a a' && om b b' | _ => false
  | .bin bop x y => match op with | .binOp bop' _ x' y' _ => bop == bop' && om x x' && om y y' | _ => false
  | .sbin bop x y => match op with | .binOp bop' _ x' y' _ => bop == bop' && om x x' && om y y' | _ => false
  | .eqv tag neg x y => match op with | .binOp bop' t x' y' _ => (bop' == if neg then .neq else .eql) && om x x' && om y y' && eqTag P t tag | _ => false
  | .not x => match op with | .unOp .not _ o => om x o | _ => false
  | .neg x => match op with | .unOp .neg _ o => om x o | _ => false
  | .conv k x => match op with
    | .convert s d o => om x o && (P.underlying s).isSome && (match P.underlying d with | some (.int k') => k == k' | _ => false)
    | _ => false
  | .s2s x => match op with
    | .convert s d o => om x o && (P.underlying s).isSome && isStr P d
    | _ => false
  | .b2s x => match op with
    | .convert s d o => om x o && isStr P d && (match P.underlying s with | some (.slice e) => (match P.underlying e with | some (.int .u8) => true | _ => false) | _ => false)
    | _ => false
  | .alloc z => match op with | .alloc t => zeroIs P t z | _ => false
  | .box _ x => match op with | .box _ o => om x o | _ => false
  | .build z ps => match op with
    | .build t parts => zeroIs P t z && (match P.underlying t with
      | some (.struct fields) => match fields.toList.mapM (fun f => (P.info? f.type).map fun i => (f.offset, i.size)) with
        | some places => partsOK om (places.toArray[·]?) ps parts.toList
        | none => false
      | some (.array _ e) => match P.info? e with
        | some ie => partsOK om (fun i => some (i * ie.size, ie.size)) ps parts.toList
        | none => false
      | _ => false)
    | _ => false
  | .bslice esz len z ps => match op with
    | .buildSlice t len' parts => len == len' && (match P.underlying t with
      | some (.slice e) => match P.info? e with
        | some i => i.size == esz && decide (0 < len * esz) && decide (len * esz ≤ 2 ^ 24) && (match i.zero with | some zv => lmatch z (((Array.range (len * esz)).map fun j => zv.cells[j % zv.cells.size]!).toList) | none => false)
            && partsOK om (fun i => some (i * esz, esz)) ps parts.toList
        | none => false
      | _ => false)
    | _ => false
  | .load n x => match op with | .load t o => om x o && loadOK P t n | _ => false
  | .store n a x => match op with | .store t o o' => om a o && om x o' && (match P.info? t with | some i => i.size == n | none => false) | _ => false
  | .nilc x => match op with | .nilCheck o => om x o | _ => false
  | .faddr off x => match op with
    | .fieldAddr s o f => om x o && (match P.underlying s with
      | some (.struct fields) => match fields[f]? with
        | some fd => fd.offset == off && (match P.info? fd.type with | some i => i.size != 0 | none => false)
        | none => false
      | _ => false)
    | _ => false
  | .fld off n x => match op with
    | .field s o f => om x o && (match P.underlying s with
      | some (.struct fields) => match fields[f]? with
        | some fd => fd.offset == off && loadOK P fd.type n
        | none => false
      | _ => false)
    | _ => false
  | .iaddr esz x i => match op with
    | .indexAddr t o o' => om x o && om i o' && (match P.underlying t with
      | some (.slice e) => match P.info? e with | some i => i.size == esz | none => false
      | _ => false)
    | _ => false
  | .idxS x i => match op with | .index t o o' => om x o && om i o' && isStr P t | _ => false
  | .slcS x lo hi => match op with | .slice t o l h m => om x o && oomatch om lo l && oomatch om hi h && m.isNone && isStr P t | _ => false
  | .slcL esz x lo hi mx => match op with
    | .slice t o l h m => om x o && oomatch om lo l && oomatch om hi h && oomatch om mx m && (mx.isNone || hi.isSome) && (match P.underlying t with
      | some (.slice e) => match P.info? e with | some i => i.size == esz && decide (0 < esz) | none => false
      | _ => false)
    | _ => false
  | .mkS esz z len cap => match op with
    | .makeSlice t l c => om len l && om cap c && elemOK P t esz && (match elemOf? P t with | some e => zeroIs P e z | none => false)
    | _ => false
  | .mkI t x => match op with
    | .makeInterface t' o => t == t' && om x o && (match P.underlying t with | some (.interface _) => false | some _ => true | none => false)
    | _ => false
  | .mkF f a b => match op with
    | .makeFunc (.func f') x y => f == f' && osmatch om a x.toList && osmatch om b y.toList
    | _ => false
  | .mkM => match op with | .makeMap _ none => true | _ => false
  | .look ok z m k => match op with
    | .lookup t o o' ok' => ok == ok' && om m o && om k o' && (match P.underlying t with
      | some (.map key e) => isStr P key && (match P.info? e with | some i => (match i.zero with | some v => vmatch z v | none => false) | none => false)
      | _ => false)
    | _ => false
  | .upd m k v => match op with
    | .mapUpdate t o o' o'' => om m o && om k o' && om v o'' && (match P.underlying t with | some (.map key _) => isStr P key | _ => false)
    | _ => false
  | .ext i x => match op with | .extract o i' => i == i' && om x o | _ => false
  | .lenS x => match op with | .call c => (match c.callee with | .builtin .len => lenArg P om x c true | _ => false) | _ => false
  | .lenL x => match op with | .call c => (match c.callee with | .builtin .len => lenArg P om x c false | _ => false) | _ => false
  | .app esz s x => match op with
    | .call c => (match c.callee with
      | .builtin .append => (match c.args.toList, c.argTypes.toList with
        | [o, o'], [t, t'] => om s o && om x o' && elemOK P t esz && (match P.underlying t' with | some (.slice _) => true | _ => false)
        | _, _ => false)
      | _ => false)
    | _ => false
  | .appS s x => match op with
    | .call c => (match c.callee with
      | .builtin .append => (match c.args.toList, c.argTypes.toList with
        | [o, o'], [t, t'] => om s o && om x o' && elemOK P t 1 && isStr P t'
        | _, _ => false)
      | _ => false)
    | _ => false
  | .appZ esz z s n => match op with
    | .call c => (match c.callee with
      | .builtin .append => (match c.args.toList, c.argTypes.toList with
        | [o, o'], [t, t'] => om s o && om n o' && elemOK P t esz && isInt P t' && (match elemOf? P t with | some e => zeroIs P e z | none => false)
        | _, _ => false)
      | _ => false)
    | _ => false
  | .cpy esz d s => match op with
    | .call c => (match c.callee with
      | .builtin .copy => (match c.args.toList, c.argTypes.toList with
        | [o, o'], t :: _ => om d o && om s o' && elemOK P t esz
        | _, _ => false)
      | _ => false)
    | _ => false
  | .max x y => match op with
    | .call c => (match c.callee with | .builtin .max => osmatch om [x, y] c.args.toList | _ => false)
    | _ => false
  | .min x y => match op with
    | .call c => (match c.callee with | .builtin .min => osmatch om [x, y] c.args.toList | _ => false)
    | _ => false
  | .call f args => match op with
    | .call c => (match c.callee with | .value (.func f') => f == f' && osmatch om args c.args.toList && bodyOK P f | _ => false)
    | _ => false
  | .callv x args => match op with
    | .call c => (match c.callee with | .value (.tmp t) => om x (.tmp t) && osmatch om args c.args.toList | _ => false)
    | _ => false
  | .bad => true
  | .eqs neg fs x y => match op with
    | .binOp bop' t x' y' _ => (bop' == if neg then .neq else .eql) && om x x' && om y y' && (match P.underlying t with
      | some (.struct fields) => !P.stoodInHeld t && !P.eqGuardType P.depth t && fieldsOK P fs fields.toList
      | _ => false)
    | _ => false
  | .clr esz z x => match op with
    | .call c => (match c.callee with
      | .builtin .clear => (match c.args.toList, c.argTypes[0]? with
        | [o], some t => om x o && elemOK P t esz && (match elemOf? P t with | some e => zeroIs P e z | none => false)
        | _, _ => false)
      | _ => false)
    | _ => false
  | .capL x => match op with | .call c => (match c.callee with | .builtin .cap => lenArg P om x c false | _ => false) | _ => false
  | .iaddrA len esz x i => match op with
    | .indexAddr t o o' => om x o && om i o' && (match P.underlying t with
      | some (.array len' e) => len == len' && (match P.info? e with | some i => i.size == esz | none => false)
      | _ => false)
    | _ => false
  | .slcA n esz x lo hi mx => match op with
    | .slice t o l h m => om x o && oomatch om lo l && oomatch om hi h && oomatch om mx m && (mx.isNone || hi.isSome) && (match P.underlying t with
      | some (.array n' e) => n == n' && (match P.info? e with | some i => i.size == esz | none => false)
      | _ => false)
    | _ => false
  | .bnil esz => match op with | .buildSlice t len parts => len == 0 && parts.isEmpty && elemOK P t esz | _ => false

end Go.Av
