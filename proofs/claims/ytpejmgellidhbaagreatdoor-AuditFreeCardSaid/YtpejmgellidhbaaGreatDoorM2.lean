/-
  'Ok' of the model's operations that the sequential functions of the program use (M1's predicate), as instances of a class: so each is found by itself.
-/
import Derived.Test.YtpejmgellidhbaaGreatDoorM1
import GoSem.Dispatch
set_option linter.all false
set_option linter.unusedVariables false
namespace Go.Proofs.YtpejmgellidhbaaGreatDoor
open Go

theorem ok_ite {P : Program} {α : Type} {c : Prop} [Decidable c] {a b : Sem α} (h1 : OkT P a) (h2 : OkT P b) : OkT P (if c then a else b) := by
  split
  · exact h1
  · exact h2

class K (P : Program) {α : Type} (s : Sem α) : Prop where
  ok : OkT P s

section
variable {P : Program} {α β : Type}
instance k_load (a : Addr) (m : Mode) : K P (load a m) := ⟨fun _ => trivial⟩
instance k_store (a : Addr) (v : Value) (m : Mode) : K P (store a v m) := ⟨trivial⟩
instance k_newObj (o : Obj) : K P (newObj o) := ⟨fun _ => trivial⟩
instance k_shape (r : Nat) : K P (shape r) := ⟨fun _ => trivial⟩
instance k_freeze (a : Addr) (n : Nat) : K P (freeze a n) := ⟨trivial⟩
instance k_frozen (a : Addr) : K P (frozen a) := ⟨fun _ => trivial⟩
instance k_getObj (r : Nat) : K P (getObj r) := ⟨fun _ => trivial⟩
instance k_setObj (r : Nat) (o : Obj) : K P (setObj r o) := ⟨trivial⟩
instance k_choose (q : Question) : K P (choose q) := ⟨fun _ => trivial⟩
instance k_program : K P program := ⟨trivial⟩
instance k_noRoom : K P (mark .noRoom) := ⟨⟨trivial, trivial⟩⟩
instance k_stuck (s : String) : K P (stuck s : Sem α) := ⟨trivial⟩
instance k_unsupported (u : Unsupported) : K P (unsupported u : Sem α) := ⟨trivial⟩
instance k_goPanic (v : Value) : K P (goPanic v : Sem α) := ⟨trivial⟩
instance k_pure (a : α) : K P (pure a : Sem α) := ⟨trivial⟩
instance k_bind {s : Sem α} {f : α → Sem β} [h : K P s] [g : ∀ a, K P (f a)] : K P (s >>= f) := ⟨OkT.bind h.ok fun a => (g a).ok⟩
instance k_map {s : Sem α} {f : α → β} [h : K P s] : K P (f <$> s) := ⟨OkT.map h.ok⟩
instance k_mapM {f : α → Sem β} {l : Array α} [g : ∀ a, K P (f a)] : K P (l.mapM f) := ⟨ok_mapM (fun a => (g a).ok) l⟩
instance k_askRoom (n : Nat) : K P (askRoom n) := ⟨by
  unfold askRoom
  repeat' (first | exact K.ok | refine OkT.bind ?_ (fun _ => ?_) | refine ok_forIn (fun _ _ => ?_) _ _ | refine ok_forIn_range (fun _ _ => ?_) _ _ | intro _ | refine ok_ite ?_ ?_ | split | exact trivial | exact ⟨trivial, trivial⟩ | dsimp only)⟩
instance k_viewAt (r : Nat) : K P (viewAt r) := ⟨by
  unfold viewAt
  repeat' (first | exact K.ok | refine OkT.bind ?_ (fun _ => ?_) | refine ok_forIn (fun _ _ => ?_) _ _ | refine ok_forIn_range (fun _ _ => ?_) _ _ | intro _ | refine ok_ite ?_ ?_ | split | exact trivial | exact ⟨trivial, trivial⟩ | dsimp only)⟩
instance k_numberAt (r : Nat) : K P (numberAt r) := ⟨by
  unfold numberAt
  repeat' (first | exact K.ok | refine OkT.bind ?_ (fun _ => ?_) | refine ok_forIn (fun _ _ => ?_) _ _ | refine ok_forIn_range (fun _ _ => ?_) _ _ | intro _ | refine ok_ite ?_ ?_ | split | exact trivial | exact ⟨trivial, trivial⟩ | dsimp only)⟩
instance k_asNumber (a : Addr) (l : Bool) : K P (asNumber a l) := ⟨by
  unfold asNumber
  repeat' (first | exact K.ok | refine OkT.bind ?_ (fun _ => ?_) | refine ok_forIn (fun _ _ => ?_) _ _ | refine ok_forIn_range (fun _ _ => ?_) _ _ | intro _ | refine ok_ite ?_ ?_ | split | exact trivial | exact ⟨trivial, trivial⟩ | dsimp only)⟩
instance k_behindNumber (a : Addr) : K P (behindNumber a) := ⟨by
  unfold behindNumber
  repeat' (first | exact K.ok | refine OkT.bind ?_ (fun _ => ?_) | refine ok_forIn (fun _ _ => ?_) _ _ | refine ok_forIn_range (fun _ _ => ?_) _ _ | intro _ | refine ok_ite ?_ ?_ | split | exact trivial | exact ⟨trivial, trivial⟩ | dsimp only)⟩
instance k_noView (a : Addr) : K P (noView a) := ⟨by
  unfold noView
  repeat' (first | exact K.ok | refine OkT.bind ?_ (fun _ => ?_) | refine ok_forIn (fun _ _ => ?_) _ _ | refine ok_forIn_range (fun _ _ => ?_) _ _ | intro _ | refine ok_ite ?_ ?_ | split | exact trivial | exact ⟨trivial, trivial⟩ | dsimp only)⟩
instance k_markStringish (a : Addr) : K P (markStringish a) := ⟨by
  unfold markStringish
  repeat' (first | exact K.ok | refine OkT.bind ?_ (fun _ => ?_) | refine ok_forIn (fun _ _ => ?_) _ _ | refine ok_forIn_range (fun _ _ => ?_) _ _ | intro _ | refine ok_ite ?_ ?_ | split | exact trivial | exact ⟨trivial, trivial⟩ | dsimp only)⟩
instance k_stringish (a : Addr) : K P (stringish a) := ⟨by
  unfold stringish
  repeat' (first | exact K.ok | refine OkT.bind ?_ (fun _ => ?_) | refine ok_forIn (fun _ _ => ?_) _ _ | refine ok_forIn_range (fun _ _ => ?_) _ _ | intro _ | refine ok_ite ?_ ?_ | split | exact trivial | exact ⟨trivial, trivial⟩ | dsimp only)⟩
instance k_mayBeOne (a b : Addr) : K P (mayBeOne a b) := ⟨by
  unfold mayBeOne
  repeat' (first | exact K.ok | refine OkT.bind ?_ (fun _ => ?_) | refine ok_forIn (fun _ _ => ?_) _ _ | refine ok_forIn_range (fun _ _ => ?_) _ _ | intro _ | refine ok_ite ?_ ?_ | split | exact trivial | exact ⟨trivial, trivial⟩ | dsimp only)⟩
instance k_sameAddr (a b : Addr) : K P (sameAddr a b) := ⟨by
  unfold sameAddr
  repeat' (first | exact K.ok | refine OkT.bind ?_ (fun _ => ?_) | refine ok_forIn (fun _ _ => ?_) _ _ | refine ok_forIn_range (fun _ _ => ?_) _ _ | intro _ | refine ok_ite ?_ ?_ | split | exact trivial | exact ⟨trivial, trivial⟩ | dsimp only)⟩
instance k_samePointer (a b : Option Addr) : K P (samePointer a b) := ⟨by
  unfold samePointer
  repeat' (first | exact K.ok | refine OkT.bind ?_ (fun _ => ?_) | refine ok_forIn (fun _ _ => ?_) _ _ | refine ok_forIn_range (fun _ _ => ?_) _ _ | intro _ | refine ok_ite ?_ ?_ | split | exact trivial | exact ⟨trivial, trivial⟩ | dsimp only)⟩
instance k_typeInfo (t : TypeId) : K P (typeInfo t) := ⟨by
  unfold typeInfo
  repeat' (first | exact K.ok | refine OkT.bind ?_ (fun _ => ?_) | refine ok_forIn (fun _ _ => ?_) _ _ | refine ok_forIn_range (fun _ _ => ?_) _ _ | intro _ | refine ok_ite ?_ ?_ | split | exact trivial | exact ⟨trivial, trivial⟩ | dsimp only)⟩
instance k_underlying (t : TypeId) : K P (underlying t) := ⟨by
  unfold underlying
  repeat' (first | exact K.ok | refine OkT.bind ?_ (fun _ => ?_) | refine ok_forIn (fun _ _ => ?_) _ _ | refine ok_forIn_range (fun _ _ => ?_) _ _ | intro _ | refine ok_ite ?_ ?_ | split | exact trivial | exact ⟨trivial, trivial⟩ | dsimp only)⟩
instance k_typeStr (t : TypeId) : K P (typeStr t) := ⟨by
  unfold typeStr
  repeat' (first | exact K.ok | refine OkT.bind ?_ (fun _ => ?_) | refine ok_forIn (fun _ _ => ?_) _ _ | refine ok_forIn_range (fun _ _ => ?_) _ _ | intro _ | refine ok_ite ?_ ?_ | split | exact trivial | exact ⟨trivial, trivial⟩ | dsimp only)⟩
instance k_zeroValue (t : TypeId) : K P (zeroValue t) := ⟨by
  unfold zeroValue
  repeat' (first | exact K.ok | refine OkT.bind ?_ (fun _ => ?_) | refine ok_forIn (fun _ _ => ?_) _ _ | refine ok_forIn_range (fun _ _ => ?_) _ _ | intro _ | refine ok_ite ?_ ?_ | split | exact trivial | exact ⟨trivial, trivial⟩ | dsimp only)⟩
instance k_sizeOf (t : TypeId) : K P (sizeOf t) := ⟨by
  unfold sizeOf
  repeat' (first | exact K.ok | refine OkT.bind ?_ (fun _ => ?_) | refine ok_forIn (fun _ _ => ?_) _ _ | refine ok_forIn_range (fun _ _ => ?_) _ _ | intro _ | refine ok_ite ?_ ?_ | split | exact trivial | exact ⟨trivial, trivial⟩ | dsimp only)⟩
instance k_isAgg (t : TypeId) : K P (isAgg t) := ⟨by
  unfold isAgg
  repeat' (first | exact K.ok | refine OkT.bind ?_ (fun _ => ?_) | refine ok_forIn (fun _ _ => ?_) _ _ | refine ok_forIn_range (fun _ _ => ?_) _ _ | intro _ | refine ok_ite ?_ ?_ | split | exact trivial | exact ⟨trivial, trivial⟩ | dsimp only)⟩
theorem ok_loadCellsFrom (a : Addr) : ∀ (n i : Nat) (acc : Array Value), OkT P (loadCellsFrom a i n acc)
  | 0, _, _ => trivial
  | n + 1, i, acc => OkT.bind K.ok fun _ => ok_loadCellsFrom a n _ _
instance k_loadCellsFrom (a : Addr) (n i : Nat) (acc : Array Value) : K P (loadCellsFrom a i n acc) := ⟨ok_loadCellsFrom a n i acc⟩
theorem ok_storeCells (a : Addr) : ∀ (vs : List Value) (i : Nat), OkT P (storeCells a vs i)
  | [], _ => trivial
  | v :: vs, i => OkT.bind K.ok fun _ => ok_storeCells a vs _
instance k_storeCells (a : Addr) (vs : List Value) (i : Nat) : K P (storeCells a vs i) := ⟨ok_storeCells a vs i⟩
instance k_loadCells (a : Addr) (n : Nat) : K P (loadCells a n) := ⟨by
  unfold loadCells
  repeat' (first | exact K.ok | refine OkT.bind ?_ (fun _ => ?_) | refine ok_forIn (fun _ _ => ?_) _ _ | refine ok_forIn_range (fun _ _ => ?_) _ _ | intro _ | refine ok_ite ?_ ?_ | split | exact trivial | exact ⟨trivial, trivial⟩ | dsimp only)⟩
instance k_loadVar (t : TypeId) (a : Addr) : K P (loadVar t a) := ⟨by
  unfold loadVar
  repeat' (first | exact K.ok | refine OkT.bind ?_ (fun _ => ?_) | refine ok_forIn (fun _ _ => ?_) _ _ | refine ok_forIn_range (fun _ _ => ?_) _ _ | intro _ | refine ok_ite ?_ ?_ | split | exact trivial | exact ⟨trivial, trivial⟩ | dsimp only)⟩
instance k_storeVar (t : TypeId) (a : Addr) (v : Value) : K P (storeVar t a v) := ⟨by
  unfold storeVar
  repeat' (first | exact K.ok | refine OkT.bind ?_ (fun _ => ?_) | refine ok_forIn (fun _ _ => ?_) _ _ | refine ok_forIn_range (fun _ _ => ?_) _ _ | intro _ | refine ok_ite ?_ ?_ | split | exact trivial | exact ⟨trivial, trivial⟩ | dsimp only)⟩
instance k_newRow (t : TypeId) (c : Array Value) : K P (newRow t c) := ⟨by
  unfold newRow
  repeat' (first | exact K.ok | refine OkT.bind ?_ (fun _ => ?_) | refine ok_forIn (fun _ _ => ?_) _ _ | refine ok_forIn_range (fun _ _ => ?_) _ _ | intro _ | refine ok_ite ?_ ?_ | split | exact trivial | exact ⟨trivial, trivial⟩ | dsimp only)⟩
instance k_newVar (t : TypeId) (v : Value) : K P (newVar t v) := ⟨by
  unfold newVar
  repeat' (first | exact K.ok | refine OkT.bind ?_ (fun _ => ?_) | refine ok_forIn (fun _ _ => ?_) _ _ | refine ok_forIn_range (fun _ _ => ?_) _ _ | intro _ | refine ok_ite ?_ ?_ | split | exact trivial | exact ⟨trivial, trivial⟩ | dsimp only)⟩
instance k_elemOf (t : TypeId) : K P (elemOf t) := ⟨by
  unfold elemOf
  repeat' (first | exact K.ok | refine OkT.bind ?_ (fun _ => ?_) | refine ok_forIn (fun _ _ => ?_) _ _ | refine ok_forIn_range (fun _ _ => ?_) _ _ | intro _ | refine ok_ite ?_ ?_ | split | exact trivial | exact ⟨trivial, trivial⟩ | dsimp only)⟩
instance k_part (t : TypeId) (c : Array Value) (o : Nat) : K P (part t c o) := ⟨by
  unfold part
  repeat' (first | exact K.ok | refine OkT.bind ?_ (fun _ => ?_) | refine ok_forIn (fun _ _ => ?_) _ _ | refine ok_forIn_range (fun _ _ => ?_) _ _ | intro _ | refine ok_ite ?_ ?_ | split | exact trivial | exact ⟨trivial, trivial⟩ | dsimp only)⟩
instance k_runtimePanic (e : RuntimeError) : K P ((runtimePanic e : Sem α)) := ⟨by
  unfold runtimePanic
  repeat' (first | exact K.ok | refine OkT.bind ?_ (fun _ => ?_) | refine ok_forIn (fun _ _ => ?_) _ _ | refine ok_forIn_range (fun _ _ => ?_) _ _ | intro _ | refine ok_ite ?_ ?_ | split | exact trivial | exact ⟨trivial, trivial⟩ | dsimp only)⟩
instance k_boundsPanic (k : IntKind) (x y : Int) (c : BoundsCode) : K P ((boundsPanic k x y c : Sem α)) := ⟨by
  unfold boundsPanic
  repeat' (first | exact K.ok | refine OkT.bind ?_ (fun _ => ?_) | refine ok_forIn (fun _ _ => ?_) _ _ | refine ok_forIn_range (fun _ _ => ?_) _ _ | intro _ | refine ok_ite ?_ ?_ | split | exact trivial | exact ⟨trivial, trivial⟩ | dsimp only)⟩
instance k_asIntOf (v : Value) : K P (asIntOf v) := ⟨by
  unfold asIntOf
  repeat' (first | exact K.ok | refine OkT.bind ?_ (fun _ => ?_) | refine ok_forIn (fun _ _ => ?_) _ _ | refine ok_forIn_range (fun _ _ => ?_) _ _ | intro _ | refine ok_ite ?_ ?_ | split | exact trivial | exact ⟨trivial, trivial⟩ | dsimp only)⟩
instance k_asInt (v : Value) : K P (asInt v) := ⟨by
  unfold asInt
  repeat' (first | exact K.ok | refine OkT.bind ?_ (fun _ => ?_) | refine ok_forIn (fun _ _ => ?_) _ _ | refine ok_forIn_range (fun _ _ => ?_) _ _ | intro _ | refine ok_ite ?_ ?_ | split | exact trivial | exact ⟨trivial, trivial⟩ | dsimp only)⟩
instance k_asBool (v : Value) : K P (asBool v) := ⟨by
  unfold asBool
  repeat' (first | exact K.ok | refine OkT.bind ?_ (fun _ => ?_) | refine ok_forIn (fun _ _ => ?_) _ _ | refine ok_forIn_range (fun _ _ => ?_) _ _ | intro _ | refine ok_ite ?_ ?_ | split | exact trivial | exact ⟨trivial, trivial⟩ | dsimp only)⟩
instance k_asString (v : Value) : K P (asString v) := ⟨by
  unfold asString
  repeat' (first | exact K.ok | refine OkT.bind ?_ (fun _ => ?_) | refine ok_forIn (fun _ _ => ?_) _ _ | refine ok_forIn_range (fun _ _ => ?_) _ _ | intro _ | refine ok_ite ?_ ?_ | split | exact trivial | exact ⟨trivial, trivial⟩ | dsimp only)⟩
instance k_asAgg (v : Value) : K P (asAgg v) := ⟨by
  unfold asAgg
  repeat' (first | exact K.ok | refine OkT.bind ?_ (fun _ => ?_) | refine ok_forIn (fun _ _ => ?_) _ _ | refine ok_forIn_range (fun _ _ => ?_) _ _ | intro _ | refine ok_ite ?_ ?_ | split | exact trivial | exact ⟨trivial, trivial⟩ | dsimp only)⟩
instance k_asAddr (v : Value) : K P (asAddr v) := ⟨by
  unfold asAddr
  repeat' (first | exact K.ok | refine OkT.bind ?_ (fun _ => ?_) | refine ok_forIn (fun _ _ => ?_) _ _ | refine ok_forIn_range (fun _ _ => ?_) _ _ | intro _ | refine ok_ite ?_ ?_ | split | exact trivial | exact ⟨trivial, trivial⟩ | dsimp only)⟩
instance k_byteOf (a : Addr) : K P (byteOf a) := ⟨by
  unfold byteOf
  repeat' (first | exact K.ok | refine OkT.bind ?_ (fun _ => ?_) | refine ok_forIn (fun _ _ => ?_) _ _ | refine ok_forIn_range (fun _ _ => ?_) _ _ | intro _ | refine ok_ite ?_ ?_ | split | exact trivial | exact ⟨trivial, trivial⟩ | dsimp only)⟩
instance k_partAt (a : Addr) (c b : Nat) : K P (partAt a c b) := ⟨by
  unfold partAt
  repeat' (first | exact K.ok | refine OkT.bind ?_ (fun _ => ?_) | refine ok_forIn (fun _ _ => ?_) _ _ | refine ok_forIn_range (fun _ _ => ?_) _ _ | intro _ | refine ok_ite ?_ ?_ | split | exact trivial | exact ⟨trivial, trivial⟩ | dsimp only)⟩
instance k_fieldPlace (a : Addr) (f : Field) : K P (fieldPlace a f) := ⟨by
  unfold fieldPlace
  repeat' (first | exact K.ok | refine OkT.bind ?_ (fun _ => ?_) | refine ok_forIn (fun _ _ => ?_) _ _ | refine ok_forIn_range (fun _ _ => ?_) _ _ | intro _ | refine ok_ite ?_ ?_ | split | exact trivial | exact ⟨trivial, trivial⟩ | dsimp only)⟩
instance k_Instr_sureAddr (v : Value) : K P (Instr.sureAddr v) := ⟨by
  unfold Instr.sureAddr
  repeat' (first | exact K.ok | refine OkT.bind ?_ (fun _ => ?_) | refine ok_forIn (fun _ _ => ?_) _ _ | refine ok_forIn_range (fun _ _ => ?_) _ _ | intro _ | refine ok_ite ?_ ?_ | split | exact trivial | exact ⟨trivial, trivial⟩ | dsimp only)⟩
instance k_Instr_loadAt (t : TypeId) (v : Value) : K P (Instr.loadAt t v) := ⟨by
  unfold Instr.loadAt
  repeat' (first | exact K.ok | refine OkT.bind ?_ (fun _ => ?_) | refine ok_forIn (fun _ _ => ?_) _ _ | refine ok_forIn_range (fun _ _ => ?_) _ _ | intro _ | refine ok_ite ?_ ?_ | split | exact trivial | exact ⟨trivial, trivial⟩ | dsimp only)⟩
instance k_Instr_storeAt (t : TypeId) (v x : Value) : K P (Instr.storeAt t v x) := ⟨by
  unfold Instr.storeAt
  repeat' (first | exact K.ok | refine OkT.bind ?_ (fun _ => ?_) | refine ok_forIn (fun _ _ => ?_) _ _ | refine ok_forIn_range (fun _ _ => ?_) _ _ | intro _ | refine ok_ite ?_ ?_ | split | exact trivial | exact ⟨trivial, trivial⟩ | dsimp only)⟩
instance k_Instr_fieldAt (t : TypeId) (v : Value) (f : Nat) : K P (Instr.fieldAt t v f) := ⟨by
  unfold Instr.fieldAt
  repeat' (first | exact K.ok | refine OkT.bind ?_ (fun _ => ?_) | refine ok_forIn (fun _ _ => ?_) _ _ | refine ok_forIn_range (fun _ _ => ?_) _ _ | intro _ | refine ok_ite ?_ ?_ | split | exact trivial | exact ⟨trivial, trivial⟩ | dsimp only)⟩
instance k_Instr_indexAt (t : TypeId) (v x : Value) : K P (Instr.indexAt t v x) := ⟨by
  unfold Instr.indexAt
  repeat' (first | exact K.ok | refine OkT.bind ?_ (fun _ => ?_) | refine ok_forIn (fun _ _ => ?_) _ _ | refine ok_forIn_range (fun _ _ => ?_) _ _ | intro _ | refine ok_ite ?_ ?_ | split | exact trivial | exact ⟨trivial, trivial⟩ | dsimp only)⟩
instance k_Instr_sliceBound (v : Value) (y : Nat) (c : BoundsCode) : K P (Instr.sliceBound v y c) := ⟨by
  unfold Instr.sliceBound
  repeat' (first | exact K.ok | refine OkT.bind ?_ (fun _ => ?_) | refine ok_forIn (fun _ _ => ?_) _ _ | refine ok_forIn_range (fun _ _ => ?_) _ _ | intro _ | refine ok_ite ?_ ?_ | split | exact trivial | exact ⟨trivial, trivial⟩ | dsimp only)⟩
instance k_Instr_sliceBounds (b : Bool) (l c : Nat) (x y z : Option Value) : K P (Instr.sliceBounds b l c x y z) := ⟨by
  unfold Instr.sliceBounds
  repeat' (first | exact K.ok | refine OkT.bind ?_ (fun _ => ?_) | refine ok_forIn (fun _ _ => ?_) _ _ | refine ok_forIn_range (fun _ _ => ?_) _ _ | intro _ | refine ok_ite ?_ ?_ | split | exact trivial | exact ⟨trivial, trivial⟩ | dsimp only)⟩
instance k_Instr_slice (t : TypeId) (v : Value) (x y z : Option Value) : K P (Instr.slice t v x y z) := ⟨by
  unfold Instr.slice
  repeat' (first | exact K.ok | refine OkT.bind ?_ (fun _ => ?_) | refine ok_forIn (fun _ _ => ?_) _ _ | refine ok_forIn_range (fun _ _ => ?_) _ _ | intro _ | refine ok_ite ?_ ?_ | split | exact trivial | exact ⟨trivial, trivial⟩ | dsimp only)⟩
instance k_Instr_sliceAt (t : TypeId) (v : Value) (x y z : Option Value) : K P (Instr.sliceAt t v x y z) := ⟨by
  unfold Instr.sliceAt
  repeat' (first | exact K.ok | refine OkT.bind ?_ (fun _ => ?_) | refine ok_forIn (fun _ _ => ?_) _ _ | refine ok_forIn_range (fun _ _ => ?_) _ _ | intro _ | refine ok_ite ?_ ?_ | split | exact trivial | exact ⟨trivial, trivial⟩ | dsimp only)⟩
instance k_Instr_alloc (t : TypeId) (h : Bool) (v : Value) : K P (Instr.alloc t h v) := ⟨by
  unfold Instr.alloc
  repeat' (first | exact K.ok | refine OkT.bind ?_ (fun _ => ?_) | refine ok_forIn (fun _ _ => ?_) _ _ | refine ok_forIn_range (fun _ _ => ?_) _ _ | intro _ | refine ok_ite ?_ ?_ | split | exact trivial | exact ⟨trivial, trivial⟩ | dsimp only)⟩
instance k_Instr_box (t : TypeId) (v : Value) : K P (Instr.box t v) := ⟨by
  unfold Instr.box
  repeat' (first | exact K.ok | refine OkT.bind ?_ (fun _ => ?_) | refine ok_forIn (fun _ _ => ?_) _ _ | refine ok_forIn_range (fun _ _ => ?_) _ _ | intro _ | refine ok_ite ?_ ?_ | split | exact trivial | exact ⟨trivial, trivial⟩ | dsimp only)⟩
instance k_Instr_build (t : TypeId) (p : Array (Nat × Value)) : K P (Instr.build t p) := ⟨by
  unfold Instr.build
  repeat' (first | exact K.ok | refine OkT.bind ?_ (fun _ => ?_) | refine ok_forIn (fun _ _ => ?_) _ _ | refine ok_forIn_range (fun _ _ => ?_) _ _ | intro _ | refine ok_ite ?_ ?_ | split | exact trivial | exact ⟨trivial, trivial⟩ | dsimp only)⟩
instance k_Instr_buildSlice (t : TypeId) (n : Nat) (p : Array (Nat × Value)) : K P (Instr.buildSlice t n p) := ⟨by
  unfold Instr.buildSlice
  repeat' (first | exact K.ok | refine OkT.bind ?_ (fun _ => ?_) | refine ok_forIn (fun _ _ => ?_) _ _ | refine ok_forIn_range (fun _ _ => ?_) _ _ | intro _ | refine ok_ite ?_ ?_ | split | exact trivial | exact ⟨trivial, trivial⟩ | dsimp only)⟩
instance k_Instr_extract (v : Value) (n : Nat) : K P (Instr.extract v n) := ⟨by
  unfold Instr.extract
  repeat' (first | exact K.ok | refine OkT.bind ?_ (fun _ => ?_) | refine ok_forIn (fun _ _ => ?_) _ _ | refine ok_forIn_range (fun _ _ => ?_) _ _ | intro _ | refine ok_ite ?_ ?_ | split | exact trivial | exact ⟨trivial, trivial⟩ | dsimp only)⟩
instance k_Instr_field (t : TypeId) (v : Value) (n : Nat) : K P (Instr.field t v n) := ⟨by
  unfold Instr.field
  repeat' (first | exact K.ok | refine OkT.bind ?_ (fun _ => ?_) | refine ok_forIn (fun _ _ => ?_) _ _ | refine ok_forIn_range (fun _ _ => ?_) _ _ | intro _ | refine ok_ite ?_ ?_ | split | exact trivial | exact ⟨trivial, trivial⟩ | dsimp only)⟩
instance k_Instr_index (t : TypeId) (v x : Value) : K P (Instr.index t v x) := ⟨by
  unfold Instr.index
  repeat' (first | exact K.ok | refine OkT.bind ?_ (fun _ => ?_) | refine ok_forIn (fun _ _ => ?_) _ _ | refine ok_forIn_range (fun _ _ => ?_) _ _ | intro _ | refine ok_ite ?_ ?_ | split | exact trivial | exact ⟨trivial, trivial⟩ | dsimp only)⟩
instance k_Instr_makeChan (t : TypeId) (v : Value) : K P (Instr.makeChan t v) := ⟨by
  unfold Instr.makeChan
  repeat' (first | exact K.ok | refine OkT.bind ?_ (fun _ => ?_) | refine ok_forIn (fun _ _ => ?_) _ _ | refine ok_forIn_range (fun _ _ => ?_) _ _ | intro _ | refine ok_ite ?_ ?_ | split | exact trivial | exact ⟨trivial, trivial⟩ | dsimp only)⟩
instance k_Instr_makeFunc (f : Fn) (x y : Array Value) : K P (Instr.makeFunc f x y) := ⟨by
  unfold Instr.makeFunc
  repeat' (first | exact K.ok | refine OkT.bind ?_ (fun _ => ?_) | refine ok_forIn (fun _ _ => ?_) _ _ | refine ok_forIn_range (fun _ _ => ?_) _ _ | intro _ | refine ok_ite ?_ ?_ | split | exact trivial | exact ⟨trivial, trivial⟩ | dsimp only)⟩
instance k_Instr_makeMap (t : TypeId) (v : Option Value) : K P (Instr.makeMap t v) := ⟨by
  unfold Instr.makeMap
  repeat' (first | exact K.ok | refine OkT.bind ?_ (fun _ => ?_) | refine ok_forIn (fun _ _ => ?_) _ _ | refine ok_forIn_range (fun _ _ => ?_) _ _ | intro _ | refine ok_ite ?_ ?_ | split | exact trivial | exact ⟨trivial, trivial⟩ | dsimp only)⟩
instance k_Instr_makeSlice (t : TypeId) (v x : Value) : K P (Instr.makeSlice t v x) := ⟨by
  unfold Instr.makeSlice
  repeat' (first | exact K.ok | refine OkT.bind ?_ (fun _ => ?_) | refine ok_forIn (fun _ _ => ?_) _ _ | refine ok_forIn_range (fun _ _ => ?_) _ _ | intro _ | refine ok_ite ?_ ?_ | split | exact trivial | exact ⟨trivial, trivial⟩ | dsimp only)⟩
theorem ok_equalIn : ∀ (d : Nat) (t : TypeId) (x y : Value), OkT P (Op.equalIn d t x y)
  | 0, _, _, _ => trivial
  | d + 1, t, x, y => by
    haveI ih : ∀ t x y, K P (Op.equalIn d t x y) := fun t x y => ⟨ok_equalIn d t x y⟩
    unfold Op.equalIn
    repeat' (first | exact K.ok | refine OkT.bind ?_ (fun _ => ?_) | refine ok_forIn (fun _ _ => ?_) _ _ | refine ok_forIn_range (fun _ _ => ?_) _ _ | intro _ | refine ok_ite ?_ ?_ | split | exact trivial | dsimp only)
instance k_equalIn (d : Nat) (t : TypeId) (x y : Value) : K P (Op.equalIn d t x y) := ⟨ok_equalIn d t x y⟩
instance k_equal (t : TypeId) (x y : Value) : K P (Op.equal t x y) := ⟨ok_equalIn _ t x y⟩
theorem ok_eqGuardIn : ∀ (d : Nat) (t : TypeId) (x y : Value), OkT P (Op.eqGuardIn d t x y)
  | 0, _, _, _ => trivial
  | d + 1, t, x, y => by
    haveI ih : ∀ t x y, K P (Op.eqGuardIn d t x y) := fun t x y => ⟨ok_eqGuardIn d t x y⟩
    unfold Op.eqGuardIn
    repeat' (first | exact K.ok | refine OkT.bind ?_ (fun _ => ?_) | refine ok_forIn (fun _ _ => ?_) _ _ | refine ok_forIn_range (fun _ _ => ?_) _ _ | intro _ | refine ok_ite ?_ ?_ | split | exact trivial | dsimp only)
instance k_eqGuardIn (d : Nat) (t : TypeId) (x y : Value) : K P (Op.eqGuardIn d t x y) := ⟨ok_eqGuardIn d t x y⟩
theorem ok_checkKey (e : Bool) : ∀ (d : Nat) (t : TypeId) (x : Value), OkT P (Instr.checkKey e d t x)
  | 0, _, _ => trivial
  | d + 1, t, x => by
    haveI ih : ∀ t x, K P (Instr.checkKey e d t x) := fun t x => ⟨ok_checkKey e d t x⟩
    unfold Instr.checkKey
    repeat' (first | exact K.ok | refine OkT.bind ?_ (fun _ => ?_) | refine ok_forIn (fun _ _ => ?_) _ _ | refine ok_forIn_range (fun _ _ => ?_) _ _ | intro _ | refine ok_ite ?_ ?_ | split | exact trivial | dsimp only)
instance k_checkKey (e : Bool) (d : Nat) (t : TypeId) (x : Value) : K P (Instr.checkKey e d t x) := ⟨ok_checkKey e d t x⟩
theorem ok_findAsking (t : TypeId) (k : Value) : ∀ (es : List MapEntry) (i : Nat), OkT P (Instr.findAsking t k es i)
  | [], _ => trivial
  | e :: es, i => by
    haveI ih : ∀ i, K P (Instr.findAsking t k es i) := fun i => ⟨ok_findAsking t k es i⟩
    unfold Instr.findAsking
    repeat' (first | exact K.ok | refine OkT.bind ?_ (fun _ => ?_) | intro _ | refine ok_ite ?_ ?_ | split | exact trivial | dsimp only)
instance k_findAsking (t : TypeId) (k : Value) (es : List MapEntry) (i : Nat) : K P (Instr.findAsking t k es i) := ⟨ok_findAsking t k es i⟩
instance k_Instr_keyThatStays (v x : Value) : K P (Instr.keyThatStays v x) := ⟨by
  unfold Instr.keyThatStays
  repeat' (first | exact K.ok | refine OkT.bind ?_ (fun _ => ?_) | refine ok_forIn (fun _ _ => ?_) _ _ | refine ok_forIn_range (fun _ _ => ?_) _ _ | intro _ | refine ok_ite ?_ ?_ | split | exact trivial | exact ⟨trivial, trivial⟩ | dsimp only)⟩
instance k_Instr_ready (n : Nat) : K P (Instr.ready n) := ⟨by
  unfold Instr.ready
  repeat' (first | exact K.ok | refine OkT.bind ?_ (fun _ => ?_) | refine ok_forIn (fun _ _ => ?_) _ _ | refine ok_forIn_range (fun _ _ => ?_) _ _ | intro _ | refine ok_ite ?_ ?_ | split | exact trivial | exact ⟨trivial, trivial⟩ | dsimp only)⟩
instance k_Instr_waits (n : Nat) : K P (Instr.waits n) := ⟨by
  unfold Instr.waits
  repeat' (first | exact K.ok | refine OkT.bind ?_ (fun _ => ?_) | refine ok_forIn (fun _ _ => ?_) _ _ | refine ok_forIn_range (fun _ _ => ?_) _ _ | intro _ | refine ok_ite ?_ ?_ | split | exact trivial | exact ⟨trivial, trivial⟩ | dsimp only)⟩
instance k_Op_twoPlaces (a b : Addr) : K P (Op.twoPlaces a b) := ⟨by
  unfold Op.twoPlaces
  repeat' (first | exact K.ok | refine OkT.bind ?_ (fun _ => ?_) | refine ok_forIn (fun _ _ => ?_) _ _ | refine ok_forIn_range (fun _ _ => ?_) _ _ | intro _ | refine ok_ite ?_ ?_ | split | exact trivial | exact ⟨trivial, trivial⟩ | dsimp only)⟩
instance k_Op_addrSub (k : IntKind) (a b : Addr) : K P (Op.addrSub k a b) := ⟨by
  unfold Op.addrSub
  repeat' (first | exact K.ok | refine OkT.bind ?_ (fun _ => ?_) | refine ok_forIn (fun _ _ => ?_) _ _ | refine ok_forIn_range (fun _ _ => ?_) _ _ | intro _ | refine ok_ite ?_ ?_ | split | exact trivial | exact ⟨trivial, trivial⟩ | dsimp only)⟩
instance k_Op_addrCmp (o : BinOp) (a b : Addr) : K P (Op.addrCmp o a b) := ⟨by
  unfold Op.addrCmp
  repeat' (first | exact K.ok | refine OkT.bind ?_ (fun _ => ?_) | refine ok_forIn (fun _ _ => ?_) _ _ | refine ok_forIn_range (fun _ _ => ?_) _ _ | intro _ | refine ok_ite ?_ ?_ | split | exact trivial | exact ⟨trivial, trivial⟩ | dsimp only)⟩
instance k_Op_addrMod (k : IntKind) (a : Addr) (n : Int) : K P (Op.addrMod k a n) := ⟨by
  unfold Op.addrMod
  repeat' (first | exact K.ok | refine OkT.bind ?_ (fun _ => ?_) | refine ok_forIn (fun _ _ => ?_) _ _ | refine ok_forIn_range (fun _ _ => ?_) _ _ | intro _ | refine ok_ite ?_ ?_ | split | exact trivial | exact ⟨trivial, trivial⟩ | dsimp only)⟩
instance k_Op_floatArith (o : BinOp) (k : FloatKind) (a b : Nat) : K P (Op.floatArith o k a b) := ⟨by
  unfold Op.floatArith
  repeat' (first | exact K.ok | refine OkT.bind ?_ (fun _ => ?_) | refine ok_forIn (fun _ _ => ?_) _ _ | refine ok_forIn_range (fun _ _ => ?_) _ _ | intro _ | refine ok_ite ?_ ?_ | split | exact trivial | exact ⟨trivial, trivial⟩ | dsimp only)⟩
instance k_Op_floatCmp (o : BinOp) (k : FloatKind) (a b : Nat) : K P (Op.floatCmp o k a b) := ⟨by
  unfold Op.floatCmp
  repeat' (first | exact K.ok | refine OkT.bind ?_ (fun _ => ?_) | refine ok_forIn (fun _ _ => ?_) _ _ | refine ok_forIn_range (fun _ _ => ?_) _ _ | intro _ | refine ok_ite ?_ ?_ | split | exact trivial | exact ⟨trivial, trivial⟩ | dsimp only)⟩
instance k_Conv_floatToFloat (k : FloatKind) (a : Nat) (j : FloatKind) : K P (Conv.floatToFloat k a j) := ⟨by
  unfold Conv.floatToFloat
  repeat' (first | exact K.ok | refine OkT.bind ?_ (fun _ => ?_) | refine ok_forIn (fun _ _ => ?_) _ _ | refine ok_forIn_range (fun _ _ => ?_) _ _ | intro _ | refine ok_ite ?_ ?_ | split | exact trivial | exact ⟨trivial, trivial⟩ | dsimp only)⟩
instance k_Op_Complex_arith (o : BinOp) (k : FloatKind) (a b : Nat) : K P (Op.Complex.arith o k a b) := ⟨by
  unfold Op.Complex.arith
  repeat' (first | exact K.ok | refine OkT.bind ?_ (fun _ => ?_) | refine ok_forIn (fun _ _ => ?_) _ _ | refine ok_forIn_range (fun _ _ => ?_) _ _ | intro _ | refine ok_ite ?_ ?_ | split | exact trivial | exact ⟨trivial, trivial⟩ | dsimp only)⟩
instance k_Op_Complex_cmp (o : BinOp) (k : FloatKind) (a b : Nat) : K P (Op.Complex.cmp o k a b) := ⟨by
  unfold Op.Complex.cmp
  repeat' (first | exact K.ok | refine OkT.bind ?_ (fun _ => ?_) | refine ok_forIn (fun _ _ => ?_) _ _ | refine ok_forIn_range (fun _ _ => ?_) _ _ | intro _ | refine ok_ite ?_ ?_ | split | exact trivial | exact ⟨trivial, trivial⟩ | dsimp only)⟩
instance k_Op_Complex_conv (k : FloatKind) (a : Nat) (j : FloatKind) : K P (Op.Complex.conv k a j) := ⟨by
  unfold Op.Complex.conv
  repeat' (first | exact K.ok | refine OkT.bind ?_ (fun _ => ?_) | refine ok_forIn (fun _ _ => ?_) _ _ | refine ok_forIn_range (fun _ _ => ?_) _ _ | intro _ | refine ok_ite ?_ ?_ | split | exact trivial | exact ⟨trivial, trivial⟩ | dsimp only)⟩
instance k_Op_Complex_add (a b : Nat) : K P (Op.Complex.add a b) := ⟨by
  unfold Op.Complex.add
  repeat' (first | exact K.ok | refine OkT.bind ?_ (fun _ => ?_) | refine ok_forIn (fun _ _ => ?_) _ _ | refine ok_forIn_range (fun _ _ => ?_) _ _ | intro _ | refine ok_ite ?_ ?_ | split | exact trivial | exact ⟨trivial, trivial⟩ | dsimp only)⟩
instance k_Op_Complex_sub (a b : Nat) : K P (Op.Complex.sub a b) := ⟨by
  unfold Op.Complex.sub
  repeat' (first | exact K.ok | refine OkT.bind ?_ (fun _ => ?_) | refine ok_forIn (fun _ _ => ?_) _ _ | refine ok_forIn_range (fun _ _ => ?_) _ _ | intro _ | refine ok_ite ?_ ?_ | split | exact trivial | exact ⟨trivial, trivial⟩ | dsimp only)⟩
instance k_Op_Complex_mul (a b : Nat) : K P (Op.Complex.mul a b) := ⟨by
  unfold Op.Complex.mul
  repeat' (first | exact K.ok | refine OkT.bind ?_ (fun _ => ?_) | refine ok_forIn (fun _ _ => ?_) _ _ | refine ok_forIn_range (fun _ _ => ?_) _ _ | intro _ | refine ok_ite ?_ ?_ | split | exact trivial | exact ⟨trivial, trivial⟩ | dsimp only)⟩
instance k_Op_Complex_quo (a b : Nat) : K P (Op.Complex.quo a b) := ⟨by
  unfold Op.Complex.quo
  repeat' (first | exact K.ok | refine OkT.bind ?_ (fun _ => ?_) | refine ok_forIn (fun _ _ => ?_) _ _ | refine ok_forIn_range (fun _ _ => ?_) _ _ | intro _ | refine ok_ite ?_ ?_ | split | exact trivial | exact ⟨trivial, trivial⟩ | dsimp only)⟩
instance k_Op_Complex_product (a b c d : Nat) : K P (Op.Complex.product a b c d) := ⟨by
  unfold Op.Complex.product
  repeat' (first | exact K.ok | refine OkT.bind ?_ (fun _ => ?_) | refine ok_forIn (fun _ _ => ?_) _ _ | refine ok_forIn_range (fun _ _ => ?_) _ _ | intro _ | refine ok_ite ?_ ?_ | split | exact trivial | exact ⟨trivial, trivial⟩ | dsimp only)⟩
instance k_Op_Complex_corrected (s a b c d : Nat) : K P (Op.Complex.corrected s a b c d) := ⟨by
  unfold Op.Complex.corrected
  repeat' (first | exact K.ok | refine OkT.bind ?_ (fun _ => ?_) | refine ok_forIn (fun _ _ => ?_) _ _ | refine ok_forIn_range (fun _ _ => ?_) _ _ | intro _ | refine ok_ite ?_ ?_ | split | exact trivial | exact ⟨trivial, trivial⟩ | dsimp only)⟩
instance k_Op_Complex_quotient (a b c d : Nat) : K P (Op.Complex.quotient a b c d) := ⟨by
  unfold Op.Complex.quotient
  repeat' (first | exact K.ok | refine OkT.bind ?_ (fun _ => ?_) | refine ok_forIn (fun _ _ => ?_) _ _ | refine ok_forIn_range (fun _ _ => ?_) _ _ | intro _ | refine ok_ite ?_ ?_ | split | exact trivial | exact ⟨trivial, trivial⟩ | dsimp only)⟩
instance k_Op_complexOp (o : BinOp) (k : FloatKind) (a b c d : Nat) : K P (Op.complexOp o k a b c d) := ⟨by
  unfold Op.complexOp
  repeat' (first | exact K.ok | refine OkT.bind ?_ (fun _ => ?_) | refine ok_forIn (fun _ _ => ?_) _ _ | refine ok_forIn_range (fun _ _ => ?_) _ _ | intro _ | refine ok_ite ?_ ?_ | split | exact trivial | exact ⟨trivial, trivial⟩ | dsimp only)⟩
instance k_Op_intArith (o : BinOp) (k : IntKind) (a b : Int) : K P (Op.intArith o k a b) := ⟨by
  unfold Op.intArith
  repeat' (first | exact K.ok | refine OkT.bind ?_ (fun _ => ?_) | refine ok_forIn (fun _ _ => ?_) _ _ | refine ok_forIn_range (fun _ _ => ?_) _ _ | intro _ | refine ok_ite ?_ ?_ | split | exact trivial | exact ⟨trivial, trivial⟩ | dsimp only)⟩
instance k_Op_intBits (o : BinOp) (k : IntKind) (a b : Int) : K P (Op.intBits o k a b) := ⟨by
  unfold Op.intBits
  repeat' (first | exact K.ok | refine OkT.bind ?_ (fun _ => ?_) | refine ok_forIn (fun _ _ => ?_) _ _ | refine ok_forIn_range (fun _ _ => ?_) _ _ | intro _ | refine ok_ite ?_ ?_ | split | exact trivial | exact ⟨trivial, trivial⟩ | dsimp only)⟩
instance k_Op_intCmp (o : BinOp) (a b : Int) : K P (Op.intCmp o a b) := ⟨by
  unfold Op.intCmp
  repeat' (first | exact K.ok | refine OkT.bind ?_ (fun _ => ?_) | refine ok_forIn (fun _ _ => ?_) _ _ | refine ok_forIn_range (fun _ _ => ?_) _ _ | intro _ | refine ok_ite ?_ ?_ | split | exact trivial | exact ⟨trivial, trivial⟩ | dsimp only)⟩
instance k_Op_intDiv (o : BinOp) (k : IntKind) (a b : Int) : K P (Op.intDiv o k a b) := ⟨by
  unfold Op.intDiv
  repeat' (first | exact K.ok | refine OkT.bind ?_ (fun _ => ?_) | refine ok_forIn (fun _ _ => ?_) _ _ | refine ok_forIn_range (fun _ _ => ?_) _ _ | intro _ | refine ok_ite ?_ ?_ | split | exact trivial | exact ⟨trivial, trivial⟩ | dsimp only)⟩
instance k_Op_shift (o : BinOp) (k : IntKind) (a : Int) (j : IntKind) (b : Int) : K P (Op.shift o k a j b) := ⟨by
  unfold Op.shift
  repeat' (first | exact K.ok | refine OkT.bind ?_ (fun _ => ?_) | refine ok_forIn (fun _ _ => ?_) _ _ | refine ok_forIn_range (fun _ _ => ?_) _ _ | intro _ | refine ok_ite ?_ ?_ | split | exact trivial | exact ⟨trivial, trivial⟩ | dsimp only)⟩
instance k_Op_stringOp (o : BinOp) (a b : ByteArray) : K P (Op.stringOp o a b) := ⟨by
  unfold Op.stringOp
  repeat' (first | exact K.ok | refine OkT.bind ?_ (fun _ => ?_) | refine ok_forIn (fun _ _ => ?_) _ _ | refine ok_forIn_range (fun _ _ => ?_) _ _ | intro _ | refine ok_ite ?_ ?_ | split | exact trivial | exact ⟨trivial, trivial⟩ | dsimp only)⟩
instance k_Op_unary (o : UnOp) (v : Value) : K P (Op.unary o v) := ⟨by
  unfold Op.unary
  repeat' (first | exact K.ok | refine OkT.bind ?_ (fun _ => ?_) | refine ok_forIn (fun _ _ => ?_) _ _ | refine ok_forIn_range (fun _ _ => ?_) _ _ | intro _ | refine ok_ite ?_ ?_ | split | exact trivial | exact ⟨trivial, trivial⟩ | dsimp only)⟩
instance k_Conv_intToInt (k : IntKind) (n : Int) : K P (Conv.intToInt k n) := ⟨by
  unfold Conv.intToInt
  repeat' (first | exact K.ok | refine OkT.bind ?_ (fun _ => ?_) | refine ok_forIn (fun _ _ => ?_) _ _ | refine ok_forIn_range (fun _ _ => ?_) _ _ | intro _ | refine ok_ite ?_ ?_ | split | exact trivial | exact ⟨trivial, trivial⟩ | dsimp only)⟩
instance k_Builtin_lenOf (v : Value) : K P (Builtin.lenOf v) := ⟨by
  unfold Builtin.lenOf
  repeat' (first | exact K.ok | refine OkT.bind ?_ (fun _ => ?_) | refine ok_forIn (fun _ _ => ?_) _ _ | refine ok_forIn_range (fun _ _ => ?_) _ _ | intro _ | refine ok_ite ?_ ?_ | split | exact trivial | exact ⟨trivial, trivial⟩ | dsimp only)⟩
instance k_Builtin_holdsCells (a : Addr) (n : Nat) : K P (Builtin.holdsCells a n) := ⟨by
  unfold Builtin.holdsCells
  repeat' (first | exact K.ok | refine OkT.bind ?_ (fun _ => ?_) | refine ok_forIn (fun _ _ => ?_) _ _ | refine ok_forIn_range (fun _ _ => ?_) _ _ | intro _ | refine ok_ite ?_ ?_ | split | exact trivial | exact ⟨trivial, trivial⟩ | dsimp only)⟩
instance k_Builtin_mayShare (a b c : Nat) (x : Option Addr) (v : Value) : K P (Builtin.mayShare a b c x v) := ⟨by
  unfold Builtin.mayShare
  repeat' (first | exact K.ok | refine OkT.bind ?_ (fun _ => ?_) | refine ok_forIn (fun _ _ => ?_) _ _ | refine ok_forIn_range (fun _ _ => ?_) _ _ | intro _ | refine ok_ite ?_ ?_ | split | exact trivial | exact ⟨trivial, trivial⟩ | dsimp only)⟩
instance k_Builtin_firstCells (a b : Nat) (v : Value) : K P (Builtin.firstCells a b v) := ⟨by
  unfold Builtin.firstCells
  repeat' (first | exact K.ok | refine OkT.bind ?_ (fun _ => ?_) | refine ok_forIn (fun _ _ => ?_) _ _ | refine ok_forIn_range (fun _ _ => ?_) _ _ | intro _ | refine ok_ite ?_ ?_ | split | exact trivial | exact ⟨trivial, trivial⟩ | dsimp only)⟩
instance k_Builtin_len_ (a : Array TypeId) (t : TypeId) (x : Array Value) : K P (Builtin.len_ a t x) := ⟨by
  unfold Builtin.len_
  repeat' (first | exact K.ok | refine OkT.bind ?_ (fun _ => ?_) | refine ok_forIn (fun _ _ => ?_) _ _ | refine ok_forIn_range (fun _ _ => ?_) _ _ | intro _ | refine ok_ite ?_ ?_ | split | exact trivial | exact ⟨trivial, trivial⟩ | dsimp only)⟩
instance k_Builtin_max2 (v x : Value) : K P (Builtin.max2 v x) := ⟨by
  unfold Builtin.max2
  repeat' (first | exact K.ok | refine OkT.bind ?_ (fun _ => ?_) | refine ok_forIn (fun _ _ => ?_) _ _ | refine ok_forIn_range (fun _ _ => ?_) _ _ | intro _ | refine ok_ite ?_ ?_ | split | exact trivial | exact ⟨trivial, trivial⟩ | dsimp only)⟩
instance k_Instr_findKey (t : TypeId) (k : Value) (es : List MapEntry) : K P (Instr.findKey t k es) := ⟨by
  unfold Instr.findKey
  repeat' (first | exact K.ok | refine OkT.bind ?_ (fun _ => ?_) | refine ok_forIn (fun _ _ => ?_) _ _ | refine ok_forIn_range (fun _ _ => ?_) _ _ | intro _ | refine ok_ite ?_ ?_ | split | exact trivial | exact ⟨trivial, trivial⟩ | dsimp only)⟩
instance k_Instr_lookup (t : TypeId) (x i : Value) (o : Bool) : K P (Instr.lookup t x i o) := ⟨by
  unfold Instr.lookup
  repeat' (first | exact K.ok | refine OkT.bind ?_ (fun _ => ?_) | refine ok_forIn (fun _ _ => ?_) _ _ | refine ok_forIn_range (fun _ _ => ?_) _ _ | intro _ | refine ok_ite ?_ ?_ | split | exact trivial | exact ⟨trivial, trivial⟩ | dsimp only)⟩
instance k_Instr_mapUpdate (t : TypeId) (m k v : Value) : K P (Instr.mapUpdate t m k v) := ⟨by
  unfold Instr.mapUpdate
  repeat' (first | exact K.ok | refine OkT.bind ?_ (fun _ => ?_) | refine ok_forIn (fun _ _ => ?_) _ _ | refine ok_forIn_range (fun _ _ => ?_) _ _ | intro _ | refine ok_ite ?_ ?_ | split | exact trivial | exact ⟨trivial, trivial⟩ | dsimp only)⟩
instance k_Builtin_append_ (a : Array TypeId) (t : TypeId) (x : Array Value) : K P (Builtin.append_ a t x) := ⟨by
  unfold Builtin.append_
  repeat' (first | exact K.ok | refine OkT.bind ?_ (fun _ => ?_) | refine ok_forIn (fun _ _ => ?_) _ _ | refine ok_forIn_range (fun _ _ => ?_) _ _ | intro _ | refine ok_ite ?_ ?_ | split | exact trivial | exact ⟨trivial, trivial⟩ | dsimp only)⟩
instance k_Builtin_clear_ (a : Array TypeId) (t : TypeId) (x : Array Value) : K P (Builtin.clear_ a t x) := ⟨by
  unfold Builtin.clear_
  repeat' (first | exact K.ok | refine OkT.bind ?_ (fun _ => ?_) | refine ok_forIn (fun _ _ => ?_) _ _ | refine ok_forIn_range (fun _ _ => ?_) _ _ | intro _ | refine ok_ite ?_ ?_ | split | exact trivial | exact ⟨trivial, trivial⟩ | dsimp only)⟩
instance k_unsafeAdd (a : Array TypeId) (t : TypeId) (x y : Value) : K P (Builtin.unsafeAdd_ a t #[x, y]) := ⟨by
  cases x <;> first | exact trivial | skip
  rename_i p
  show OkT P (asInt y >>= _)
  repeat' (first | exact K.ok | refine OkT.bind ?_ (fun _ => ?_) | refine ok_forIn (fun _ _ => ?_) _ _ | refine ok_forIn_range (fun _ _ => ?_) _ _ | intro _ | refine ok_ite ?_ ?_ | split | exact trivial | exact ⟨trivial, trivial⟩ | dsimp only)⟩
instance k_movedNumber (t : TypeId) (x y : Value) : K P (movedNumber t x y) := ⟨by
  unfold movedNumber
  repeat' (first | exact K.ok | refine OkT.bind ?_ (fun _ => ?_) | refine ok_forIn (fun _ _ => ?_) _ _ | refine ok_forIn_range (fun _ _ => ?_) _ _ | intro _ | refine ok_ite ?_ ?_ | split | exact trivial | exact ⟨trivial, trivial⟩ | dsimp only)⟩
instance k_movedPointer (t : TypeId) (x y : Value) : K P (movedPointer t x y) := ⟨by
  unfold movedPointer
  repeat' (first | exact K.ok | refine OkT.bind ?_ (fun _ => ?_) | refine ok_forIn (fun _ _ => ?_) _ _ | refine ok_forIn_range (fun _ _ => ?_) _ _ | intro _ | refine ok_ite ?_ ?_ | split | exact trivial | exact ⟨trivial, trivial⟩ | dsimp only)⟩
instance k_eqGuard (o : BinOp) (t : TypeId) (x y : Operand) (a b : Value) : K P (eqGuard o t x y a b) := ⟨by
  unfold eqGuard
  repeat' (first | exact K.ok | refine OkT.bind ?_ (fun _ => ?_) | refine ok_forIn (fun _ _ => ?_) _ _ | refine ok_forIn_range (fun _ _ => ?_) _ _ | intro _ | refine ok_ite ?_ ?_ | split | exact trivial | exact ⟨trivial, trivial⟩ | dsimp only)⟩
instance k_Conv_intToFloat (k : FloatKind) (n : Int) : K P (Conv.intToFloat k n) := ⟨by
  unfold Conv.intToFloat
  repeat' (first | exact K.ok | refine OkT.bind ?_ (fun _ => ?_) | refine ok_forIn (fun _ _ => ?_) _ _ | refine ok_forIn_range (fun _ _ => ?_) _ _ | intro _ | refine ok_ite ?_ ?_ | split | exact trivial | exact ⟨trivial, trivial⟩ | dsimp only)⟩
instance k_Conv_floatToInt (k : FloatKind) (a : Nat) (j : IntKind) : K P (Conv.floatToInt k a j) := ⟨by
  unfold Conv.floatToInt
  repeat' (first | exact K.ok | refine OkT.bind ?_ (fun _ => ?_) | refine ok_forIn (fun _ _ => ?_) _ _ | refine ok_forIn_range (fun _ _ => ?_) _ _ | intro _ | refine ok_ite ?_ ?_ | split | exact trivial | exact ⟨trivial, trivial⟩ | dsimp only)⟩
instance k_Conv_complexToComplex (k : FloatKind) (a b : Nat) (j : FloatKind) : K P (Conv.complexToComplex k a b j) := ⟨by
  unfold Conv.complexToComplex
  repeat' (first | exact K.ok | refine OkT.bind ?_ (fun _ => ?_) | refine ok_forIn (fun _ _ => ?_) _ _ | refine ok_forIn_range (fun _ _ => ?_) _ _ | intro _ | refine ok_ite ?_ ?_ | split | exact trivial | exact ⟨trivial, trivial⟩ | dsimp only)⟩
instance k_Conv_intToString (n : Int) : K P (Conv.intToString n) := ⟨by
  unfold Conv.intToString
  repeat' (first | exact K.ok | refine OkT.bind ?_ (fun _ => ?_) | refine ok_forIn (fun _ _ => ?_) _ _ | refine ok_forIn_range (fun _ _ => ?_) _ _ | intro _ | refine ok_ite ?_ ?_ | split | exact trivial | exact ⟨trivial, trivial⟩ | dsimp only)⟩
instance k_binOp (o : BinOp) (t : TypeId) (x y : Value) : K P (binOp o t x y) := ⟨by
  unfold binOp
  repeat' (first | exact K.ok | refine OkT.bind ?_ (fun _ => ?_) | refine ok_forIn (fun _ _ => ?_) _ _ | refine ok_forIn_range (fun _ _ => ?_) _ _ | intro _ | refine ok_ite ?_ ?_ | split | exact trivial | exact ⟨trivial, trivial⟩ | dsimp only)⟩
theorem ok_loadBytes (a : Addr) : ∀ (n : Nat) (a : Addr) (acc : ByteArray), OkT P (loadBytes a acc n)
  | 0, _, _ => trivial
  | n + 1, b, acc => by
    haveI ih : ∀ b acc, K P (loadBytes b acc n) := fun b acc => ⟨ok_loadBytes a n b acc⟩
    unfold loadBytes
    repeat' (first | exact K.ok | refine OkT.bind ?_ (fun _ => ?_) | intro _ | split | exact trivial | dsimp only)
instance k_loadBytes (a : Addr) (n : Nat) (acc : ByteArray) : K P (loadBytes a acc n) := ⟨ok_loadBytes a n a acc⟩
theorem ok_followBlind : ∀ (l : List FieldStep) (t : TypeId) (x : Option Value), OkT P (followBlind l t x)
  | [], _, _ => trivial
  | s :: l, t, x => by
    haveI ih : ∀ t x, K P (followBlind l t x) := fun t x => ⟨ok_followBlind l t x⟩
    unfold followBlind
    repeat' (first | exact K.ok | refine OkT.bind ?_ (fun _ => ?_) | refine ok_ite ?_ ?_ | intro _ | split | exact trivial | dsimp only)
instance k_followBlind (l : List FieldStep) (t : TypeId) (x : Option Value) : K P (followBlind l t x) := ⟨ok_followBlind l t x⟩
theorem ok_nilAhead : ∀ (d : Nat) (t : TypeId) (x : Value) (s : String), OkT P (nilAhead d t x s)
  | 0, _, _, _ => trivial
  | d + 1, t, x, s => by
    haveI ih : ∀ t x s, K P (nilAhead d t x s) := fun t x s => ⟨ok_nilAhead d t x s⟩
    unfold nilAhead
    repeat' (first | exact K.ok | refine OkT.bind ?_ (fun _ => ?_) | refine ok_ite ?_ ?_ | intro _ | split | exact trivial | dsimp only)
instance k_nilAhead (d : Nat) (t : TypeId) (x : Value) (s : String) : K P (nilAhead d t x s) := ⟨ok_nilAhead d t x s⟩
instance k_cellsIn (n : Nat) : K P (cellsIn n) := ⟨by
  unfold cellsIn
  repeat' (first | exact K.ok | refine OkT.bind ?_ (fun _ => ?_) | refine ok_forIn (fun _ _ => ?_) _ _ | refine ok_forIn_range (fun _ _ => ?_) _ _ | intro _ | refine ok_ite ?_ ?_ | split | exact trivial | exact ⟨trivial, trivial⟩ | dsimp only)⟩
instance k_variablesAt (a : Addr) (u : TypeId) (n : Nat) : K P (variablesAt a u n) := ⟨by
  unfold variablesAt
  repeat' (first | exact K.ok | refine OkT.bind ?_ (fun _ => ?_) | refine ok_forIn (fun _ _ => ?_) _ _ | refine ok_forIn_range (fun _ _ => ?_) _ _ | intro _ | refine ok_ite ?_ ?_ | split | exact trivial | exact ⟨trivial, trivial⟩ | dsimp only)⟩
instance k_intVariablesAt (k : IntKind) (a : Addr) (n : Nat) : K P (intVariablesAt k a n) := ⟨by
  unfold intVariablesAt
  repeat' (first | exact K.ok | refine OkT.bind ?_ (fun _ => ?_) | refine ok_forIn (fun _ _ => ?_) _ _ | refine ok_forIn_range (fun _ _ => ?_) _ _ | intro _ | refine ok_ite ?_ ?_ | split | exact trivial | exact ⟨trivial, trivial⟩ | dsimp only)⟩
instance k_byteVariablesAt (a : Addr) (n : Nat) : K P (byteVariablesAt a n) := ⟨by
  unfold byteVariablesAt
  repeat' (first | exact K.ok | refine OkT.bind ?_ (fun _ => ?_) | refine ok_forIn (fun _ _ => ?_) _ _ | refine ok_forIn_range (fun _ _ => ?_) _ _ | intro _ | refine ok_ite ?_ ?_ | split | exact trivial | exact ⟨trivial, trivial⟩ | dsimp only)⟩
instance k_Conv_seenAt (a : Addr) : K P (Conv.seenAt a) := ⟨by
  unfold Conv.seenAt
  repeat' (first | exact K.ok | refine OkT.bind ?_ (fun _ => ?_) | refine ok_forIn (fun _ _ => ?_) _ _ | refine ok_forIn_range (fun _ _ => ?_) _ _ | intro _ | refine ok_ite ?_ ?_ | split | exact trivial | exact ⟨trivial, trivial⟩ | dsimp only)⟩
instance k_Conv_unsafePointer (t u : TypeId) (v : Value) : K P (Conv.unsafePointer t u v) := ⟨by
  unfold Conv.unsafePointer
  repeat' (first | exact K.ok | refine OkT.bind ?_ (fun _ => ?_) | refine ok_forIn (fun _ _ => ?_) _ _ | refine ok_forIn_range (fun _ _ => ?_) _ _ | intro _ | refine ok_ite ?_ ?_ | split | exact trivial | exact ⟨trivial, trivial⟩ | dsimp only)⟩
instance k_Conv_bytesToString (v : Value) : K P (Conv.bytesToString v) := ⟨by
  unfold Conv.bytesToString
  repeat' (first | exact K.ok | refine OkT.bind ?_ (fun _ => ?_) | refine ok_forIn (fun _ _ => ?_) _ _ | refine ok_forIn_range (fun _ _ => ?_) _ _ | intro _ | refine ok_ite ?_ ?_ | split | exact trivial | exact ⟨trivial, trivial⟩ | dsimp only)⟩
instance k_Conv_runesToString (v : Value) : K P (Conv.runesToString v) := ⟨by
  unfold Conv.runesToString
  repeat' (first | exact K.ok | refine OkT.bind ?_ (fun _ => ?_) | refine ok_forIn (fun _ _ => ?_) _ _ | refine ok_forIn_range (fun _ _ => ?_) _ _ | intro _ | refine ok_ite ?_ ?_ | split | exact trivial | exact ⟨trivial, trivial⟩ | dsimp only)⟩
instance k_Conv_stringToBytes (t : TypeId) (v : ByteArray) : K P (Conv.stringToBytes t v) := ⟨by
  unfold Conv.stringToBytes
  repeat' (first | exact K.ok | refine OkT.bind ?_ (fun _ => ?_) | refine ok_forIn (fun _ _ => ?_) _ _ | refine ok_forIn_range (fun _ _ => ?_) _ _ | intro _ | refine ok_ite ?_ ?_ | split | exact trivial | exact ⟨trivial, trivial⟩ | dsimp only)⟩
instance k_Conv_stringToRunes (t : TypeId) (v : ByteArray) : K P (Conv.stringToRunes t v) := ⟨by
  unfold Conv.stringToRunes
  repeat' (first | exact K.ok | refine OkT.bind ?_ (fun _ => ?_) | refine ok_forIn (fun _ _ => ?_) _ _ | refine ok_forIn_range (fun _ _ => ?_) _ _ | intro _ | refine ok_ite ?_ ?_ | split | exact trivial | exact ⟨trivial, trivial⟩ | dsimp only)⟩
instance k_convert (t u : TypeId) (v : Value) : K P (convert t u v) := ⟨by
  unfold convert
  repeat' (first | exact K.ok | refine OkT.bind ?_ (fun _ => ?_) | refine ok_forIn (fun _ _ => ?_) _ _ | refine ok_forIn_range (fun _ _ => ?_) _ _ | intro _ | refine ok_ite ?_ ?_ | split | exact trivial | exact ⟨trivial, trivial⟩ | dsimp only)⟩
instance k_Deferred_ofValue (v : Value) (a : Array Value) : K P (Deferred.ofValue v a) := ⟨by
  unfold Deferred.ofValue
  repeat' (first | exact K.ok | refine OkT.bind ?_ (fun _ => ?_) | refine ok_forIn (fun _ _ => ?_) _ _ | refine ok_forIn_range (fun _ _ => ?_) _ _ | intro _ | refine ok_ite ?_ ?_ | split | exact trivial | exact ⟨trivial, trivial⟩ | dsimp only)⟩
end
end Go.Proofs.YtpejmgellidhbaaGreatDoor
