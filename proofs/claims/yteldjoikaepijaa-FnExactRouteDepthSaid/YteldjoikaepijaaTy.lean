/- The data of the program, and how it lies in cells. (Printed by tools/types.py.) -/
import Derived.Test.YteldjoikaepijaaFw19
namespace Go.Fw
open Go

abbrev Str := List UInt8
def encS (s : Str) : List AV := [.str s]
def encI (n : Int) : List AV := [.int .i64 n]
@[simp] theorem encS_inj {a b : Str} : encS a = encS b ↔ a = b := by simp [encS]
@[simp] theorem encI_inj {a b : Int} : encI a = encI b ↔ a = b := by simp [encI]
@[simp] theorem get_encS {a : Str} : (encS a)[0]? = some (.str a) := rfl
@[simp] theorem get_encI {a : Int} : (encI a)[0]? = some (.int .i64 a) := rfl
@[simp] theorem getE_encS {a : Str} {h : 0 < (encS a).length} : (encS a)[0] = .str a := rfl
@[simp] theorem getE_encI {a : Int} {h : 0 < (encI a).length} : (encI a)[0] = .int .i64 a := rfl
@[simp] theorem len_encS {a : Str} : (encS a).length = 1 := rfl
@[simp] theorem len_encI {a : Int} : (encI a).length = 1 := rfl
@[simp] theorem head_encS {a : Str} : (encS a).head? = some (.str a) := rfl
@[simp] theorem head_encI {a : Int} : (encI a).head? = some (.int .i64 a) := rfl
theorem map_inj {α β : Type} {f : α → β} (h : ∀ a b, f a = f b → a = b) : ∀ {l l' : List α}, l.map f = l'.map f → l = l'
  | [], [], _ => rfl
  | [], _ :: _, h' => by simp at h'
  | _ :: _, [], h' => by simp at h'
  | a :: l, b :: l', h' => by simp only [List.map_cons, List.cons.injEq] at h'; rw [h _ _ h'.1, map_inj h h'.2]
@[simp] theorem mapS_inj {a b : List Str} : a.map encS = b.map encS ↔ a = b := ⟨map_inj fun _ _ => encS_inj.1, fun h => h ▸ rfl⟩
@[simp] theorem mapI_inj {a b : List Int} : a.map encI = b.map encI ↔ a = b := ⟨map_inj fun _ _ => encI_inj.1, fun h => h ▸ rfl⟩

structure Field where
  name : Str
  of : Str
  list : Bool
  must : Bool
  far : Bool
  hidden : Bool
  shared : Bool
  needs : List Str
def encField (x : Field) : List AV := [.str x.name, .str x.of, .bool x.list, .bool x.must, .bool x.far, .bool x.hidden, .bool x.shared, .sl 1 (x.needs.map encS)]
theorem encField_eq (x : Field) : encField x = [.str x.name, .str x.of, .bool x.list, .bool x.must, .bool x.far, .bool x.hidden, .bool x.shared, .sl 1 (x.needs.map encS)] := rfl
@[simp] theorem encField_inj {a b : Field} : encField a = encField b ↔ a = b := by
  constructor
  · intro h
    obtain ⟨a0, a1, a2, a3, a4, a5, a6, a7⟩ := a
    obtain ⟨b0, b1, b2, b3, b4, b5, b6, b7⟩ := b
    simp [encField] at h
    simp [h]
  · intro h; rw [h]
theorem Field.eta (x : Field) : Field.mk x.name x.of x.list x.must x.far x.hidden x.shared x.needs = x := rfl
@[simp] theorem mapField_inj {a b : List Field} : a.map encField = b.map encField ↔ a = b := ⟨map_inj fun _ _ => encField_inj.1, fun h => h ▸ rfl⟩
@[simp] theorem len_encField (x : Field) : (encField x).length = 8 := by simp [encField_eq]
@[simp] theorem take_encField (x : Field) : (encField x).take 8 = encField x := List.take_of_length_le (by simp)
@[simp] theorem pure_encField (x : Field) : AV.pureL (encField x) = true := by simp [encField_eq]
@[simp] theorem cell_encField (x : Field) : (encField x).all AV.isCell = true := by simp [encField_eq, AV.isCell]
@[simp] theorem celp_encField (x : Field) : ((encField x).all fun c => c.isCell && c.pure) = true := by simp [encField_eq, AV.isCell]
@[simp] theorem head_encField (x : Field) : (encField x).head? = some (.str x.name) := by simp [encField_eq]
@[simp] theorem get_encField_0 (x : Field) : (encField x)[0]? = some (.str x.name) := by simp [encField_eq]
@[simp] theorem getE_encField_0 (x : Field) (h : 0 < (encField x).length) : (encField x)[0] = .str x.name := by simp [encField_eq]
@[simp] theorem head_encField_1 (x : Field) : ((encField x).drop 1).head? = some (.str x.of) := by simp [encField_eq]
@[simp] theorem get_encField_1 (x : Field) : (encField x)[1]? = some (.str x.of) := by simp [encField_eq]
@[simp] theorem getE_encField_1 (x : Field) (h : 1 < (encField x).length) : (encField x)[1] = .str x.of := by simp [encField_eq]
@[simp] theorem head_encField_2 (x : Field) : ((encField x).drop 2).head? = some (.bool x.list) := by simp [encField_eq]
@[simp] theorem get_encField_2 (x : Field) : (encField x)[2]? = some (.bool x.list) := by simp [encField_eq]
@[simp] theorem getE_encField_2 (x : Field) (h : 2 < (encField x).length) : (encField x)[2] = .bool x.list := by simp [encField_eq]
@[simp] theorem head_encField_3 (x : Field) : ((encField x).drop 3).head? = some (.bool x.must) := by simp [encField_eq]
@[simp] theorem get_encField_3 (x : Field) : (encField x)[3]? = some (.bool x.must) := by simp [encField_eq]
@[simp] theorem getE_encField_3 (x : Field) (h : 3 < (encField x).length) : (encField x)[3] = .bool x.must := by simp [encField_eq]
@[simp] theorem head_encField_4 (x : Field) : ((encField x).drop 4).head? = some (.bool x.far) := by simp [encField_eq]
@[simp] theorem get_encField_4 (x : Field) : (encField x)[4]? = some (.bool x.far) := by simp [encField_eq]
@[simp] theorem getE_encField_4 (x : Field) (h : 4 < (encField x).length) : (encField x)[4] = .bool x.far := by simp [encField_eq]
@[simp] theorem head_encField_5 (x : Field) : ((encField x).drop 5).head? = some (.bool x.hidden) := by simp [encField_eq]
@[simp] theorem get_encField_5 (x : Field) : (encField x)[5]? = some (.bool x.hidden) := by simp [encField_eq]
@[simp] theorem getE_encField_5 (x : Field) (h : 5 < (encField x).length) : (encField x)[5] = .bool x.hidden := by simp [encField_eq]
@[simp] theorem head_encField_6 (x : Field) : ((encField x).drop 6).head? = some (.bool x.shared) := by simp [encField_eq]
@[simp] theorem get_encField_6 (x : Field) : (encField x)[6]? = some (.bool x.shared) := by simp [encField_eq]
@[simp] theorem getE_encField_6 (x : Field) (h : 6 < (encField x).length) : (encField x)[6] = .bool x.shared := by simp [encField_eq]
@[simp] theorem head_encField_7 (x : Field) : ((encField x).drop 7).head? = some (.sl 1 (x.needs.map encS)) := by simp [encField_eq]
@[simp] theorem get_encField_7 (x : Field) : (encField x)[7]? = some (.sl 1 (x.needs.map encS)) := by simp [encField_eq]
@[simp] theorem getE_encField_7 (x : Field) (h : 7 < (encField x).length) : (encField x)[7] = .sl 1 (x.needs.map encS) := by simp [encField_eq]

structure Typ where
  name : Str
  key : Str
  fields : List Field
def encTyp (x : Typ) : List AV := [.str x.name, .str x.key, .sl 8 (x.fields.map encField)]
theorem encTyp_eq (x : Typ) : encTyp x = [.str x.name, .str x.key, .sl 8 (x.fields.map encField)] := rfl
@[simp] theorem encTyp_inj {a b : Typ} : encTyp a = encTyp b ↔ a = b := by
  constructor
  · intro h
    obtain ⟨a0, a1, a2⟩ := a
    obtain ⟨b0, b1, b2⟩ := b
    simp [encTyp] at h
    simp [h]
  · intro h; rw [h]
theorem Typ.eta (x : Typ) : Typ.mk x.name x.key x.fields = x := rfl
@[simp] theorem mapTyp_inj {a b : List Typ} : a.map encTyp = b.map encTyp ↔ a = b := ⟨map_inj fun _ _ => encTyp_inj.1, fun h => h ▸ rfl⟩
@[simp] theorem len_encTyp (x : Typ) : (encTyp x).length = 3 := by simp [encTyp_eq]
@[simp] theorem take_encTyp (x : Typ) : (encTyp x).take 3 = encTyp x := List.take_of_length_le (by simp)
@[simp] theorem pure_encTyp (x : Typ) : AV.pureL (encTyp x) = true := by simp [encTyp_eq]
@[simp] theorem cell_encTyp (x : Typ) : (encTyp x).all AV.isCell = true := by simp [encTyp_eq, AV.isCell]
@[simp] theorem celp_encTyp (x : Typ) : ((encTyp x).all fun c => c.isCell && c.pure) = true := by simp [encTyp_eq, AV.isCell]
@[simp] theorem head_encTyp (x : Typ) : (encTyp x).head? = some (.str x.name) := by simp [encTyp_eq]
@[simp] theorem get_encTyp_0 (x : Typ) : (encTyp x)[0]? = some (.str x.name) := by simp [encTyp_eq]
@[simp] theorem getE_encTyp_0 (x : Typ) (h : 0 < (encTyp x).length) : (encTyp x)[0] = .str x.name := by simp [encTyp_eq]
@[simp] theorem head_encTyp_1 (x : Typ) : ((encTyp x).drop 1).head? = some (.str x.key) := by simp [encTyp_eq]
@[simp] theorem get_encTyp_1 (x : Typ) : (encTyp x)[1]? = some (.str x.key) := by simp [encTyp_eq]
@[simp] theorem getE_encTyp_1 (x : Typ) (h : 1 < (encTyp x).length) : (encTyp x)[1] = .str x.key := by simp [encTyp_eq]
@[simp] theorem head_encTyp_2 (x : Typ) : ((encTyp x).drop 2).head? = some (.sl 8 (x.fields.map encField)) := by simp [encTyp_eq]
@[simp] theorem get_encTyp_2 (x : Typ) : (encTyp x)[2]? = some (.sl 8 (x.fields.map encField)) := by simp [encTyp_eq]
@[simp] theorem getE_encTyp_2 (x : Typ) (h : 2 < (encTyp x).length) : (encTyp x)[2] = .sl 8 (x.fields.map encField) := by simp [encTyp_eq]

structure Part where
  name : Str
  types : List Typ
def encPart (x : Part) : List AV := [.str x.name, .sl 3 (x.types.map encTyp)]
theorem encPart_eq (x : Part) : encPart x = [.str x.name, .sl 3 (x.types.map encTyp)] := rfl
@[simp] theorem encPart_inj {a b : Part} : encPart a = encPart b ↔ a = b := by
  constructor
  · intro h
    obtain ⟨a0, a1⟩ := a
    obtain ⟨b0, b1⟩ := b
    simp [encPart] at h
    simp [h]
  · intro h; rw [h]
theorem Part.eta (x : Part) : Part.mk x.name x.types = x := rfl
@[simp] theorem mapPart_inj {a b : List Part} : a.map encPart = b.map encPart ↔ a = b := ⟨map_inj fun _ _ => encPart_inj.1, fun h => h ▸ rfl⟩
@[simp] theorem len_encPart (x : Part) : (encPart x).length = 2 := by simp [encPart_eq]
@[simp] theorem take_encPart (x : Part) : (encPart x).take 2 = encPart x := List.take_of_length_le (by simp)
@[simp] theorem pure_encPart (x : Part) : AV.pureL (encPart x) = true := by simp [encPart_eq]
@[simp] theorem cell_encPart (x : Part) : (encPart x).all AV.isCell = true := by simp [encPart_eq, AV.isCell]
@[simp] theorem celp_encPart (x : Part) : ((encPart x).all fun c => c.isCell && c.pure) = true := by simp [encPart_eq, AV.isCell]
@[simp] theorem head_encPart (x : Part) : (encPart x).head? = some (.str x.name) := by simp [encPart_eq]
@[simp] theorem get_encPart_0 (x : Part) : (encPart x)[0]? = some (.str x.name) := by simp [encPart_eq]
@[simp] theorem getE_encPart_0 (x : Part) (h : 0 < (encPart x).length) : (encPart x)[0] = .str x.name := by simp [encPart_eq]
@[simp] theorem head_encPart_1 (x : Part) : ((encPart x).drop 1).head? = some (.sl 3 (x.types.map encTyp)) := by simp [encPart_eq]
@[simp] theorem get_encPart_1 (x : Part) : (encPart x)[1]? = some (.sl 3 (x.types.map encTyp)) := by simp [encPart_eq]
@[simp] theorem getE_encPart_1 (x : Part) (h : 1 < (encPart x).length) : (encPart x)[1] = .sl 3 (x.types.map encTyp) := by simp [encPart_eq]

inductive Val where
  | mk (sort : Int) (num : Int) (text : Str) (names : List Str) (kids : List Val)
def Val.sort : Val → Int | .mk x _ _ _ _ => x
@[simp] theorem Val.sort_mk {x0 : Int} {x1 : Int} {x2 : Str} {x3 : List Str} {x4 : List Val} : (Val.mk x0 x1 x2 x3 x4).sort = x0 := rfl
def Val.num : Val → Int | .mk _ x _ _ _ => x
@[simp] theorem Val.num_mk {x0 : Int} {x1 : Int} {x2 : Str} {x3 : List Str} {x4 : List Val} : (Val.mk x0 x1 x2 x3 x4).num = x1 := rfl
def Val.text : Val → Str | .mk _ _ x _ _ => x
@[simp] theorem Val.text_mk {x0 : Int} {x1 : Int} {x2 : Str} {x3 : List Str} {x4 : List Val} : (Val.mk x0 x1 x2 x3 x4).text = x2 := rfl
def Val.names : Val → List Str | .mk _ _ _ x _ => x
@[simp] theorem Val.names_mk {x0 : Int} {x1 : Int} {x2 : Str} {x3 : List Str} {x4 : List Val} : (Val.mk x0 x1 x2 x3 x4).names = x3 := rfl
def Val.kids : Val → List Val | .mk _ _ _ _ x => x
@[simp] theorem Val.kids_mk {x0 : Int} {x1 : Int} {x2 : Str} {x3 : List Str} {x4 : List Val} : (Val.mk x0 x1 x2 x3 x4).kids = x4 := rfl
mutual
def encVal : Val → List AV
  | .mk x0 x1 x2 x3 x4 => [.int .i64 x0, .int .i64 x1, .str x2, .sl 1 (x3.map encS), .sl 5 (encValL x4)]
def encValL : List Val → List (List AV)
  | [] => []
  | x :: l => encVal x :: encValL l
end
theorem encValL_eq : ∀ l : List Val, encValL l = l.map encVal
  | [] => by simp [encValL]
  | x :: l => by simp [encValL, encValL_eq l]
theorem encVal_eq (x : Val) : encVal x = [.int .i64 x.sort, .int .i64 x.num, .str x.text, .sl 1 (x.names.map encS), .sl 5 (x.kids.map encVal)] := by
  obtain ⟨x0, x1, x2, x3, x4⟩ := x
  simp [encVal, encValL_eq]
mutual
theorem encVal_inj' : ∀ a b : Val, encVal a = encVal b → a = b
  | .mk a0 a1 a2 a3 a4, .mk b0 b1 b2 b3 b4, h => by
    simp [encVal] at h
    have := encValL_inj' a4 b4 (by simp [h])
    simp [h, this]
theorem encValL_inj' : ∀ a b : List Val, encValL a = encValL b → a = b
  | [], [], _ => rfl
  | [], _ :: _, h => by simp [encValL] at h
  | _ :: _, [], h => by simp [encValL] at h
  | x :: a, y :: b, h => by
    simp only [encValL, List.cons.injEq] at h
    rw [encVal_inj' x y h.1, encValL_inj' a b h.2]
end
@[simp] theorem encVal_inj {a b : Val} : encVal a = encVal b ↔ a = b := ⟨encVal_inj' a b, fun h => h ▸ rfl⟩
@[simp] theorem Val.eta (x : Val) : Val.mk x.sort x.num x.text x.names x.kids = x := by cases x; rfl
@[simp] theorem mapVal_inj {a b : List Val} : a.map encVal = b.map encVal ↔ a = b := ⟨map_inj fun _ _ => encVal_inj.1, fun h => h ▸ rfl⟩
@[simp] theorem len_encVal (x : Val) : (encVal x).length = 5 := by simp [encVal_eq]
@[simp] theorem take_encVal (x : Val) : (encVal x).take 5 = encVal x := List.take_of_length_le (by simp)
@[simp] theorem pure_encVal (x : Val) : AV.pureL (encVal x) = true := by simp [encVal_eq]
@[simp] theorem cell_encVal (x : Val) : (encVal x).all AV.isCell = true := by simp [encVal_eq, AV.isCell]
@[simp] theorem celp_encVal (x : Val) : ((encVal x).all fun c => c.isCell && c.pure) = true := by simp [encVal_eq, AV.isCell]
@[simp] theorem head_encVal (x : Val) : (encVal x).head? = some (.int .i64 x.sort) := by simp [encVal_eq]
@[simp] theorem get_encVal_0 (x : Val) : (encVal x)[0]? = some (.int .i64 x.sort) := by simp [encVal_eq]
@[simp] theorem getE_encVal_0 (x : Val) (h : 0 < (encVal x).length) : (encVal x)[0] = .int .i64 x.sort := by simp [encVal_eq]
@[simp] theorem head_encVal_1 (x : Val) : ((encVal x).drop 1).head? = some (.int .i64 x.num) := by simp [encVal_eq]
@[simp] theorem get_encVal_1 (x : Val) : (encVal x)[1]? = some (.int .i64 x.num) := by simp [encVal_eq]
@[simp] theorem getE_encVal_1 (x : Val) (h : 1 < (encVal x).length) : (encVal x)[1] = .int .i64 x.num := by simp [encVal_eq]
@[simp] theorem head_encVal_2 (x : Val) : ((encVal x).drop 2).head? = some (.str x.text) := by simp [encVal_eq]
@[simp] theorem get_encVal_2 (x : Val) : (encVal x)[2]? = some (.str x.text) := by simp [encVal_eq]
@[simp] theorem getE_encVal_2 (x : Val) (h : 2 < (encVal x).length) : (encVal x)[2] = .str x.text := by simp [encVal_eq]
@[simp] theorem head_encVal_3 (x : Val) : ((encVal x).drop 3).head? = some (.sl 1 (x.names.map encS)) := by simp [encVal_eq]
@[simp] theorem get_encVal_3 (x : Val) : (encVal x)[3]? = some (.sl 1 (x.names.map encS)) := by simp [encVal_eq]
@[simp] theorem getE_encVal_3 (x : Val) (h : 3 < (encVal x).length) : (encVal x)[3] = .sl 1 (x.names.map encS) := by simp [encVal_eq]
@[simp] theorem head_encVal_4 (x : Val) : ((encVal x).drop 4).head? = some (.sl 5 (x.kids.map encVal)) := by simp [encVal_eq]
@[simp] theorem get_encVal_4 (x : Val) : (encVal x)[4]? = some (.sl 5 (x.kids.map encVal)) := by simp [encVal_eq]
@[simp] theorem getE_encVal_4 (x : Val) (h : 4 < (encVal x).length) : (encVal x)[4] = .sl 5 (x.kids.map encVal) := by simp [encVal_eq]

structure Cel where
  name : Str
  value : Val
def encCel (x : Cel) : List AV := [.str x.name] ++ encVal x.value
theorem encCel_eq (x : Cel) : encCel x = [.str x.name] ++ encVal x.value := rfl
@[simp] theorem encCel_inj {a b : Cel} : encCel a = encCel b ↔ a = b := by
  constructor
  · intro h
    obtain ⟨a0, a1⟩ := a
    obtain ⟨b0, b1⟩ := b
    simp [encCel, encVal_eq] at h
    obtain ⟨h0, h1, h2, h3, h4, h5⟩ := h
    have e : a1 = b1 := by
      rw [← Val.eta a1, ← Val.eta b1]; simp only [h1, h2, h3, h4, h5]
    simp [e, h0]
  · intro h; rw [h]
theorem Cel.eta (x : Cel) : Cel.mk x.name x.value = x := rfl
@[simp] theorem mapCel_inj {a b : List Cel} : a.map encCel = b.map encCel ↔ a = b := ⟨map_inj fun _ _ => encCel_inj.1, fun h => h ▸ rfl⟩
@[simp] theorem len_encCel (x : Cel) : (encCel x).length = 6 := by simp [encCel_eq, encVal_eq]
@[simp] theorem take_encCel (x : Cel) : (encCel x).take 6 = encCel x := List.take_of_length_le (by simp)
@[simp] theorem pure_encCel (x : Cel) : AV.pureL (encCel x) = true := by simp [encCel_eq, encVal_eq]
@[simp] theorem cell_encCel (x : Cel) : (encCel x).all AV.isCell = true := by simp [encCel_eq, encVal_eq, AV.isCell]
@[simp] theorem celp_encCel (x : Cel) : ((encCel x).all fun c => c.isCell && c.pure) = true := by simp [encCel_eq, encVal_eq, AV.isCell]
@[simp] theorem head_encCel (x : Cel) : (encCel x).head? = some (.str x.name) := by simp [encCel_eq, encVal_eq]
@[simp] theorem get_encCel_0 (x : Cel) : (encCel x)[0]? = some (.str x.name) := by simp [encCel_eq, encVal_eq]
@[simp] theorem getE_encCel_0 (x : Cel) (h : 0 < (encCel x).length) : (encCel x)[0] = .str x.name := by simp [encCel_eq, encVal_eq]
@[simp] theorem drop_encCel_1 (x : Cel) : (encCel x).drop 1 = encVal x.value := by simp [encCel_eq]
@[simp] theorem get_encCel_1 (x : Cel) : (encCel x)[1]? = some (.int .i64 x.value.sort) := by simp [encCel_eq, encVal_eq]
@[simp] theorem getE_encCel_1 (x : Cel) (h : 1 < (encCel x).length) : (encCel x)[1] = .int .i64 x.value.sort := by simp [encCel_eq, encVal_eq]
@[simp] theorem get_encCel_2 (x : Cel) : (encCel x)[2]? = some (.int .i64 x.value.num) := by simp [encCel_eq, encVal_eq]
@[simp] theorem getE_encCel_2 (x : Cel) (h : 2 < (encCel x).length) : (encCel x)[2] = .int .i64 x.value.num := by simp [encCel_eq, encVal_eq]
@[simp] theorem get_encCel_3 (x : Cel) : (encCel x)[3]? = some (.str x.value.text) := by simp [encCel_eq, encVal_eq]
@[simp] theorem getE_encCel_3 (x : Cel) (h : 3 < (encCel x).length) : (encCel x)[3] = .str x.value.text := by simp [encCel_eq, encVal_eq]
@[simp] theorem get_encCel_4 (x : Cel) : (encCel x)[4]? = some (.sl 1 (x.value.names.map encS)) := by simp [encCel_eq, encVal_eq]
@[simp] theorem getE_encCel_4 (x : Cel) (h : 4 < (encCel x).length) : (encCel x)[4] = .sl 1 (x.value.names.map encS) := by simp [encCel_eq, encVal_eq]
@[simp] theorem get_encCel_5 (x : Cel) : (encCel x)[5]? = some (.sl 5 (x.value.kids.map encVal)) := by simp [encCel_eq, encVal_eq]
@[simp] theorem getE_encCel_5 (x : Cel) (h : 5 < (encCel x).length) : (encCel x)[5] = .sl 5 (x.value.kids.map encVal) := by simp [encCel_eq, encVal_eq]
@[simp] theorem dt_encCel_1 (x : Cel) : ((encCel x).drop 1).take 5 = encVal x.value := by simp [encCel_eq, encVal_eq]

structure Row where
  type : Str
  id : Int
  cells : List Cel
def encRow (x : Row) : List AV := [.str x.type, .int .i64 x.id, .sl 6 (x.cells.map encCel)]
theorem encRow_eq (x : Row) : encRow x = [.str x.type, .int .i64 x.id, .sl 6 (x.cells.map encCel)] := rfl
@[simp] theorem encRow_inj {a b : Row} : encRow a = encRow b ↔ a = b := by
  constructor
  · intro h
    obtain ⟨a0, a1, a2⟩ := a
    obtain ⟨b0, b1, b2⟩ := b
    simp [encRow] at h
    simp [h]
  · intro h; rw [h]
theorem Row.eta (x : Row) : Row.mk x.type x.id x.cells = x := rfl
@[simp] theorem mapRow_inj {a b : List Row} : a.map encRow = b.map encRow ↔ a = b := ⟨map_inj fun _ _ => encRow_inj.1, fun h => h ▸ rfl⟩
@[simp] theorem len_encRow (x : Row) : (encRow x).length = 3 := by simp [encRow_eq]
@[simp] theorem take_encRow (x : Row) : (encRow x).take 3 = encRow x := List.take_of_length_le (by simp)
@[simp] theorem pure_encRow (x : Row) : AV.pureL (encRow x) = true := by simp [encRow_eq]
@[simp] theorem cell_encRow (x : Row) : (encRow x).all AV.isCell = true := by simp [encRow_eq, AV.isCell]
@[simp] theorem celp_encRow (x : Row) : ((encRow x).all fun c => c.isCell && c.pure) = true := by simp [encRow_eq, AV.isCell]
@[simp] theorem head_encRow (x : Row) : (encRow x).head? = some (.str x.type) := by simp [encRow_eq]
@[simp] theorem get_encRow_0 (x : Row) : (encRow x)[0]? = some (.str x.type) := by simp [encRow_eq]
@[simp] theorem getE_encRow_0 (x : Row) (h : 0 < (encRow x).length) : (encRow x)[0] = .str x.type := by simp [encRow_eq]
@[simp] theorem head_encRow_1 (x : Row) : ((encRow x).drop 1).head? = some (.int .i64 x.id) := by simp [encRow_eq]
@[simp] theorem get_encRow_1 (x : Row) : (encRow x)[1]? = some (.int .i64 x.id) := by simp [encRow_eq]
@[simp] theorem getE_encRow_1 (x : Row) (h : 1 < (encRow x).length) : (encRow x)[1] = .int .i64 x.id := by simp [encRow_eq]
@[simp] theorem head_encRow_2 (x : Row) : ((encRow x).drop 2).head? = some (.sl 6 (x.cells.map encCel)) := by simp [encRow_eq]
@[simp] theorem get_encRow_2 (x : Row) : (encRow x)[2]? = some (.sl 6 (x.cells.map encCel)) := by simp [encRow_eq]
@[simp] theorem getE_encRow_2 (x : Row) (h : 2 < (encRow x).length) : (encRow x)[2] = .sl 6 (x.cells.map encCel) := by simp [encRow_eq]

inductive Sel where
  | mk (as : Str) (name : Str) (one : Bool) (id : Int) (kids : List Sel)
def Sel.as : Sel → Str | .mk x _ _ _ _ => x
@[simp] theorem Sel.as_mk {x0 : Str} {x1 : Str} {x2 : Bool} {x3 : Int} {x4 : List Sel} : (Sel.mk x0 x1 x2 x3 x4).as = x0 := rfl
def Sel.name : Sel → Str | .mk _ x _ _ _ => x
@[simp] theorem Sel.name_mk {x0 : Str} {x1 : Str} {x2 : Bool} {x3 : Int} {x4 : List Sel} : (Sel.mk x0 x1 x2 x3 x4).name = x1 := rfl
def Sel.one : Sel → Bool | .mk _ _ x _ _ => x
@[simp] theorem Sel.one_mk {x0 : Str} {x1 : Str} {x2 : Bool} {x3 : Int} {x4 : List Sel} : (Sel.mk x0 x1 x2 x3 x4).one = x2 := rfl
def Sel.id : Sel → Int | .mk _ _ _ x _ => x
@[simp] theorem Sel.id_mk {x0 : Str} {x1 : Str} {x2 : Bool} {x3 : Int} {x4 : List Sel} : (Sel.mk x0 x1 x2 x3 x4).id = x3 := rfl
def Sel.kids : Sel → List Sel | .mk _ _ _ _ x => x
@[simp] theorem Sel.kids_mk {x0 : Str} {x1 : Str} {x2 : Bool} {x3 : Int} {x4 : List Sel} : (Sel.mk x0 x1 x2 x3 x4).kids = x4 := rfl
mutual
def encSel : Sel → List AV
  | .mk x0 x1 x2 x3 x4 => [.str x0, .str x1, .bool x2, .int .i64 x3, .sl 5 (encSelL x4)]
def encSelL : List Sel → List (List AV)
  | [] => []
  | x :: l => encSel x :: encSelL l
end
theorem encSelL_eq : ∀ l : List Sel, encSelL l = l.map encSel
  | [] => by simp [encSelL]
  | x :: l => by simp [encSelL, encSelL_eq l]
theorem encSel_eq (x : Sel) : encSel x = [.str x.as, .str x.name, .bool x.one, .int .i64 x.id, .sl 5 (x.kids.map encSel)] := by
  obtain ⟨x0, x1, x2, x3, x4⟩ := x
  simp [encSel, encSelL_eq]
mutual
theorem encSel_inj' : ∀ a b : Sel, encSel a = encSel b → a = b
  | .mk a0 a1 a2 a3 a4, .mk b0 b1 b2 b3 b4, h => by
    simp [encSel] at h
    have := encSelL_inj' a4 b4 (by simp [h])
    simp [h, this]
theorem encSelL_inj' : ∀ a b : List Sel, encSelL a = encSelL b → a = b
  | [], [], _ => rfl
  | [], _ :: _, h => by simp [encSelL] at h
  | _ :: _, [], h => by simp [encSelL] at h
  | x :: a, y :: b, h => by
    simp only [encSelL, List.cons.injEq] at h
    rw [encSel_inj' x y h.1, encSelL_inj' a b h.2]
end
@[simp] theorem encSel_inj {a b : Sel} : encSel a = encSel b ↔ a = b := ⟨encSel_inj' a b, fun h => h ▸ rfl⟩
@[simp] theorem Sel.eta (x : Sel) : Sel.mk x.as x.name x.one x.id x.kids = x := by cases x; rfl
@[simp] theorem mapSel_inj {a b : List Sel} : a.map encSel = b.map encSel ↔ a = b := ⟨map_inj fun _ _ => encSel_inj.1, fun h => h ▸ rfl⟩
@[simp] theorem len_encSel (x : Sel) : (encSel x).length = 5 := by simp [encSel_eq]
@[simp] theorem take_encSel (x : Sel) : (encSel x).take 5 = encSel x := List.take_of_length_le (by simp)
@[simp] theorem pure_encSel (x : Sel) : AV.pureL (encSel x) = true := by simp [encSel_eq]
@[simp] theorem cell_encSel (x : Sel) : (encSel x).all AV.isCell = true := by simp [encSel_eq, AV.isCell]
@[simp] theorem celp_encSel (x : Sel) : ((encSel x).all fun c => c.isCell && c.pure) = true := by simp [encSel_eq, AV.isCell]
@[simp] theorem head_encSel (x : Sel) : (encSel x).head? = some (.str x.as) := by simp [encSel_eq]
@[simp] theorem get_encSel_0 (x : Sel) : (encSel x)[0]? = some (.str x.as) := by simp [encSel_eq]
@[simp] theorem getE_encSel_0 (x : Sel) (h : 0 < (encSel x).length) : (encSel x)[0] = .str x.as := by simp [encSel_eq]
@[simp] theorem head_encSel_1 (x : Sel) : ((encSel x).drop 1).head? = some (.str x.name) := by simp [encSel_eq]
@[simp] theorem get_encSel_1 (x : Sel) : (encSel x)[1]? = some (.str x.name) := by simp [encSel_eq]
@[simp] theorem getE_encSel_1 (x : Sel) (h : 1 < (encSel x).length) : (encSel x)[1] = .str x.name := by simp [encSel_eq]
@[simp] theorem head_encSel_2 (x : Sel) : ((encSel x).drop 2).head? = some (.bool x.one) := by simp [encSel_eq]
@[simp] theorem get_encSel_2 (x : Sel) : (encSel x)[2]? = some (.bool x.one) := by simp [encSel_eq]
@[simp] theorem getE_encSel_2 (x : Sel) (h : 2 < (encSel x).length) : (encSel x)[2] = .bool x.one := by simp [encSel_eq]
@[simp] theorem head_encSel_3 (x : Sel) : ((encSel x).drop 3).head? = some (.int .i64 x.id) := by simp [encSel_eq]
@[simp] theorem get_encSel_3 (x : Sel) : (encSel x)[3]? = some (.int .i64 x.id) := by simp [encSel_eq]
@[simp] theorem getE_encSel_3 (x : Sel) (h : 3 < (encSel x).length) : (encSel x)[3] = .int .i64 x.id := by simp [encSel_eq]
@[simp] theorem head_encSel_4 (x : Sel) : ((encSel x).drop 4).head? = some (.sl 5 (x.kids.map encSel)) := by simp [encSel_eq]
@[simp] theorem get_encSel_4 (x : Sel) : (encSel x)[4]? = some (.sl 5 (x.kids.map encSel)) := by simp [encSel_eq]
@[simp] theorem getE_encSel_4 (x : Sel) (h : 4 < (encSel x).length) : (encSel x)[4] = .sl 5 (x.kids.map encSel) := by simp [encSel_eq]

structure Chg where
  type : Str
  id : Int
  field : Str
  value : Val
def encChg (x : Chg) : List AV := [.str x.type, .int .i64 x.id, .str x.field] ++ encVal x.value
theorem encChg_eq (x : Chg) : encChg x = [.str x.type, .int .i64 x.id, .str x.field] ++ encVal x.value := rfl
@[simp] theorem encChg_inj {a b : Chg} : encChg a = encChg b ↔ a = b := by
  constructor
  · intro h
    obtain ⟨a0, a1, a2, a3⟩ := a
    obtain ⟨b0, b1, b2, b3⟩ := b
    simp [encChg, encVal_eq] at h
    obtain ⟨h0, h1, h2, h3, h4, h5, h6, h7⟩ := h
    have e : a3 = b3 := by
      rw [← Val.eta a3, ← Val.eta b3]; simp only [h3, h4, h5, h6, h7]
    simp [e, h0, h1, h2]
  · intro h; rw [h]
theorem Chg.eta (x : Chg) : Chg.mk x.type x.id x.field x.value = x := rfl
@[simp] theorem mapChg_inj {a b : List Chg} : a.map encChg = b.map encChg ↔ a = b := ⟨map_inj fun _ _ => encChg_inj.1, fun h => h ▸ rfl⟩
@[simp] theorem len_encChg (x : Chg) : (encChg x).length = 8 := by simp [encChg_eq, encVal_eq]
@[simp] theorem take_encChg (x : Chg) : (encChg x).take 8 = encChg x := List.take_of_length_le (by simp)
@[simp] theorem pure_encChg (x : Chg) : AV.pureL (encChg x) = true := by simp [encChg_eq, encVal_eq]
@[simp] theorem cell_encChg (x : Chg) : (encChg x).all AV.isCell = true := by simp [encChg_eq, encVal_eq, AV.isCell]
@[simp] theorem celp_encChg (x : Chg) : ((encChg x).all fun c => c.isCell && c.pure) = true := by simp [encChg_eq, encVal_eq, AV.isCell]
@[simp] theorem head_encChg (x : Chg) : (encChg x).head? = some (.str x.type) := by simp [encChg_eq, encVal_eq]
@[simp] theorem get_encChg_0 (x : Chg) : (encChg x)[0]? = some (.str x.type) := by simp [encChg_eq, encVal_eq]
@[simp] theorem getE_encChg_0 (x : Chg) (h : 0 < (encChg x).length) : (encChg x)[0] = .str x.type := by simp [encChg_eq, encVal_eq]
@[simp] theorem head_encChg_1 (x : Chg) : ((encChg x).drop 1).head? = some (.int .i64 x.id) := by simp [encChg_eq, encVal_eq]
@[simp] theorem get_encChg_1 (x : Chg) : (encChg x)[1]? = some (.int .i64 x.id) := by simp [encChg_eq, encVal_eq]
@[simp] theorem getE_encChg_1 (x : Chg) (h : 1 < (encChg x).length) : (encChg x)[1] = .int .i64 x.id := by simp [encChg_eq, encVal_eq]
@[simp] theorem head_encChg_2 (x : Chg) : ((encChg x).drop 2).head? = some (.str x.field) := by simp [encChg_eq, encVal_eq]
@[simp] theorem get_encChg_2 (x : Chg) : (encChg x)[2]? = some (.str x.field) := by simp [encChg_eq, encVal_eq]
@[simp] theorem getE_encChg_2 (x : Chg) (h : 2 < (encChg x).length) : (encChg x)[2] = .str x.field := by simp [encChg_eq, encVal_eq]
@[simp] theorem drop_encChg_3 (x : Chg) : (encChg x).drop 3 = encVal x.value := by simp [encChg_eq]
@[simp] theorem get_encChg_3 (x : Chg) : (encChg x)[3]? = some (.int .i64 x.value.sort) := by simp [encChg_eq, encVal_eq]
@[simp] theorem getE_encChg_3 (x : Chg) (h : 3 < (encChg x).length) : (encChg x)[3] = .int .i64 x.value.sort := by simp [encChg_eq, encVal_eq]
@[simp] theorem get_encChg_4 (x : Chg) : (encChg x)[4]? = some (.int .i64 x.value.num) := by simp [encChg_eq, encVal_eq]
@[simp] theorem getE_encChg_4 (x : Chg) (h : 4 < (encChg x).length) : (encChg x)[4] = .int .i64 x.value.num := by simp [encChg_eq, encVal_eq]
@[simp] theorem get_encChg_5 (x : Chg) : (encChg x)[5]? = some (.str x.value.text) := by simp [encChg_eq, encVal_eq]
@[simp] theorem getE_encChg_5 (x : Chg) (h : 5 < (encChg x).length) : (encChg x)[5] = .str x.value.text := by simp [encChg_eq, encVal_eq]
@[simp] theorem get_encChg_6 (x : Chg) : (encChg x)[6]? = some (.sl 1 (x.value.names.map encS)) := by simp [encChg_eq, encVal_eq]
@[simp] theorem getE_encChg_6 (x : Chg) (h : 6 < (encChg x).length) : (encChg x)[6] = .sl 1 (x.value.names.map encS) := by simp [encChg_eq, encVal_eq]
@[simp] theorem get_encChg_7 (x : Chg) : (encChg x)[7]? = some (.sl 5 (x.value.kids.map encVal)) := by simp [encChg_eq, encVal_eq]
@[simp] theorem getE_encChg_7 (x : Chg) (h : 7 < (encChg x).length) : (encChg x)[7] = .sl 5 (x.value.kids.map encVal) := by simp [encChg_eq, encVal_eq]
@[simp] theorem dt_encChg_3 (x : Chg) : ((encChg x).drop 3).take 5 = encVal x.value := by simp [encChg_eq, encVal_eq]

structure Ety where
  text : Str
  answer : Str
  uses : List Str
def encEty (x : Ety) : List AV := [.str x.text, .str x.answer, .sl 1 (x.uses.map encS)]
theorem encEty_eq (x : Ety) : encEty x = [.str x.text, .str x.answer, .sl 1 (x.uses.map encS)] := rfl
@[simp] theorem encEty_inj {a b : Ety} : encEty a = encEty b ↔ a = b := by
  constructor
  · intro h
    obtain ⟨a0, a1, a2⟩ := a
    obtain ⟨b0, b1, b2⟩ := b
    simp [encEty] at h
    simp [h]
  · intro h; rw [h]
theorem Ety.eta (x : Ety) : Ety.mk x.text x.answer x.uses = x := rfl
@[simp] theorem mapEty_inj {a b : List Ety} : a.map encEty = b.map encEty ↔ a = b := ⟨map_inj fun _ _ => encEty_inj.1, fun h => h ▸ rfl⟩
@[simp] theorem len_encEty (x : Ety) : (encEty x).length = 3 := by simp [encEty_eq]
@[simp] theorem take_encEty (x : Ety) : (encEty x).take 3 = encEty x := List.take_of_length_le (by simp)
@[simp] theorem pure_encEty (x : Ety) : AV.pureL (encEty x) = true := by simp [encEty_eq]
@[simp] theorem cell_encEty (x : Ety) : (encEty x).all AV.isCell = true := by simp [encEty_eq, AV.isCell]
@[simp] theorem celp_encEty (x : Ety) : ((encEty x).all fun c => c.isCell && c.pure) = true := by simp [encEty_eq, AV.isCell]
@[simp] theorem head_encEty (x : Ety) : (encEty x).head? = some (.str x.text) := by simp [encEty_eq]
@[simp] theorem get_encEty_0 (x : Ety) : (encEty x)[0]? = some (.str x.text) := by simp [encEty_eq]
@[simp] theorem getE_encEty_0 (x : Ety) (h : 0 < (encEty x).length) : (encEty x)[0] = .str x.text := by simp [encEty_eq]
@[simp] theorem head_encEty_1 (x : Ety) : ((encEty x).drop 1).head? = some (.str x.answer) := by simp [encEty_eq]
@[simp] theorem get_encEty_1 (x : Ety) : (encEty x)[1]? = some (.str x.answer) := by simp [encEty_eq]
@[simp] theorem getE_encEty_1 (x : Ety) (h : 1 < (encEty x).length) : (encEty x)[1] = .str x.answer := by simp [encEty_eq]
@[simp] theorem head_encEty_2 (x : Ety) : ((encEty x).drop 2).head? = some (.sl 1 (x.uses.map encS)) := by simp [encEty_eq]
@[simp] theorem get_encEty_2 (x : Ety) : (encEty x)[2]? = some (.sl 1 (x.uses.map encS)) := by simp [encEty_eq]
@[simp] theorem getE_encEty_2 (x : Ety) (h : 2 < (encEty x).length) : (encEty x)[2] = .sl 1 (x.uses.map encS) := by simp [encEty_eq]

structure Stp where
  part : Int
  way : List Str
  type : Str
  sels : List Sel
  after : List Int
  brings : List Str
def encStp (x : Stp) : List AV := [.int .i64 x.part, .sl 1 (x.way.map encS), .str x.type, .sl 5 (x.sels.map encSel), .sl 1 (x.after.map encI), .sl 1 (x.brings.map encS)]
theorem encStp_eq (x : Stp) : encStp x = [.int .i64 x.part, .sl 1 (x.way.map encS), .str x.type, .sl 5 (x.sels.map encSel), .sl 1 (x.after.map encI), .sl 1 (x.brings.map encS)] := rfl
@[simp] theorem encStp_inj {a b : Stp} : encStp a = encStp b ↔ a = b := by
  constructor
  · intro h
    obtain ⟨a0, a1, a2, a3, a4, a5⟩ := a
    obtain ⟨b0, b1, b2, b3, b4, b5⟩ := b
    simp [encStp] at h
    simp [h]
  · intro h; rw [h]
theorem Stp.eta (x : Stp) : Stp.mk x.part x.way x.type x.sels x.after x.brings = x := rfl
@[simp] theorem mapStp_inj {a b : List Stp} : a.map encStp = b.map encStp ↔ a = b := ⟨map_inj fun _ _ => encStp_inj.1, fun h => h ▸ rfl⟩
@[simp] theorem len_encStp (x : Stp) : (encStp x).length = 6 := by simp [encStp_eq]
@[simp] theorem take_encStp (x : Stp) : (encStp x).take 6 = encStp x := List.take_of_length_le (by simp)
@[simp] theorem pure_encStp (x : Stp) : AV.pureL (encStp x) = true := by simp [encStp_eq]
@[simp] theorem cell_encStp (x : Stp) : (encStp x).all AV.isCell = true := by simp [encStp_eq, AV.isCell]
@[simp] theorem celp_encStp (x : Stp) : ((encStp x).all fun c => c.isCell && c.pure) = true := by simp [encStp_eq, AV.isCell]
@[simp] theorem head_encStp (x : Stp) : (encStp x).head? = some (.int .i64 x.part) := by simp [encStp_eq]
@[simp] theorem get_encStp_0 (x : Stp) : (encStp x)[0]? = some (.int .i64 x.part) := by simp [encStp_eq]
@[simp] theorem getE_encStp_0 (x : Stp) (h : 0 < (encStp x).length) : (encStp x)[0] = .int .i64 x.part := by simp [encStp_eq]
@[simp] theorem head_encStp_1 (x : Stp) : ((encStp x).drop 1).head? = some (.sl 1 (x.way.map encS)) := by simp [encStp_eq]
@[simp] theorem get_encStp_1 (x : Stp) : (encStp x)[1]? = some (.sl 1 (x.way.map encS)) := by simp [encStp_eq]
@[simp] theorem getE_encStp_1 (x : Stp) (h : 1 < (encStp x).length) : (encStp x)[1] = .sl 1 (x.way.map encS) := by simp [encStp_eq]
@[simp] theorem head_encStp_2 (x : Stp) : ((encStp x).drop 2).head? = some (.str x.type) := by simp [encStp_eq]
@[simp] theorem get_encStp_2 (x : Stp) : (encStp x)[2]? = some (.str x.type) := by simp [encStp_eq]
@[simp] theorem getE_encStp_2 (x : Stp) (h : 2 < (encStp x).length) : (encStp x)[2] = .str x.type := by simp [encStp_eq]
@[simp] theorem head_encStp_3 (x : Stp) : ((encStp x).drop 3).head? = some (.sl 5 (x.sels.map encSel)) := by simp [encStp_eq]
@[simp] theorem get_encStp_3 (x : Stp) : (encStp x)[3]? = some (.sl 5 (x.sels.map encSel)) := by simp [encStp_eq]
@[simp] theorem getE_encStp_3 (x : Stp) (h : 3 < (encStp x).length) : (encStp x)[3] = .sl 5 (x.sels.map encSel) := by simp [encStp_eq]
@[simp] theorem head_encStp_4 (x : Stp) : ((encStp x).drop 4).head? = some (.sl 1 (x.after.map encI)) := by simp [encStp_eq]
@[simp] theorem get_encStp_4 (x : Stp) : (encStp x)[4]? = some (.sl 1 (x.after.map encI)) := by simp [encStp_eq]
@[simp] theorem getE_encStp_4 (x : Stp) (h : 4 < (encStp x).length) : (encStp x)[4] = .sl 1 (x.after.map encI) := by simp [encStp_eq]
@[simp] theorem head_encStp_5 (x : Stp) : ((encStp x).drop 5).head? = some (.sl 1 (x.brings.map encS)) := by simp [encStp_eq]
@[simp] theorem get_encStp_5 (x : Stp) : (encStp x)[5]? = some (.sl 1 (x.brings.map encS)) := by simp [encStp_eq]
@[simp] theorem getE_encStp_5 (x : Stp) (h : 5 < (encStp x).length) : (encStp x)[5] = .sl 1 (x.brings.map encS) := by simp [encStp_eq]

structure Wrg where
  way : List Str
  code : Int
def encWrg (x : Wrg) : List AV := [.sl 1 (x.way.map encS), .int .i64 x.code]
theorem encWrg_eq (x : Wrg) : encWrg x = [.sl 1 (x.way.map encS), .int .i64 x.code] := rfl
@[simp] theorem encWrg_inj {a b : Wrg} : encWrg a = encWrg b ↔ a = b := by
  constructor
  · intro h
    obtain ⟨a0, a1⟩ := a
    obtain ⟨b0, b1⟩ := b
    simp [encWrg] at h
    simp [h]
  · intro h; rw [h]
theorem Wrg.eta (x : Wrg) : Wrg.mk x.way x.code = x := rfl
@[simp] theorem mapWrg_inj {a b : List Wrg} : a.map encWrg = b.map encWrg ↔ a = b := ⟨map_inj fun _ _ => encWrg_inj.1, fun h => h ▸ rfl⟩
@[simp] theorem len_encWrg (x : Wrg) : (encWrg x).length = 2 := by simp [encWrg_eq]
@[simp] theorem take_encWrg (x : Wrg) : (encWrg x).take 2 = encWrg x := List.take_of_length_le (by simp)
@[simp] theorem pure_encWrg (x : Wrg) : AV.pureL (encWrg x) = true := by simp [encWrg_eq]
@[simp] theorem cell_encWrg (x : Wrg) : (encWrg x).all AV.isCell = true := by simp [encWrg_eq, AV.isCell]
@[simp] theorem celp_encWrg (x : Wrg) : ((encWrg x).all fun c => c.isCell && c.pure) = true := by simp [encWrg_eq, AV.isCell]
@[simp] theorem head_encWrg (x : Wrg) : (encWrg x).head? = some (.sl 1 (x.way.map encS)) := by simp [encWrg_eq]
@[simp] theorem get_encWrg_0 (x : Wrg) : (encWrg x)[0]? = some (.sl 1 (x.way.map encS)) := by simp [encWrg_eq]
@[simp] theorem getE_encWrg_0 (x : Wrg) (h : 0 < (encWrg x).length) : (encWrg x)[0] = .sl 1 (x.way.map encS) := by simp [encWrg_eq]
@[simp] theorem head_encWrg_1 (x : Wrg) : ((encWrg x).drop 1).head? = some (.int .i64 x.code) := by simp [encWrg_eq]
@[simp] theorem get_encWrg_1 (x : Wrg) : (encWrg x)[1]? = some (.int .i64 x.code) := by simp [encWrg_eq]
@[simp] theorem getE_encWrg_1 (x : Wrg) (h : 1 < (encWrg x).length) : (encWrg x)[1] = .int .i64 x.code := by simp [encWrg_eq]

structure Ans where
  data : Val
  wrongs : List Wrg
def encAns (x : Ans) : List AV := encVal x.data ++ [.sl 2 (x.wrongs.map encWrg)]
theorem encAns_eq (x : Ans) : encAns x = encVal x.data ++ [.sl 2 (x.wrongs.map encWrg)] := rfl
@[simp] theorem encAns_inj {a b : Ans} : encAns a = encAns b ↔ a = b := by
  constructor
  · intro h
    obtain ⟨a0, a1⟩ := a
    obtain ⟨b0, b1⟩ := b
    simp [encAns, encVal_eq] at h
    obtain ⟨h0, h1, h2, h3, h4, h5⟩ := h
    have e : a0 = b0 := by
      rw [← Val.eta a0, ← Val.eta b0]; simp only [h0, h1, h2, h3, h4]
    simp [e, h5]
  · intro h; rw [h]
theorem Ans.eta (x : Ans) : Ans.mk x.data x.wrongs = x := rfl
@[simp] theorem mapAns_inj {a b : List Ans} : a.map encAns = b.map encAns ↔ a = b := ⟨map_inj fun _ _ => encAns_inj.1, fun h => h ▸ rfl⟩
@[simp] theorem len_encAns (x : Ans) : (encAns x).length = 6 := by simp [encAns_eq, encVal_eq]
@[simp] theorem take_encAns (x : Ans) : (encAns x).take 6 = encAns x := List.take_of_length_le (by simp)
@[simp] theorem pure_encAns (x : Ans) : AV.pureL (encAns x) = true := by simp [encAns_eq, encVal_eq]
@[simp] theorem cell_encAns (x : Ans) : (encAns x).all AV.isCell = true := by simp [encAns_eq, encVal_eq, AV.isCell]
@[simp] theorem celp_encAns (x : Ans) : ((encAns x).all fun c => c.isCell && c.pure) = true := by simp [encAns_eq, encVal_eq, AV.isCell]
@[simp] theorem head_encAns (x : Ans) : (encAns x).head? = some (.int .i64 x.data.sort) := by simp [encAns_eq, encVal_eq]
@[simp] theorem get_encAns_0 (x : Ans) : (encAns x)[0]? = some (.int .i64 x.data.sort) := by simp [encAns_eq, encVal_eq]
@[simp] theorem getE_encAns_0 (x : Ans) (h : 0 < (encAns x).length) : (encAns x)[0] = .int .i64 x.data.sort := by simp [encAns_eq, encVal_eq]
@[simp] theorem get_encAns_1 (x : Ans) : (encAns x)[1]? = some (.int .i64 x.data.num) := by simp [encAns_eq, encVal_eq]
@[simp] theorem getE_encAns_1 (x : Ans) (h : 1 < (encAns x).length) : (encAns x)[1] = .int .i64 x.data.num := by simp [encAns_eq, encVal_eq]
@[simp] theorem get_encAns_2 (x : Ans) : (encAns x)[2]? = some (.str x.data.text) := by simp [encAns_eq, encVal_eq]
@[simp] theorem getE_encAns_2 (x : Ans) (h : 2 < (encAns x).length) : (encAns x)[2] = .str x.data.text := by simp [encAns_eq, encVal_eq]
@[simp] theorem get_encAns_3 (x : Ans) : (encAns x)[3]? = some (.sl 1 (x.data.names.map encS)) := by simp [encAns_eq, encVal_eq]
@[simp] theorem getE_encAns_3 (x : Ans) (h : 3 < (encAns x).length) : (encAns x)[3] = .sl 1 (x.data.names.map encS) := by simp [encAns_eq, encVal_eq]
@[simp] theorem get_encAns_4 (x : Ans) : (encAns x)[4]? = some (.sl 5 (x.data.kids.map encVal)) := by simp [encAns_eq, encVal_eq]
@[simp] theorem getE_encAns_4 (x : Ans) (h : 4 < (encAns x).length) : (encAns x)[4] = .sl 5 (x.data.kids.map encVal) := by simp [encAns_eq, encVal_eq]
@[simp] theorem dt_encAns_0 (x : Ans) : ((encAns x).drop 0).take 5 = encVal x.data := by simp [encAns_eq, encVal_eq]
@[simp] theorem tk_encAns_0 (x : Ans) : (encAns x).take 5 = encVal x.data := by simp [encAns_eq, encVal_eq]
@[simp] theorem head_encAns_5 (x : Ans) : ((encAns x).drop 5).head? = some (.sl 2 (x.wrongs.map encWrg)) := by simp [encAns_eq, encVal_eq]
@[simp] theorem get_encAns_5 (x : Ans) : (encAns x)[5]? = some (.sl 2 (x.wrongs.map encWrg)) := by simp [encAns_eq, encVal_eq]
@[simp] theorem getE_encAns_5 (x : Ans) (h : 5 < (encAns x).length) : (encAns x)[5] = .sl 2 (x.wrongs.map encWrg) := by simp [encAns_eq, encVal_eq]

structure Own where
  type : Str
  field : Str
  parts : List Int
def encOwn (x : Own) : List AV := [.str x.type, .str x.field, .sl 1 (x.parts.map encI)]
theorem encOwn_eq (x : Own) : encOwn x = [.str x.type, .str x.field, .sl 1 (x.parts.map encI)] := rfl
@[simp] theorem encOwn_inj {a b : Own} : encOwn a = encOwn b ↔ a = b := by
  constructor
  · intro h
    obtain ⟨a0, a1, a2⟩ := a
    obtain ⟨b0, b1, b2⟩ := b
    simp [encOwn] at h
    simp [h]
  · intro h; rw [h]
theorem Own.eta (x : Own) : Own.mk x.type x.field x.parts = x := rfl
@[simp] theorem mapOwn_inj {a b : List Own} : a.map encOwn = b.map encOwn ↔ a = b := ⟨map_inj fun _ _ => encOwn_inj.1, fun h => h ▸ rfl⟩
@[simp] theorem len_encOwn (x : Own) : (encOwn x).length = 3 := by simp [encOwn_eq]
@[simp] theorem take_encOwn (x : Own) : (encOwn x).take 3 = encOwn x := List.take_of_length_le (by simp)
@[simp] theorem pure_encOwn (x : Own) : AV.pureL (encOwn x) = true := by simp [encOwn_eq]
@[simp] theorem cell_encOwn (x : Own) : (encOwn x).all AV.isCell = true := by simp [encOwn_eq, AV.isCell]
@[simp] theorem celp_encOwn (x : Own) : ((encOwn x).all fun c => c.isCell && c.pure) = true := by simp [encOwn_eq, AV.isCell]
@[simp] theorem head_encOwn (x : Own) : (encOwn x).head? = some (.str x.type) := by simp [encOwn_eq]
@[simp] theorem get_encOwn_0 (x : Own) : (encOwn x)[0]? = some (.str x.type) := by simp [encOwn_eq]
@[simp] theorem getE_encOwn_0 (x : Own) (h : 0 < (encOwn x).length) : (encOwn x)[0] = .str x.type := by simp [encOwn_eq]
@[simp] theorem head_encOwn_1 (x : Own) : ((encOwn x).drop 1).head? = some (.str x.field) := by simp [encOwn_eq]
@[simp] theorem get_encOwn_1 (x : Own) : (encOwn x)[1]? = some (.str x.field) := by simp [encOwn_eq]
@[simp] theorem getE_encOwn_1 (x : Own) (h : 1 < (encOwn x).length) : (encOwn x)[1] = .str x.field := by simp [encOwn_eq]
@[simp] theorem head_encOwn_2 (x : Own) : ((encOwn x).drop 2).head? = some (.sl 1 (x.parts.map encI)) := by simp [encOwn_eq]
@[simp] theorem get_encOwn_2 (x : Own) : (encOwn x)[2]? = some (.sl 1 (x.parts.map encI)) := by simp [encOwn_eq]
@[simp] theorem getE_encOwn_2 (x : Own) (h : 2 < (encOwn x).length) : (encOwn x)[2] = .sl 1 (x.parts.map encI) := by simp [encOwn_eq]

structure Chart where
  all : Part
  owners : List Own
def encChart (x : Chart) : List AV := encPart x.all ++ [.sl 3 (x.owners.map encOwn)]
theorem encChart_eq (x : Chart) : encChart x = encPart x.all ++ [.sl 3 (x.owners.map encOwn)] := rfl
@[simp] theorem encChart_inj {a b : Chart} : encChart a = encChart b ↔ a = b := by
  constructor
  · intro h
    obtain ⟨a0, a1⟩ := a
    obtain ⟨b0, b1⟩ := b
    simp [encChart, encPart_eq] at h
    obtain ⟨h0, h1, h2⟩ := h
    have e : a0 = b0 := by
      rw [← Part.eta a0, ← Part.eta b0]; simp only [h0, h1]
    simp [e, h2]
  · intro h; rw [h]
theorem Chart.eta (x : Chart) : Chart.mk x.all x.owners = x := rfl
@[simp] theorem mapChart_inj {a b : List Chart} : a.map encChart = b.map encChart ↔ a = b := ⟨map_inj fun _ _ => encChart_inj.1, fun h => h ▸ rfl⟩
@[simp] theorem len_encChart (x : Chart) : (encChart x).length = 3 := by simp [encChart_eq, encPart_eq]
@[simp] theorem take_encChart (x : Chart) : (encChart x).take 3 = encChart x := List.take_of_length_le (by simp)
@[simp] theorem pure_encChart (x : Chart) : AV.pureL (encChart x) = true := by simp [encChart_eq, encPart_eq]
@[simp] theorem cell_encChart (x : Chart) : (encChart x).all AV.isCell = true := by simp [encChart_eq, encPart_eq, AV.isCell]
@[simp] theorem celp_encChart (x : Chart) : ((encChart x).all fun c => c.isCell && c.pure) = true := by simp [encChart_eq, encPart_eq, AV.isCell]
@[simp] theorem head_encChart (x : Chart) : (encChart x).head? = some (.str x.all.name) := by simp [encChart_eq, encPart_eq]
@[simp] theorem get_encChart_0 (x : Chart) : (encChart x)[0]? = some (.str x.all.name) := by simp [encChart_eq, encPart_eq]
@[simp] theorem getE_encChart_0 (x : Chart) (h : 0 < (encChart x).length) : (encChart x)[0] = .str x.all.name := by simp [encChart_eq, encPart_eq]
@[simp] theorem get_encChart_1 (x : Chart) : (encChart x)[1]? = some (.sl 3 (x.all.types.map encTyp)) := by simp [encChart_eq, encPart_eq]
@[simp] theorem getE_encChart_1 (x : Chart) (h : 1 < (encChart x).length) : (encChart x)[1] = .sl 3 (x.all.types.map encTyp) := by simp [encChart_eq, encPart_eq]
@[simp] theorem dt_encChart_0 (x : Chart) : ((encChart x).drop 0).take 2 = encPart x.all := by simp [encChart_eq, encPart_eq]
@[simp] theorem tk_encChart_0 (x : Chart) : (encChart x).take 2 = encPart x.all := by simp [encChart_eq, encPart_eq]
@[simp] theorem head_encChart_2 (x : Chart) : ((encChart x).drop 2).head? = some (.sl 3 (x.owners.map encOwn)) := by simp [encChart_eq, encPart_eq]
@[simp] theorem get_encChart_2 (x : Chart) : (encChart x)[2]? = some (.sl 3 (x.owners.map encOwn)) := by simp [encChart_eq, encPart_eq]
@[simp] theorem getE_encChart_2 (x : Chart) (h : 2 < (encChart x).length) : (encChart x)[2] = .sl 3 (x.owners.map encOwn) := by simp [encChart_eq, encPart_eq]

end Go.Fw
