/- The laws of the one map of this seat: whole numbers to pointers, its entries known one by one. -/
import Derived.Test.YtliikmmcbbmppaaDoorMemR2
import Derived.ChangeMaps5
import Derived.WideKeyEntry
namespace Go.Proofs.YtliikmmcbbmppaaDoor
open Go.RowKit Go.ChangeMaps

/-- An entry: its key, the block that it points to, its stamp. -/
structure Ent where
  id : Int
  blk : Nat
  born : Nat
def Ent.e (x : Ent) : MapEntry := { key := .int .i64 x.id, val := .pointer (some ⟨x.blk, 0, none⟩), born := x.born }
def mapObj (E : List Ent) (clock : Nat) : Obj := .map (E.map Ent.e).toArray clock

theorem findNow_miss (id : Int) : ∀ (E : List Ent) (i : Nat), (∀ x ∈ E, x.id ≠ id) → Instr.findNow (.int .i64) (.int .i64 id) (E.map Ent.e) i = some none
  | [], _, _ => rfl
  | x :: E, i, h => by
    have h1 : (id == x.id) = false := by simpa using fun e => h x (by simp) e.symm
    simp only [List.map_cons, Instr.findNow, Ent.e, Instr.sameNow, if_true, h1]
    exact findNow_miss id E (i + 1) fun y hy => h y (by simp [hy])

theorem findNow_hit (id : Int) : ∀ (E : List Ent) (i j : Nat) (x : Ent), E[j]? = some x → x.id = id → (∀ k y, k < j → E[k]? = some y → y.id ≠ id) →
    Instr.findNow (.int .i64) (.int .i64 id) (E.map Ent.e) i = some (some (i + j, .pointer (some ⟨x.blk, 0, none⟩)))
  | [], _, _, _, h, _, _ => by simp at h
  | x :: E, i, 0, y, h, hid, _ => by
    simp at h
    subst h
    simp [Instr.findNow, Ent.e, Instr.sameNow, hid]
  | x :: E, i, j + 1, y, h, hid, hn => by
    have h1 : (id == x.id) = false := by simpa using fun e => hn 0 x (by omega) (by simp) e.symm
    simp only [List.map_cons, Instr.findNow, Ent.e, Instr.sameNow, if_true, h1]
    rw [show i + (j + 1) = (i + 1) + j by omega]
    exact findNow_hit id E (i + 1) j y (by simpa using h) hid fun k z hk hz => hn (k + 1) z (by omega) (by simpa using hz)

@[local simp] theorem Tryd.zero71 (w : World) : (zeroValue 71).run Tryd.prog w = .ok (.pointer none) w := by kernel_rfl

section
variable {w : World} {K : Nat} {E : List Ent} {clock : Nat}

theorem run_checkKey_succ (b : Bool) (id : Int) (w : World) (n : Nat) : (Instr.checkKey b (n + 1) 3 (.int .i64 id)).run Tryd.prog w = .ok () w := by
  simp [Instr.checkKey, run_underlying Tryd.underlying3]
theorem run_checkKey_int (b : Bool) (id : Int) (w : World) : (Instr.checkKey b 10000 3 (.int .i64 id)).run Tryd.prog w = .ok () w := run_checkKey_succ b id w 9999
theorem eraseIdx_map' {α β : Type} (f : α → β) : ∀ (l : List α) (j : Nat), (l.map f).eraseIdx j = (l.eraseIdx j).map f
  | [], _ => rfl
  | _ :: _, 0 => rfl
  | a :: l, j + 1 => by simp [eraseIdx_map' f l j]

theorem run_lookup_miss (hK : w.heap[K]? = some (mapObj E clock)) (id : Int) (h : ∀ x ∈ E, x.id ≠ id) :
    (Instr.lookup 64 (.map (some K)) (.int .i64 id) true).run Tryd.prog w = .ok (.tuple #[.pointer none, .bool false]) w := by
  have hf := findNow_miss id E 0 h
  simp [Instr.lookup, run_underlying Tryd.underlying64, MapKept.run_getObj_map hK, run_checkKey_int, Instr.findKey, run_underlying Tryd.underlying3, hf, Result.andThen]

theorem run_lookup_hit (hK : w.heap[K]? = some (mapObj E clock)) (id : Int) {j : Nat} {x : Ent} (hj : E[j]? = some x) (hid : x.id = id) (hn : ∀ k y, k < j → E[k]? = some y → y.id ≠ id) :
    (Instr.lookup 64 (.map (some K)) (.int .i64 id) true).run Tryd.prog w = .ok (.tuple #[.pointer (some ⟨x.blk, 0, none⟩), .bool true]) w := by
  have hf := findNow_hit id E 0 j x hj hid hn
  simp [Instr.lookup, run_underlying Tryd.underlying64, MapKept.run_getObj_map hK, run_checkKey_int, Instr.findKey, run_underlying Tryd.underlying3, hf, Result.andThen]

theorem run_delete_hit (ty : TypeId) (hK : w.heap[K]? = some (mapObj E clock)) (id : Int) {j : Nat} {x : Ent} (hj : E[j]? = some x) (hid : x.id = id) (hn : ∀ k y, k < j → E[k]? = some y → y.id ≠ id) :
    (Builtin.delete_ #[64, 3] ty #[.map (some K), .int .i64 id]).run Tryd.prog w = .ok (.tuple #[]) (setBlock w K (mapObj (E.eraseIdx j) clock)) := by
  have hf := findNow_hit id E 0 j x hj hid hn
  have he := eraseIdx_map' Ent.e E j
  simp [Builtin.delete_, run_underlying Tryd.underlying64, MapKept.run_getObj_map hK, run_checkKey_int, Instr.findKey, run_underlying Tryd.underlying3, hf, he, MapKept.run_setObj_map _ hK, Result.andThen, setBlock, mapObj]

theorem run_mapEntry_new (hK : w.heap[K]? = some (mapObj E clock)) (id : Int) (h : ∀ x ∈ E, x.id ≠ id) :
    (Instr.mapEntry 64 (.map (some K)) (.int .i64 id)).run Tryd.prog w =
      .ok (.tuple #[.pointer none, .int .i64 clock]) (setBlock w K (.map ((E.map Ent.e).toArray.push { key := .int .i64 id, val := .pointer none, born := clock }) (clock + 1))) := by
  have hf := findNow_miss id E 0 h
  simp [Instr.mapEntry, run_underlying Tryd.underlying64, MapKept.run_getObj_map hK, run_checkKey_int, Instr.findKey, run_underlying Tryd.underlying3, hf, MapKept.run_setObj_map _ hK, Result.andThen, setBlock, goInt]

theorem run_entryStore_new (id : Int) (hK : w.heap[K]? = some (.map ((E.map Ent.e).toArray.push { key := .int .i64 id, val := .pointer none, born := clock }) (clock + 1))) (hb : ∀ x ∈ E, x.born < clock) (B : Nat) :
    (Instr.entryStore 64 (.map (some K)) (.int .i64 clock) (.pointer (some ⟨B, 0, none⟩))).run Tryd.prog w = .ok () (setBlock w K (mapObj (E ++ [⟨id, B, clock⟩]) (clock + 1))) := by
  have hidx : ((E.map Ent.e).toArray.push { key := .int .i64 id, val := .pointer none, born := clock }).findIdx? (fun e => ((e.born : Nat) : Int) == ((clock : Nat) : Int)) = some E.length := by
    simp only [List.push_toArray, List.findIdx?_toArray, List.findIdx?_append]
    have : (E.map Ent.e).findIdx? (fun e => ((e.born : Nat) : Int) == ((clock : Nat) : Int)) = none := by
      rw [List.findIdx?_eq_none_iff]
      intro x hx
      obtain ⟨y, hy, rfl⟩ := List.mem_map.1 hx
      have := hb y hy
      simp [Ent.e]
      omega
    rw [this]
    simp [List.findIdx?_cons]
  have hmod : ((E.map Ent.e).toArray.push { key := .int .i64 id, val := .pointer none, born := clock }).modify E.length (fun e => { e with val := .pointer (some ⟨B, 0, none⟩) }) = ((E ++ [(⟨id, B, clock⟩ : Ent)]).map Ent.e).toArray := by
    apply Array.ext'
    rw [Array.toList_modify, Array.toList_push]
    have := WideElems.modify_last (fun e : MapEntry => { e with val := .pointer (some ⟨B, 0, none⟩) }) { key := .int .i64 id, val := .pointer none, born := clock } (E.map Ent.e)
    rw [List.length_map] at this
    simpa [Ent.e] using this
  generalize (E.map Ent.e).toArray.push { key := .int .i64 id, val := .pointer none, born := clock } = arr at *
  simp only [mapObj, ← hmod]
  simp [Instr.entryStore, MapKept.run_getObj_map hK, asInt, asIntOf, hidx, MapKept.run_setObj_map _ hK, Result.andThen, setBlock]
end

section
variable {o : Oper} {a : Act} {w : World} {KK : Act → World → Prop} {Q : Exit → Act → World → Prop} {K : Nat} {E : List Ent} {clock : Nat}
theorem wp_mapEntry_new (m k : Operand) (ho : o.op = .mapEntry 64 m k) (hm : a.eval m = .map (some K)) {id : Int} (hk : a.eval k = .int .i64 id) (hK : w.heap[K]? = some (mapObj E clock)) (h : ∀ x ∈ E, x.id ≠ id)
    (hn : KK (a.put o.dst (.tuple #[.pointer none, .int .i64 clock])) (setBlock w K (.map ((E.map Ent.e).toArray.push { key := .int .i64 id, val := .pointer none, born := clock }) (clock + 1)))) : o.wp Tryd.prog a w KK Q := by
  have hr := run_mapEntry_new hK id h
  unfold Oper.wp execOp
  simp only [ho, hm, hk, Sem.run_bind, Sem.run_pure, Result.andThen_ok, hr]
  exact hn
theorem wp_entryStore_new (m s v : Operand) (ho : o.op = .entryStore 64 m s v) (hm : a.eval m = .map (some K)) (hs : a.eval s = .int .i64 clock) {B : Nat} (hv : a.eval v = .pointer (some ⟨B, 0, none⟩)) {id : Int}
    (hK : w.heap[K]? = some (.map ((E.map Ent.e).toArray.push { key := .int .i64 id, val := .pointer none, born := clock }) (clock + 1))) (hb : ∀ x ∈ E, x.born < clock)
    (hn : KK (a.put o.dst undef) (setBlock w K (mapObj (E ++ [⟨id, B, clock⟩]) (clock + 1)))) : o.wp Tryd.prog a w KK Q := by
  have hr := run_entryStore_new id hK hb B
  unfold Oper.wp execOp
  simp only [ho, hm, hs, hv, Sem.run_bind, Sem.run_pure, Result.andThen_ok, hr]
  exact hn
end

theorem setBlock_chg {w : World} {b : Nat} {es es' : Array MapEntry} {clock clock' : Nat} (hb : w.heap[b]? = some (.map es clock)) : Chg [b] w (setBlock w b (.map es' clock')) :=
  ⟨rfl, rfl, rfl, by simp [setBlock], fun k _ hn => heap_setBlock_other hb _ (by simpa using hn)⟩
end Go.Proofs.YtliikmmcbbmppaaDoor
