import Derived.Shelf.Strings.Search2
import Derived.Shelf.Strings.Count
import Derived.Shelf.Strings.FieldsFuncAny
import Derived.Ground.NamesProg
import Derived.Test.YtjackggnnjdhmaaGreatDoorProg
import Derived.KernelRfl
import Derived.Lib.FrozenHead
import Derived.Lib.Builder
import Derived.Lib.Walk
import Derived.WalkKit
import Derived.Laws.Externs
import Derived.Lib.UnsafeStr
import Derived.Shelf.SlSortCmp.NoneTotal
import Derived.Shelf.SlicesG.Cmp
import Derived.Shelf.Lay
import Derived.StillTailTactics
import Derived.Deep.RegionHeld3
import Derived.Ground.SlsfProg
import Derived.Ground.SlgcProg
import Derived.Shelf.GgSortFunc.InsertionK
import Derived.Sort.Grow
import Derived.Deep.Draws
import Derived.Shelf.Strconv.Itoa3
namespace Go.Proofs
open Go.Shelf
def Tryz.lays219_ren : Go.Shelf.Ren := ⟨fun | 219 => 192 | 217 => 257 | 225 => 258 | 224 => 259 | 267 => 260 | 266 => 325 | 314 => 326 | n => n, fun | 9 => 9 | 3 => 3 | 4 => 4 | 5 => 5 | 46 => 161 | 146 => 470 | 51 => 318 | n => n, fun | 1 => 1 | n => n⟩
theorem Tryz.lays219 : Go.Proofs.Lays.n219 Tryz.prog Tryz.lays219_ren := {
 mixed := by kernel_rfl
 f217 := Tryz.func257.trans (congrArg some (by kernel_rfl))
 f219 := Tryz.func192.trans (congrArg some (by kernel_rfl))
 f224 := Tryz.func259.trans (congrArg some (by kernel_rfl))
 f225 := Tryz.func258.trans (congrArg some (by kernel_rfl))
 f266 := Tryz.func325.trans (congrArg some (by kernel_rfl))
 f267 := Tryz.func260.trans (congrArg some (by kernel_rfl))
 f314 := Tryz.func326.trans (congrArg some (by kernel_rfl))
 t3 := Tryz.underlying3
 a3 := Tryz.isAgg3
 z3 := Tryz.sizeOf3
 v3 := Tryz.zeroValue3
 t4 := Tryz.underlying4
 a4 := Tryz.isAgg4
 z4 := Tryz.sizeOf4
 v4 := Tryz.zeroValue4
 t5 := Tryz.underlying5
 a5 := Tryz.isAgg5
 z5 := Tryz.sizeOf5
 v5 := Tryz.zeroValue5
 t9 := Tryz.underlying9
 a9 := Tryz.isAgg9
 z9 := Tryz.sizeOf9
 v9 := Tryz.zeroValue9
 t46 := Tryz.underlying161
 a46 := Tryz.isAgg161
 z46 := Tryz.sizeOf161
 v46 := Tryz.zeroValue161
 t51 := Tryz.underlying318
 a51 := Tryz.isAgg318
 z51 := Tryz.sizeOf318
 v51 := Tryz.zeroValue318
 t146 := Tryz.underlying470
 a146 := Tryz.isAgg470
 z146 := Tryz.sizeOf470
 v146 := Tryz.zeroValue470
 g1 := by kernel_rfl }
def Tryz.lays138_ren : Go.Shelf.Ren := ⟨fun | 138 => 131 | 195 => 189 | 218 => 191 | 143 => 132 | 219 => 192 | 217 => 257 | 225 => 258 | 224 => 259 | 267 => 260 | 266 => 325 | 314 => 326 | n => n, fun | 9 => 9 | 3 => 3 | 4 => 4 | 5 => 5 | 0 => 0 | 46 => 161 | 146 => 470 | 51 => 318 | n => n, fun | 1 => 1 | n => n⟩
theorem Tryz.lays138 : Go.Proofs.Lays.n138 Tryz.prog Tryz.lays138_ren := {
 mixed := by kernel_rfl
 f138 := Tryz.func131.trans (congrArg some (by kernel_rfl))
 f143 := Tryz.func132.trans (congrArg some (by kernel_rfl))
 f195 := Tryz.func189.trans (congrArg some (by kernel_rfl))
 f217 := Tryz.func257.trans (congrArg some (by kernel_rfl))
 f218 := Tryz.func191.trans (congrArg some (by kernel_rfl))
 f219 := Tryz.func192.trans (congrArg some (by kernel_rfl))
 f224 := Tryz.func259.trans (congrArg some (by kernel_rfl))
 f225 := Tryz.func258.trans (congrArg some (by kernel_rfl))
 f266 := Tryz.func325.trans (congrArg some (by kernel_rfl))
 f267 := Tryz.func260.trans (congrArg some (by kernel_rfl))
 f314 := Tryz.func326.trans (congrArg some (by kernel_rfl))
 t0 := Tryz.underlying0
 a0 := Tryz.isAgg0
 z0 := Tryz.sizeOf0
 v0 := Tryz.zeroValue0
 t3 := Tryz.underlying3
 a3 := Tryz.isAgg3
 z3 := Tryz.sizeOf3
 v3 := Tryz.zeroValue3
 t4 := Tryz.underlying4
 a4 := Tryz.isAgg4
 z4 := Tryz.sizeOf4
 v4 := Tryz.zeroValue4
 t5 := Tryz.underlying5
 a5 := Tryz.isAgg5
 z5 := Tryz.sizeOf5
 v5 := Tryz.zeroValue5
 t9 := Tryz.underlying9
 a9 := Tryz.isAgg9
 z9 := Tryz.sizeOf9
 v9 := Tryz.zeroValue9
 t46 := Tryz.underlying161
 a46 := Tryz.isAgg161
 z46 := Tryz.sizeOf161
 v46 := Tryz.zeroValue161
 t51 := Tryz.underlying318
 a51 := Tryz.isAgg318
 z51 := Tryz.sizeOf318
 v51 := Tryz.zeroValue318
 t146 := Tryz.underlying470
 a146 := Tryz.isAgg470
 z146 := Tryz.sizeOf470
 v146 := Tryz.zeroValue470
 g1 := by kernel_rfl }
def Tryz.lays229_ren : Go.Shelf.Ren := ⟨fun | 229 => 70 | n => n, fun | 9 => 9 | 40 => 139 | 31 => 88 | 152 => 202 | 3 => 3 | 0 => 0 | 4 => 4 | 21 => 21 | 154 => 204 | n => n, fun | n => n⟩
theorem Tryz.lays229 : Go.Proofs.Lays.n229 Tryz.prog Tryz.lays229_ren := {
 mixed := by kernel_rfl
 f229 := Tryz.func70.trans (congrArg some (by kernel_rfl))
 t0 := Tryz.underlying0
 a0 := Tryz.isAgg0
 z0 := Tryz.sizeOf0
 v0 := Tryz.zeroValue0
 t3 := Tryz.underlying3
 a3 := Tryz.isAgg3
 z3 := Tryz.sizeOf3
 v3 := Tryz.zeroValue3
 t4 := Tryz.underlying4
 a4 := Tryz.isAgg4
 z4 := Tryz.sizeOf4
 v4 := Tryz.zeroValue4
 t9 := Tryz.underlying9
 a9 := Tryz.isAgg9
 z9 := Tryz.sizeOf9
 v9 := Tryz.zeroValue9
 t21 := Tryz.underlying21
 a21 := Tryz.isAgg21
 z21 := Tryz.sizeOf21
 v21 := Tryz.zeroValue21
 t31 := Tryz.underlying88
 a31 := Tryz.isAgg88
 z31 := Tryz.sizeOf88
 v31 := Tryz.zeroValue88
 t40 := Tryz.underlying139
 a40 := Tryz.isAgg139
 z40 := Tryz.sizeOf139
 v40 := Tryz.zeroValue139
 t152 := Tryz.underlying202
 a152 := Tryz.isAgg202
 z152 := Tryz.sizeOf202
 v152 := Tryz.zeroValue202
 t154 := Tryz.underlying204
 a154 := Tryz.isAgg204
 z154 := Tryz.sizeOf204
 v154 := Tryz.zeroValue204 }
end Go.Proofs
namespace Go.Proofs
open Go.Shelf Go.RowKit Go.Lib
set_option linter.unusedVariables false
set_option linter.unusedSimpArgs false
def Row (w : World) (v : Value) (n : Nat) (xs : List Value) : Prop :=
 xs.length = n ∧ ((v = .slice none 0 0 ∧ n = 0) ∨ ∃ g cap cur, v = .slice (some ⟨g, 0, none⟩) n cap ∧ w.heap[g]? = some (.cells cur 5 (0, 0)) ∧ n ≤ cap ∧ cap ≤ cur.size ∧ cur.toList.take n = xs)
theorem Row.kept {w w' : World} {v : Value} {n : Nat} {xs : List Value} {row : Option Nat} (h : Row w v n xs) (hg : w.grownBy w' row) (hne : v.ownBlock ≠ row) : Row w' v n xs := by
 refine ⟨h.1, ?_⟩
 rcases h.2 with h1 | ⟨g, cap, cur, rfl, hg1, rest⟩
 ·exact .inl h1
 ·refine .inr ⟨g, cap, cur, rfl, ?_, rest⟩
  rw [hg.block g (Array.getElem?_eq_some_iff.1 hg1).1 (by simpa [Value.ownBlock] using hne)]
  exact hg1
theorem Row.cells {w : World} {n cap g : Nat} {xs : List Value} (h : Row w (.slice (some ⟨g, 0, none⟩) n cap) n xs) : ∀ j u, xs[j]? = some u → w.cell? ((⟨g, 0, none⟩ : Addr).add j) = some u := by
 intro j u hu
 rcases h.2 with ⟨hv, _⟩ | ⟨g', cap', cur, hv, hgg, _, _, htake⟩
 ·cases hv
 ·cases hv
  have hadd : (⟨g, 0, none⟩ : Addr).add j = ⟨g, j, none⟩ := by unfold Addr.add; split <;> simp_all
  rw [hadd, cell_of_row w g j cur 5 (0, 0) hgg]
  rw [← htake, List.getElem?_take] at hu
  split at hu
  ·simpa using hu
  ·cases hu
theorem app_str {P : Program} (w : World) (t u ty : TypeId) (i : TypeInfo) (ht : P.underlying t = some (.slice 5)) (hu : P.underlying u = some .string) (hi : P.info? 5 = some i) (hz : i.zero = some (.int .u8 0)) (hsize : i.size = 1) (hby : i.bytes = 1)
  (v : Value) (n : Nat) (xs : List Value) (hown : Row w v n xs) (s : ByteArray) (hb : n + s.size ≤ 100000000) :
  ∃ v' w', (Builtin.append_ #[t, u] ty #[v, .string s]).run P w = .ok v' w' ∧ Row w' v' (n + s.size) (xs ++ strCells s) ∧ w.grownBy w' v.ownBlock ∧ (∀ g, v'.ownBlock = some g → v.ownBlock = some g ∨ w.heap.size ≤ g) := by
 rcases hown.2 with ⟨rfl, rfl⟩ | ⟨g, cap, cur, rfl, hg, hnc, hcs, htake⟩
 ·have hx0 : xs = [] := List.eq_nil_of_length_eq_zero hown.1
  subst hx0
  obtain ⟨v', w', h1, h2, h3, h4⟩ := run_append_own_string (P := P) w w.heap.size t u ty 5 i ht hu hi hz hsize hby (.slice none 0 0) 0 [] ⟨rfl, .inl ⟨rfl, rfl⟩⟩ s (by unfold maxLen; omega) (by omega) (Nat.le_refl _)
  refine ⟨v', w', h1, ⟨by simpa using h2.1, ?_⟩, h3, fun g hg => .inr (h2.lt g hg).1⟩
  rcases h2.2 with h5 | ⟨g, cap, cur, a1, a2, a3, a4, a5, a6, a7⟩
  ·exact .inl h5
  ·exact .inr ⟨g, cap, cur, a1, a3, a4, by omega, by simpa using a7⟩
 ·have hxl : xs.length = n := hown.1
  have hlen : (xs ++ strCells s).length = n + s.size := by rw [List.length_append, hxl, strCells_length]
  by_cases hroom : n + s.size ≤ cap
  ·have hr := run_append_room_string (P := P) w t u ty 5 i ht hu hi hsize g n cap cur hg s hroom (by omega)
   refine ⟨_, _, hr, ⟨hlen, .inr ⟨g, cap, _, rfl, setRow_heap w g cur _ 5 _ hg, hroom, ?_, ?_⟩⟩, ⟨rfl, rfl, rfl, by simp, fun k _ hk => setRow_other w g k _ (fun e => hk (by simp [Value.ownBlock, e]))⟩, fun k hk => .inl (by simpa [Value.ownBlock] using hk)⟩
   ·simp only [List.size_toArray, List.length_append, List.length_take, List.length_drop, Array.length_toList, strCells_length]
    omega
   ·rw [htake, ← hlen]
    exact List.take_left
  ·have holds : ∀ j u, xs[j]? = some u → w.cell? ((⟨g, 0, none⟩ : Addr).add j) = some u := hown.cells
   have hr := run_append_grow_string (P := P) w t u ty 5 i (.int .u8 0) ht hu hi hz ⟨g, 0, none⟩ n cap xs (by rw [hsize]; simpa using hxl) holds s (by omega) (by omega) (by rw [hby]; exact growslice_fits (by omega) (by omega))
   have hge := grownCap_ge w (n + s.size) cap 5
   refine ⟨_, _, hr, ⟨hlen, .inr ⟨w.heap.size, _, _, rfl, heap_alloc_new w.drew _, hge, ?_, ?_⟩⟩, ⟨rfl, rfl, rfl, by simp, fun k hk _ => Lib.alloc_old w.drew _ k hk⟩, fun k hk => .inr (by simp [Value.ownBlock] at hk; omega)⟩
   ·have hz1 : (Value.int IntKind.u8 0).cells.size = 1 := rfl
    simp only [Array.size_append, List.size_toArray, size_zeroCells, hz1, hxl, strCells_length]
    omega
   ·simp only [Array.toList_append, List.append_assoc]
    rw [← List.append_assoc, ← hlen]
    exact List.take_left
theorem wpList_app {P : Program} {w : World} {ops : Array Oper} {rest : List Oper} {o : Oper} {a : Act} {Q : Exit → Act → World → Prop} (hgd : o.guard = none) (sl x : Operand) (t u : TypeId)
  (ho : o.op = .call { callee := .builtin .append, args := #[sl, x], argTypes := #[t, u] })
  (i : TypeInfo) (ht : P.underlying t = some (.slice 5)) (hu : P.underlying u = some .string) (hi : P.info? 5 = some i) (hz : i.zero = some (.int .u8 0)) (hsize : i.size = 1) (hby : i.bytes = 1)
  (v : Value) (n : Nat) (xs : List Value) (hs : a.eval sl = v) (hown : Row w v n xs) (s : ByteArray) (hx : a.eval x = .string s) (hb : n + s.size ≤ 100000000)
  (h : ∀ v' w', Row w' v' (n + s.size) (xs ++ strCells s) → w.grownBy w' v.ownBlock → (∀ g, v'.ownBlock = some g → v.ownBlock = some g ∨ w.heap.size ≤ g) → wpList P ops Q rest (a.put o.dst v') w') : wpList P ops Q (o :: rest) a w := by
 refine wpList_plain hgd fun K hK => ?_
 obtain ⟨v', w', hr, h2, h3, h4⟩ := app_str (P := P) w t u o.type i ht hu hi hz hsize hby v n xs hown s hb
 unfold Oper.wp execOp
 simp only [ho, resolve, invoke, builtin, Sem.run_bind, Sem.run_pure, Result.andThen_ok, List.map_toArray, List.map_cons, List.map_nil, hs, hx, hr]
 exact hK _ _ (h v' w' h2 h3 h4)
theorem row_ne {w : World} {v : Value} {n : Nat} {xs : List Value} {b : Nat} {cs : Array Value} (hown : Row w v n xs) (hb : w.heap[b]? = some (.cells cs 87 (0, 0))) : v.ownBlock ≠ some b := by
 rcases hown.2 with ⟨rfl, _⟩ | ⟨g, cap, cur, rfl, hg, _⟩
 ·simp [Value.ownBlock]
 ·intro h
  simp only [Value.ownBlock, Option.some.injEq] at h
  subst h
  rw [hg] at hb
  simp only [Option.some.injEq, Obj.cells.injEq] at hb
  exact absurd hb.2.1 (by decide)
structure Stays (S : Nat → Prop) (w w' : World) : Prop where
 size : w.heap.size ≤ w'.heap.size
 blk : ∀ k, k < w.heap.size → ¬ S k → w'.heap[k]? = w.heap[k]?
 os : w'.os = w.os
 tape : w'.tape = w.tape
 output : w'.output = w.output
theorem Stays.refl (S : Nat → Prop) (w : World) : Stays S w w := ⟨Nat.le_refl _, fun _ _ _ => rfl, rfl, rfl, rfl⟩
theorem Stays.trans {S : Nat → Prop} {a b c : World} (h : Stays S a b) (k : Stays S b c) : Stays S a c :=
 ⟨Nat.le_trans h.size k.size, fun i hi hn => (k.blk i (Nat.lt_of_lt_of_le hi h.size) hn).trans (h.blk i hi hn), k.os.trans h.os, k.tape.trans h.tape, k.output.trans h.output⟩
theorem Stays.setCell {S : Nat → Prop} {a w : World} (h : Stays S a w) {p : Addr} (hp : S p.block) (v : Value) : Stays S a (w.setCell p v) :=
 h.trans ⟨by simp [World.setCell], fun k _ hn => Below.heap_setCell _ _ _ _ (fun e => hn (e ▸ hp)), rfl, rfl, rfl⟩
theorem Stays.grown {S : Nat → Prop} {a w w' : World} {row : Option Nat} (h : Stays S a w) (hg : w.grownBy w' row) (hr : ∀ k, k < a.heap.size → row = some k → S k) : Stays S a w' := by
 refine ⟨Nat.le_trans h.size hg.size, fun k hk hn => ?_, hg.os.trans h.os, hg.tape.trans h.tape, hg.output.trans h.output⟩
 rw [hg.block k (Nat.lt_of_lt_of_le hk h.size) (fun e => hn (hr k hk e.symm))]
 exact h.blk k hk hn
set_option maxHeartbeats 1000000 in
set_option maxRecDepth 100000 in
theorem Tryz.cc_used (b : Nat) (w : World) (h0 : w.cell? ⟨b, 0, none⟩ = some (.pointer (some ⟨b, 0, none⟩))) :
  Calls Tryz.prog 73 #[.pointer (some ⟨b, 0, none⟩)] w fun e w' => e = .returned (.tuple #[]) ∧ w' = w := by
 have hsz : (Tryz.prog.info? 87).map (·.size) = some 2 := by kernel_rfl
 obtain ⟨j, hj, _⟩ := Option.map_eq_some_iff.1 hsz
 go_enter Tryz.func73, Tryz.ntmps73
 go_wp2
 rw [Lib.run_neq_ptr_same w _ Tryz.underlying85 hj]
 go_wp2
 go_end0
 exact ⟨rfl, rfl⟩
set_option maxHeartbeats 1000000 in
set_option maxRecDepth 100000 in
theorem Tryz.cc_fresh (b : Nat) (w : World) (h0 : w.cell? ⟨b, 0, none⟩ = some (.pointer none)) (hsh : w.shape? b = some (87, 2)) (hfz : w.frozen? ⟨b, 0, none⟩ = false) :
  Calls Tryz.prog 73 #[.pointer (some ⟨b, 0, none⟩)] w fun e w' => e = .returned (.tuple #[]) ∧ w' = w.setCell ⟨b, 0, none⟩ (.pointer (some ⟨b, 0, none⟩)) := by
 have hsz : (Tryz.prog.info? 87).map (·.size) = some 2 := by kernel_rfl
 have hlies : liesAt Tryz.prog Tryz.prog.depth 87 (2 / Tryz.prog.cellsOf 87) 0 87 1 = true := by kernel_rfl
 obtain ⟨j, hj, hjs⟩ := Option.map_eq_some_iff.1 hsz
 go_enter Tryz.func73, Tryz.ntmps73
 go_wp2
 rw [Lib.run_to_unsafe w ⟨b, 0, none⟩ Tryz.underlying85 Tryz.underlying205 hj (by rw [hjs]; decide) hsh (Nat.zero_lt_succ 1)]
 simp only [Result.andThen]
 rw [Oper.upon_value]
 go_wp2
 rw [run_callFunc_extern Tryz.func134 (by kernel_rfl) (by kernel_rfl) (by kernel_rfl) (e := Extern.AbiNoEscape.same) (by kernel_rfl)]
 rw [Lib.run_noEscape]
 simp only [Result.andThen]
 rw [Oper.upon_value]
 go_wp2
 rw [Lib.run_from_unsafe w ⟨b, 0, none⟩ Tryz.underlying205 Tryz.underlying85 hj hsh hlies]
 simp only [Result.andThen]
 rw [Oper.upon_value]
 go_wp2
 go_end0
 exact ⟨rfl, rfl⟩
theorem Tryz.cc73 (b : Nat) (p v : Value) (n : Nat) (bs : List Value) (w : World) (hbk : w.heap[b]? = some (.cells #[p, v] 87 (0, 0))) (hp : p = .pointer none ∨ p = .pointer (some ⟨b, 0, none⟩)) (hown : Row w v n bs) :
  Calls Tryz.prog 73 #[.pointer (some ⟨b, 0, none⟩)] w fun e w' => e = .returned (.tuple #[]) ∧ w'.heap[b]? = some (.cells #[.pointer (some ⟨b, 0, none⟩), v] 87 (0, 0)) ∧ Row w' v n bs ∧ Stays (fun k => k = b) w w' ∧ w'.heap.size = w.heap.size := by
 have c0 : w.cell? ⟨b, 0, none⟩ = some p := by rw [cell_of_heap hbk]; rfl
 rcases hp with rfl | rfl
 ·refine (Tryz.cc_fresh b w c0 (by simp [World.shape?, hbk]) (by simp [World.frozen?, hbk])).mono ?_
  rintro e w' ⟨rfl, rfl⟩
  refine ⟨rfl, by simp [World.setCell, Array.getElem?_modify, hbk], ?_, Stays.setCell (S := fun k => k = b) (p := ⟨b, 0, none⟩) (Stays.refl _ _) rfl _, by simp [World.setCell]⟩
  refine hown.kept (row := some b) ⟨rfl, rfl, rfl, by simp [World.setCell], fun k _ hk => Below.heap_setCell _ _ _ _ (fun e => hk (by simp [e]))⟩ ?_
  exact row_ne hown hbk
 ·refine (Tryz.cc_used b w c0).mono ?_
  rintro e w' ⟨rfl, rfl⟩
  exact ⟨rfl, hbk, hown, Stays.refl _ _, rfl⟩
set_option maxHeartbeats 2000000 in
set_option maxRecDepth 100000 in
theorem Tryz.ws32 (b : Nat) (p v : Value) (n : Nat) (bs : List Value) (s : ByteArray) (w : World) (hbk : w.heap[b]? = some (.cells #[p, v] 87 (0, 0))) (hp : p = .pointer none ∨ p = .pointer (some ⟨b, 0, none⟩)) (hown : Row w v n bs) (hlen : n + s.size ≤ 100000000) :
  Calls Tryz.prog 32 #[.pointer (some ⟨b, 0, none⟩), .string s] w fun e w' => e = .returned (.tuple #[.int .i64 s.size, .nilIface]) ∧ ∃ v', w'.heap[b]? = some (.cells #[.pointer (some ⟨b, 0, none⟩), v'] 87 (0, 0)) ∧ Row w' v' (n + s.size) (bs ++ strCells s) ∧
   Stays (fun k => k = b ∨ v.ownBlock = some k) w w' ∧ (∀ g, v'.ownBlock = some g → v.ownBlock = some g ∨ w.heap.size ≤ g) := by
 have hinfo : (Tryz.prog.info? 5).map (fun i => (i.zero, i.size, i.bytes)) = some (some (.int .u8 0), 1, 1) := by kernel_rfl
 obtain ⟨i0, hi, hz0, hz1, hz2⟩ := info_parts hinfo
 go_enter Tryz.func32, Tryz.ntmps32
 go_wp2_with (go_at_call 73; refine (Tryz.cc73 b p v n bs _ hbk hp hown).mono ?_)
 rintro e w1 ⟨rfl, hb1, hown1, st1, hsz1⟩
 have hne1 := row_ne hown1 hb1
 have c0 : w1.cell? ⟨b, 0, none⟩ = some (.pointer (some ⟨b, 0, none⟩)) := by rw [Lib.cell_of_heap hb1]; rfl
 have c1 : w1.cell? ⟨b, 1, none⟩ = some v := by rw [Lib.cell_of_heap hb1]; rfl
 go_wp2_with (at_builtin; refine wpList_app rfl _ _ 52 9 rfl i0 Tryz.underlying52 Tryz.underlying9 hi hz0 hz1 hz2 _ n bs rfl hown1 s rfl hlen ?_)
 intro v' w2 hown' hgrow hnew
 have hlt : b < w1.heap.size := by
  rcases Nat.lt_or_ge b w1.heap.size with h' | h'
  ·exact h'
  ·simp [Array.getElem?_eq_none h'] at hb1
 have hb2 : w2.heap[b]? = some (.cells #[.pointer (some ⟨b, 0, none⟩), v] 87 (0, 0)) := by
  rw [hgrow.block b hlt (fun e => hne1 e.symm)]
  exact hb1
 have hne2 := row_ne hown' hb2
 have d0 : w2.cell? ⟨b, 0, none⟩ = some (.pointer (some ⟨b, 0, none⟩)) := by rw [Lib.cell_of_heap hb2]; rfl
 have d1 : w2.cell? ⟨b, 1, none⟩ = some v := by rw [Lib.cell_of_heap hb2]; rfl
 have f1 : w2.frozen? ⟨b, 1, none⟩ = false := Lib.frozen_of_heap hb2 1
 have hst : Stays (fun k => k = b ∨ v.ownBlock = some k) w w2 := Stays.grown ⟨st1.size, fun k hk hn => st1.blk k hk (fun e => hn (.inl e)), st1.os, st1.tape, st1.output⟩ hgrow (fun k hk e => .inr e)
 obtain ⟨ao, n', cap, rfl⟩ : ∃ ao n' cap, v' = .slice ao n' cap := by
  rcases hown'.2 with ⟨hv, _⟩ | ⟨g, cap, cur, hv, _⟩
  ·exact ⟨_, _, _, hv⟩
  ·exact ⟨_, _, _, hv⟩
 go_wp2
 go_ret2
 refine ⟨rfl, .slice ao n' cap, by simp [World.setCell, Array.getElem?_modify, hb2], ?_, hst.setCell (.inl rfl) _, fun g hg => (hnew g hg).imp id fun h => by omega⟩
 refine hown'.kept (row := some b) ⟨rfl, rfl, rfl, by simp [World.setCell], fun k _ hk => Below.heap_setCell _ _ _ _ (fun e => hk (by simp [e]))⟩ ?_
 exact hne2
set_option maxHeartbeats 2000000 in
set_option maxRecDepth 100000 in
theorem Tryz.st33 (b g cap : Nat) (p : Value) (l : List UInt8) (w : World) (h0 : l ≠ []) (hlen : l.length ≤ 100000000) (hbk : w.heap[b]? = some (.cells #[p, .slice (some ⟨g, 0, none⟩) l.length cap] 87 (0, 0))) (hown : Row w (.slice (some ⟨g, 0, none⟩) l.length cap) l.length (byteCells l)) :
  Calls Tryz.prog 33 #[.pointer (some ⟨b, 0, none⟩)] w fun e w' => e = .returned (.string ⟨l.toArray⟩) ∧ Stays (fun k => k = g) w w' := by
 have hl0 : l.length ≠ 0 := by simpa using h0
 obtain ⟨cur, hg, hnc, hcs, htake⟩ : ∃ cur, w.heap[g]? = some (.cells cur 5 (0, 0)) ∧ l.length ≤ cap ∧ cap ≤ cur.size ∧ cur.toList.take l.length = byteCells l := by
  rcases hown.2 with ⟨hv, _⟩ | ⟨g', cap', cur, hv, r⟩
  ·cases hv
  ·cases hv
   exact ⟨cur, r⟩
 have c1 : w.drew.cell? ⟨b, 1, none⟩ = some (.slice (some ⟨g, 0, none⟩) l.length cap) := by
  have : w.drew.heap[b]? = some (.cells #[p, .slice (some ⟨g, 0, none⟩) l.length cap] 87 (0, 0)) := hbk
  rw [Lib.cell_of_heap this]; rfl
 have hSD : ∀ ts ty, (Builtin.unsafeSliceData_ ts ty #[.slice (some ⟨g, 0, none⟩) l.length cap]).run Tryz.prog w.drew = .ok (.pointer (some ⟨g, 0, none⟩)) w.drew :=
  fun ts ty => Lib.run_unsafeSliceData_row _ _ _ _ _ _ (by omega)
 have hUS : ∀ ty, (Builtin.unsafeString_ #[141, 3] ty #[.pointer (some ⟨g, 0, none⟩), .int .i64 l.length]).run Tryz.prog w.drew = .ok (.string ⟨l.toArray⟩) (w.drew.freeze ⟨g, 0, none⟩ l.length) := by
  intro ty
  refine Lib.run_unsafeString_row w.drew 141 3 ty 5 Tryz.underlying141 (by kernel_rfl) g cur.size (by have hg' : w.drew.heap[g]? = some (.cells cur 5 (0, 0)) := hg; simp [World.shape?, hg']) l h0 (by omega) (by omega) ?_
  intro j x hx
  have := hown.cells j (.int .u8 x.toNat) (by simp [Lib.byteCells, hx])
  exact this
 have hst : Stays (fun k => k = g) w (w.drew.freeze ⟨g, 0, none⟩ l.length) := by
  unfold World.freeze
  split
  ·exact ⟨Nat.le_refl _, fun _ _ _ => rfl, rfl, rfl, rfl⟩
  ·exact ⟨Nat.le_of_eq (by rw [Array.size_modify]; rfl), fun k hk hn => by
    simp only [Array.getElem?_modify]
    rw [if_neg (fun e => hn e.symm)]
    rfl, rfl, rfl, rfl⟩
 go_enter Tryz.func33, Tryz.ntmps33
 go_wp2
 go_region
 all_goals (go_wp2; go_ret; exact ⟨rfl, hst⟩)
end Go.Proofs
namespace Go.Proofs
open Go.Shelf Go.RowKit Go.Lib Go.Sort
def Tryz.cmp270_ren : Go.Shelf.Ren := ⟨fun | 5 => 270 | 7 => 337 | n => n, fun | 22 => 3 | 3 => 3 | 4 => 4 | n => n, fun | n => n⟩
theorem Tryz.cmp270 : Go.Proofs.SlLaysC2.n5 Tryz.prog Tryz.cmp270_ren := {
 mixed := by kernel_rfl
 f5 := ⟨Tryz.f270.name, by decide, Tryz.func270.trans (congrArg some (by kernel_rfl))⟩
 f7 := ⟨Tryz.f337.name, by decide, Tryz.func337.trans (congrArg some (by kernel_rfl))⟩
 t3 := Tryz.underlying3
 a3 := Tryz.isAgg3
 z3 := Tryz.sizeOf3
 v3 := Tryz.zeroValue3
 t4 := Tryz.underlying4
 a4 := Tryz.isAgg4
 z4 := Tryz.sizeOf4
 v4 := Tryz.zeroValue4
 t22 := Tryz.underlying3
 a22 := Tryz.isAgg3
 z22 := Tryz.sizeOf3
 v22 := Tryz.zeroValue3 }
def Tryz.sort312_ren : Go.Shelf.Ren := ⟨fun | 6 => 312 | 15 => 268 | 14 => 383 | 28 => 336 | 29 => 230 | 20 => 450 | 21 => 451 | 22 => 452 | 23 => 453 | 24 => 454 | 25 => 455 | 26 => 456 | 27 => 457 | 46 => 520 | 47 => 398 | 48 => 399 | 49 => 521 | 50 => 522 | 57 => 571 | n => n, fun | 22 => 357 | 24 => 378 | 25 => 458 | 3 => 3 | 39 => 161 | 0 => 0 | 53 => 318 | 55 => 217 | 4 => 4 | 46 => 474 | 45 => 473 | 50 => 133 | 5 => 5 | 9 => 9 | 66 => 524 | 70 => 528 | 76 => 582 | 77 => 580 | n => n, fun | n => n⟩
theorem Tryz.sort312 : Go.Proofs.SlLaysF0.n6 Tryz.prog Tryz.sort312_ren := {
 mixed := by kernel_rfl
 f6 := ⟨Tryz.f312.name, by decide, Tryz.func312.trans (congrArg some (by kernel_rfl))⟩
 f14 := ⟨Tryz.f383.name, by decide, Tryz.func383.trans (congrArg some (by kernel_rfl))⟩
 f15 := Tryz.func268.trans (congrArg some (by kernel_rfl))
 f20 := ⟨Tryz.f450.name, by decide, Tryz.func450.trans (congrArg some (by kernel_rfl))⟩
 f21 := ⟨Tryz.f451.name, by decide, Tryz.func451.trans (congrArg some (by kernel_rfl))⟩
 f22 := ⟨Tryz.f452.name, by decide, Tryz.func452.trans (congrArg some (by kernel_rfl))⟩
 f23 := ⟨Tryz.f453.name, by decide, Tryz.func453.trans (congrArg some (by kernel_rfl))⟩
 f24 := ⟨Tryz.f454.name, by decide, Tryz.func454.trans (congrArg some (by kernel_rfl))⟩
 f25 := ⟨Tryz.f455.name, by decide, Tryz.func455.trans (congrArg some (by kernel_rfl))⟩
 f26 := ⟨Tryz.f456.name, by decide, Tryz.func456.trans (congrArg some (by kernel_rfl))⟩
 f27 := ⟨Tryz.f457.name, by decide, Tryz.func457.trans (congrArg some (by kernel_rfl))⟩
 f28 := Tryz.func336.trans (congrArg some (by kernel_rfl))
 f29 := Tryz.func230.trans (congrArg some (by kernel_rfl))
 f46 := ⟨Tryz.f520.name, by decide, Tryz.func520.trans (congrArg some (by kernel_rfl))⟩
 f47 := Tryz.func398.trans (congrArg some (by kernel_rfl))
 f48 := Tryz.func399.trans (congrArg some (by kernel_rfl))
 f49 := ⟨Tryz.f521.name, by decide, Tryz.func521.trans (congrArg some (by kernel_rfl))⟩
 f50 := ⟨Tryz.f522.name, by decide, Tryz.func522.trans (congrArg some (by kernel_rfl))⟩
 f57 := ⟨Tryz.f571.name, by decide, Tryz.func571.trans (congrArg some (by kernel_rfl))⟩
 t0 := Tryz.underlying0
 a0 := Tryz.isAgg0
 z0 := Tryz.sizeOf0
 v0 := Tryz.zeroValue0
 t3 := Tryz.underlying3
 a3 := Tryz.isAgg3
 z3 := Tryz.sizeOf3
 v3 := Tryz.zeroValue3
 t4 := Tryz.underlying4
 a4 := Tryz.isAgg4
 z4 := Tryz.sizeOf4
 v4 := Tryz.zeroValue4
 t5 := Tryz.underlying5
 a5 := Tryz.isAgg5
 z5 := Tryz.sizeOf5
 v5 := Tryz.zeroValue5
 t9 := Tryz.underlying9
 a9 := Tryz.isAgg9
 z9 := Tryz.sizeOf9
 v9 := Tryz.zeroValue9
 t22 := Tryz.underlying357
 a22 := Tryz.isAgg357
 z22 := Tryz.sizeOf357
 v22 := Tryz.zeroValue357
 t25 := Tryz.underlying458
 a25 := Tryz.isAgg458
 z25 := Tryz.sizeOf458
 v25 := Tryz.zeroValue458
 t39 := Tryz.underlying161
 a39 := Tryz.isAgg161
 z39 := Tryz.sizeOf161
 v39 := Tryz.zeroValue161
 t45 := Tryz.underlying473
 a45 := Tryz.isAgg473
 z45 := Tryz.sizeOf473
 v45 := Tryz.zeroValue473
 t46 := Tryz.underlying474
 a46 := Tryz.isAgg474
 z46 := Tryz.sizeOf474
 v46 := Tryz.zeroValue474
 t50 := Tryz.underlying133
 a50 := Tryz.isAgg133
 z50 := Tryz.sizeOf133
 v50 := Tryz.zeroValue133
 t53 := Tryz.underlying318
 a53 := Tryz.isAgg318
 z53 := Tryz.sizeOf318
 v53 := Tryz.zeroValue318
 t55 := Tryz.underlying217
 a55 := Tryz.isAgg217
 z55 := Tryz.sizeOf217
 v55 := Tryz.zeroValue217
 t66 := Tryz.underlying524
 a66 := Tryz.isAgg524
 z66 := Tryz.sizeOf524
 v66 := Tryz.zeroValue524
 t70 := Tryz.underlying528
 a70 := Tryz.isAgg528
 z70 := Tryz.sizeOf528
 v70 := Tryz.zeroValue528
 t76 := Tryz.underlying582
 a76 := Tryz.isAgg582
 z76 := Tryz.sizeOf582
 v76 := Tryz.zeroValue582
 t77 := Tryz.underlying580
 a77 := Tryz.isAgg580
 z77 := Tryz.sizeOf580
 v77 := Tryz.zeroValue580 }
def Tryz.sort381_ren : Go.Shelf.Ren := ⟨fun | 6 => 381 | 15 => 268 | 14 => 449 | 28 => 336 | 29 => 230 | 20 => 512 | 21 => 513 | 22 => 514 | 23 => 515 | 24 => 516 | 25 => 517 | 26 => 518 | 27 => 519 | 46 => 568 | 47 => 398 | 48 => 399 | 49 => 569 | 50 => 570 | 57 => 607 | n => n, fun | 22 => 449 | 24 => 423 | 25 => 454 | 3 => 3 | 39 => 161 | 0 => 0 | 53 => 318 | 55 => 217 | 4 => 4 | 46 => 474 | 45 => 473 | 50 => 133 | 5 => 5 | 9 => 9 | 66 => 524 | 70 => 528 | 76 => 582 | 77 => 580 | n => n, fun | n => n⟩
theorem Tryz.sort381 : Go.Proofs.SlLaysF0.n6 Tryz.prog Tryz.sort381_ren := {
 mixed := by kernel_rfl
 f6 := ⟨Tryz.f381.name, by decide, Tryz.func381.trans (congrArg some (by kernel_rfl))⟩
 f14 := ⟨Tryz.f449.name, by decide, Tryz.func449.trans (congrArg some (by kernel_rfl))⟩
 f15 := Tryz.func268.trans (congrArg some (by kernel_rfl))
 f20 := ⟨Tryz.f512.name, by decide, Tryz.func512.trans (congrArg some (by kernel_rfl))⟩
 f21 := ⟨Tryz.f513.name, by decide, Tryz.func513.trans (congrArg some (by kernel_rfl))⟩
 f22 := ⟨Tryz.f514.name, by decide, Tryz.func514.trans (congrArg some (by kernel_rfl))⟩
 f23 := ⟨Tryz.f515.name, by decide, Tryz.func515.trans (congrArg some (by kernel_rfl))⟩
 f24 := ⟨Tryz.f516.name, by decide, Tryz.func516.trans (congrArg some (by kernel_rfl))⟩
 f25 := ⟨Tryz.f517.name, by decide, Tryz.func517.trans (congrArg some (by kernel_rfl))⟩
 f26 := ⟨Tryz.f518.name, by decide, Tryz.func518.trans (congrArg some (by kernel_rfl))⟩
 f27 := ⟨Tryz.f519.name, by decide, Tryz.func519.trans (congrArg some (by kernel_rfl))⟩
 f28 := Tryz.func336.trans (congrArg some (by kernel_rfl))
 f29 := Tryz.func230.trans (congrArg some (by kernel_rfl))
 f46 := ⟨Tryz.f568.name, by decide, Tryz.func568.trans (congrArg some (by kernel_rfl))⟩
 f47 := Tryz.func398.trans (congrArg some (by kernel_rfl))
 f48 := Tryz.func399.trans (congrArg some (by kernel_rfl))
 f49 := ⟨Tryz.f569.name, by decide, Tryz.func569.trans (congrArg some (by kernel_rfl))⟩
 f50 := ⟨Tryz.f570.name, by decide, Tryz.func570.trans (congrArg some (by kernel_rfl))⟩
 f57 := ⟨Tryz.f607.name, by decide, Tryz.func607.trans (congrArg some (by kernel_rfl))⟩
 t0 := Tryz.underlying0
 a0 := Tryz.isAgg0
 z0 := Tryz.sizeOf0
 v0 := Tryz.zeroValue0
 t3 := Tryz.underlying3
 a3 := Tryz.isAgg3
 z3 := Tryz.sizeOf3
 v3 := Tryz.zeroValue3
 t4 := Tryz.underlying4
 a4 := Tryz.isAgg4
 z4 := Tryz.sizeOf4
 v4 := Tryz.zeroValue4
 t5 := Tryz.underlying5
 a5 := Tryz.isAgg5
 z5 := Tryz.sizeOf5
 v5 := Tryz.zeroValue5
 t9 := Tryz.underlying9
 a9 := Tryz.isAgg9
 z9 := Tryz.sizeOf9
 v9 := Tryz.zeroValue9
 t22 := Tryz.underlying449
 a22 := Tryz.isAgg449
 z22 := Tryz.sizeOf449
 v22 := Tryz.zeroValue449
 t25 := Tryz.underlying454
 a25 := Tryz.isAgg454
 z25 := Tryz.sizeOf454
 v25 := Tryz.zeroValue454
 t39 := Tryz.underlying161
 a39 := Tryz.isAgg161
 z39 := Tryz.sizeOf161
 v39 := Tryz.zeroValue161
 t45 := Tryz.underlying473
 a45 := Tryz.isAgg473
 z45 := Tryz.sizeOf473
 v45 := Tryz.zeroValue473
 t46 := Tryz.underlying474
 a46 := Tryz.isAgg474
 z46 := Tryz.sizeOf474
 v46 := Tryz.zeroValue474
 t50 := Tryz.underlying133
 a50 := Tryz.isAgg133
 z50 := Tryz.sizeOf133
 v50 := Tryz.zeroValue133
 t53 := Tryz.underlying318
 a53 := Tryz.isAgg318
 z53 := Tryz.sizeOf318
 v53 := Tryz.zeroValue318
 t55 := Tryz.underlying217
 a55 := Tryz.isAgg217
 z55 := Tryz.sizeOf217
 v55 := Tryz.zeroValue217
 t66 := Tryz.underlying524
 a66 := Tryz.isAgg524
 z66 := Tryz.sizeOf524
 v66 := Tryz.zeroValue524
 t70 := Tryz.underlying528
 a70 := Tryz.isAgg528
 z70 := Tryz.sizeOf528
 v70 := Tryz.zeroValue528
 t76 := Tryz.underlying582
 a76 := Tryz.isAgg582
 z76 := Tryz.sizeOf582
 v76 := Tryz.zeroValue582
 t77 := Tryz.underlying580
 a77 := Tryz.isAgg580
 z77 := Tryz.sizeOf580
 v77 := Tryz.zeroValue580 }
def orI (a b : Int) : Int := if a = 0 then b else a
def cmpR (x y : Int × Int) : Int := orI (Lib.compareInt x.1 y.1) (Lib.compareInt x.2 y.2)
set_option maxHeartbeats 1000000 in
set_option maxRecDepth 100000 in
theorem Tryz.or269 (blk : Nat) (a b : Int) (W : World) (h0 : W.cell? ⟨blk, 0, none⟩ = some (.int .i64 a)) (h1 : W.cell? ⟨blk, 1, none⟩ = some (.int .i64 b)) :
  Calls Tryz.prog 269 #[.slice (some ⟨blk, 0, none⟩) 2 2] W fun e w' => e = .returned (.int .i64 (orI a b)) ∧ w' = W := by
 by_cases ha : a = 0
 ·subst ha
  by_cases hb : b = 0
  ·subst hb
   go_enter Tryz.func269, Tryz.ntmps269
   go_wp2
   refine wp_loop_rounds 3 ?_
   rw [rounds_succ]
   go_wp2
   rw [rounds_succ]
   go_wp2
   rw [rounds_succ]
   go_wp2
   go_ret
   exact ⟨rfl, rfl⟩
  ·go_enter Tryz.func269, Tryz.ntmps269
   go_wp2
   refine wp_loop_rounds 3 ?_
   rw [rounds_succ]
   go_wp2
   rw [rounds_succ]
   go_wp2
   go_ret
   exact ⟨rfl, rfl⟩
 ·go_enter Tryz.func269, Tryz.ntmps269
  go_wp2
  refine wp_loop_rounds 3 ?_
  rw [rounds_succ]
  go_wp2
  go_ret
  refine ⟨?_, rfl⟩
  unfold orI
  rw [if_neg ha]
  rfl
set_option maxHeartbeats 1000000 in
set_option maxRecDepth 100000 in
theorem Tryz.compare250 (x y : Int × Int) (W : World) : Calls Tryz.prog 250 #[.agg #[.int .i64 x.1, .int .i64 x.2], .agg #[.int .i64 y.1, .int .i64 y.2]] W fun e w' => e = .returned (.int .i64 (cmpR x y)) ∧ ∃ q os', w' = grow (W.drewN q) os' := by
 have hc1 := fun W' => AnyG.cmp_Compare_int Tryz.cmp270 x.1 y.1 W'
 have hc2 := fun W' => AnyG.cmp_Compare_int Tryz.cmp270 x.2 y.2 W'
 change ∀ W', Calls Tryz.prog 270 _ _ _ at hc1
 change ∀ W', Calls Tryz.prog 270 _ _ _ at hc2
 have hor := fun blk W' h0 h1 => Tryz.or269 blk (Lib.compareInt x.1 y.1) (Lib.compareInt x.2 y.2) W' h0 h1
 unfold cmpR
 generalize Lib.compareInt x.1 y.1 = r1 at hc1 hor ⊢
 generalize Lib.compareInt x.2 y.2 = r2 at hc2 hor ⊢
 go_enter Tryz.func250, Tryz.ntmps250
 go_wp2
 obtain ⟨W2, hW2⟩ : ∃ W2, W2 = (W.alloc (.cells #[.int .i64 x.1, .int .i64 x.2] 60)).alloc (.cells #[.int .i64 y.1, .int .i64 y.2] 60) := ⟨_, rfl⟩
 rw [← hW2]
 obtain ⟨W3, hW3⟩ : ∃ W3, W3 = W2.drew := ⟨_, rfl⟩
 have hW3' := hW3
 have hp : W3.heap = (W.heap.push (.cells #[.int .i64 x.1, .int .i64 x.2] 60)).push (.cells #[.int .i64 y.1, .int .i64 y.2] 60) := by rw [hW3, hW2]; rfl
 have hb1 : W3.heap[W.heap.size]? = some (.cells #[.int .i64 x.1, .int .i64 x.2] 60) := by
  rw [hp, Array.getElem?_push, if_neg (by rw [Array.size_push]; omega), Array.getElem?_push, if_pos rfl]
 have hb2 : W3.heap[W.heap.size + 1]? = some (.cells #[.int .i64 y.1, .int .i64 y.2] 60) := by
  rw [hp, Array.getElem?_push, if_pos (by rw [Array.size_push])]
 have c1 : W3.cell? ⟨W.heap.size, 0, none⟩ = some (.int .i64 x.1) := by simp only [World.cell?, hb1]; rfl
 have c2 : W3.cell? ⟨W.heap.size, 1, none⟩ = some (.int .i64 x.2) := by simp only [World.cell?, hb1]; rfl
 have c3 : W3.cell? ⟨W.heap.size + 1, 0, none⟩ = some (.int .i64 y.1) := by simp only [World.cell?, hb2]; rfl
 have c4 : W3.cell? ⟨W.heap.size + 1, 1, none⟩ = some (.int .i64 y.2) := by simp only [World.cell?, hb2]; rfl
 have hW : grow (W.drewN 1) #[.cells #[.int .i64 x.1, .int .i64 x.2] 60, .cells #[.int .i64 y.1, .int .i64 y.2] 60] = W3 := by
  rw [hW3, hW2, alloc_eq_grow, alloc_eq_grow, grow_grow]; rfl
 clear hW2 hW3 hp hb1 hb2
 refine wp_region_still_tail 10 (by kernel_rfl) (by kernel_rfl) ?_
 simp only [List.take_succ_cons, List.take_zero, List.drop_succ_cons, List.drop_zero]
 change wpStill _ _ W2.drew (fun a' => wpList _ _ _ _ a' W2.drew) _ _
 rw [← hW3']
 clear hW3'
 still_step
 still_step
 still_step
 still_step
 still_call (hc1 _)
 still_step
 still_step
 still_step
 still_step
 still_call (hc2 _)
 refine wpStill_nil ?_
 go_wp2_with (go_at_call 269; refine (hor _ _ (by simp only [World.cell?, World.alloc, Array.getElem?_push, if_pos]; rfl) (by simp only [World.cell?, World.alloc, Array.getElem?_push, if_pos]; rfl)).mono ?_; rintro e w' ⟨rfl, rfl⟩)
 go_ret
 exact ⟨rfl, 1, _, by rw [← hW, alloc_eq_grow, grow_grow]⟩
def Gr (W w' : World) : Prop := ∃ q os, w' = grow (W.drewN q) os
theorem grow_drew (W : World) (q q' : Nat) (os os' : Array Obj) : grow ((grow (W.drewN q) os).drewN q') os' = grow (W.drewN (q + q')) (os ++ os') := by
 unfold grow World.drewN
 simp [Nat.add_assoc, Array.append_assoc]
theorem Gr.refl (W : World) : Gr W W := ⟨0, #[], by unfold grow World.drewN; simp⟩
theorem Gr.trans {a b c : World} (h : Gr a b) (k : Gr b c) : Gr a c := by
 obtain ⟨q, os, rfl⟩ := h
 obtain ⟨q', os', rfl⟩ := k
 exact ⟨_, _, grow_drew a q q' os os'⟩
theorem Gr.drew {a b : World} (h : Gr a b) : Gr a b.drew := h.trans ⟨1, #[], by unfold grow World.drewN World.drew; simp⟩
theorem Gr.alloc {a b : World} (h : Gr a b) (o : Obj) : Gr a (b.alloc o) := h.trans ⟨0, #[o], by rw [alloc_eq_grow]; rfl⟩
def orJ (a b c : Int) : Int := orI a (orI b c)
set_option maxHeartbeats 1000000 in
set_option maxRecDepth 100000 in
theorem Tryz.or269c (blk : Nat) (a b c : Int) (W : World) (h0 : W.cell? ⟨blk, 0, none⟩ = some (.int .i64 a)) (h1 : W.cell? ⟨blk, 1, none⟩ = some (.int .i64 b)) (h2 : W.cell? ⟨blk, 2, none⟩ = some (.int .i64 c)) :
  Calls Tryz.prog 269 #[.slice (some ⟨blk, 0, none⟩) 3 3] W fun e w' => e = .returned (.int .i64 (orJ a b c)) ∧ w' = W := by
 unfold orJ
 by_cases ha : a = 0
 ·subst ha
  by_cases hb : b = 0
  ·subst hb
   by_cases hc : c = 0
   ·subst hc
    go_enter Tryz.func269, Tryz.ntmps269
    go_wp2
    refine wp_loop_rounds 4 ?_
    rw [rounds_succ]
    go_wp2
    rw [rounds_succ]
    go_wp2
    rw [rounds_succ]
    go_wp2
    rw [rounds_succ]
    go_wp2
    go_ret
    exact ⟨rfl, rfl⟩
   ·go_enter Tryz.func269, Tryz.ntmps269
    go_wp2
    refine wp_loop_rounds 4 ?_
    rw [rounds_succ]
    go_wp2
    rw [rounds_succ]
    go_wp2
    rw [rounds_succ]
    go_wp2
    go_ret
    exact ⟨rfl, rfl⟩
  ·go_enter Tryz.func269, Tryz.ntmps269
   go_wp2
   refine wp_loop_rounds 4 ?_
   rw [rounds_succ]
   go_wp2
   rw [rounds_succ]
   go_wp2
   go_ret
   refine ⟨?_, rfl⟩
   unfold orI
   rw [if_pos rfl, if_neg hb]
   rfl
 ·go_enter Tryz.func269, Tryz.ntmps269
  go_wp2
  refine wp_loop_rounds 4 ?_
  rw [rounds_succ]
  go_wp2
  go_ret
  refine ⟨?_, rfl⟩
  unfold orI
  rw [if_neg ha]
  rfl
def cmpP (x y : Int × Int × Int) : Int := orJ (Lib.compareInt x.1 y.1) (Lib.compareInt x.2.1 y.2.1) (Lib.compareInt x.2.2 y.2.2)
set_option maxHeartbeats 2000000 in
set_option maxRecDepth 100000 in
theorem Tryz.order310 (x y : Int × Int × Int) (W : World) : Calls Tryz.prog 310 #[.agg #[.int .i64 x.1, .int .i64 x.2.1, .int .i64 x.2.2], .agg #[.int .i64 y.1, .int .i64 y.2.1, .int .i64 y.2.2]] W fun e w' => e = .returned (.int .i64 (cmpP x y)) ∧ ∃ q os', w' = grow (W.drewN q) os' := by
 have hc1 := fun W' => AnyG.cmp_Compare_int Tryz.cmp270 x.1 y.1 W'
 have hc2 := fun W' => AnyG.cmp_Compare_int Tryz.cmp270 x.2.1 y.2.1 W'
 have hc3 := fun W' => AnyG.cmp_Compare_int Tryz.cmp270 x.2.2 y.2.2 W'
 change ∀ W', Calls Tryz.prog 270 _ _ _ at hc1
 change ∀ W', Calls Tryz.prog 270 _ _ _ at hc2
 change ∀ W', Calls Tryz.prog 270 _ _ _ at hc3
 have hor := fun blk W' h0 h1 h2 => Tryz.or269c blk (Lib.compareInt x.1 y.1) (Lib.compareInt x.2.1 y.2.1) (Lib.compareInt x.2.2 y.2.2) W' h0 h1 h2
 unfold cmpP
 generalize Lib.compareInt x.1 y.1 = r1 at hc1 hor ⊢
 generalize Lib.compareInt x.2.1 y.2.1 = r2 at hc2 hor ⊢
 generalize Lib.compareInt x.2.2 y.2.2 = r3 at hc3 hor ⊢
 go_enter Tryz.func310, Tryz.ntmps310
 go_wp2
 obtain ⟨W2, hW2⟩ : ∃ W2, W2 = (W.alloc (.cells #[.int .i64 x.1, .int .i64 x.2.1, .int .i64 x.2.2] 423)).alloc (.cells #[.int .i64 y.1, .int .i64 y.2.1, .int .i64 y.2.2] 423) := ⟨_, rfl⟩
 rw [← hW2]
 obtain ⟨W3, hW3⟩ : ∃ W3, W3 = W2.drew := ⟨_, rfl⟩
 have hW3' := hW3
 have hp : W3.heap = (W.heap.push (.cells #[.int .i64 x.1, .int .i64 x.2.1, .int .i64 x.2.2] 423)).push (.cells #[.int .i64 y.1, .int .i64 y.2.1, .int .i64 y.2.2] 423) := by rw [hW3, hW2]; rfl
 have hb1 : W3.heap[W.heap.size]? = some (.cells #[.int .i64 x.1, .int .i64 x.2.1, .int .i64 x.2.2] 423) := by
  rw [hp, Array.getElem?_push, if_neg (by rw [Array.size_push]; omega), Array.getElem?_push, if_pos rfl]
 have hb2 : W3.heap[W.heap.size + 1]? = some (.cells #[.int .i64 y.1, .int .i64 y.2.1, .int .i64 y.2.2] 423) := by
  rw [hp, Array.getElem?_push, if_pos (by rw [Array.size_push])]
 have c1 : W3.cell? ⟨W.heap.size, 0, none⟩ = some (.int .i64 x.1) := by simp only [World.cell?, hb1]; rfl
 have c2 : W3.cell? ⟨W.heap.size, 1, none⟩ = some (.int .i64 x.2.1) := by simp only [World.cell?, hb1]; rfl
 have c3 : W3.cell? ⟨W.heap.size, 2, none⟩ = some (.int .i64 x.2.2) := by simp only [World.cell?, hb1]; rfl
 have c4 : W3.cell? ⟨W.heap.size + 1, 0, none⟩ = some (.int .i64 y.1) := by simp only [World.cell?, hb2]; rfl
 have c5 : W3.cell? ⟨W.heap.size + 1, 1, none⟩ = some (.int .i64 y.2.1) := by simp only [World.cell?, hb2]; rfl
 have c6 : W3.cell? ⟨W.heap.size + 1, 2, none⟩ = some (.int .i64 y.2.2) := by simp only [World.cell?, hb2]; rfl
 have hW : grow (W.drewN 1) #[.cells #[.int .i64 x.1, .int .i64 x.2.1, .int .i64 x.2.2] 423, .cells #[.int .i64 y.1, .int .i64 y.2.1, .int .i64 y.2.2] 423] = W3 := by
  rw [hW3, hW2, alloc_eq_grow, alloc_eq_grow, grow_grow]; rfl
 clear hW2 hW3 hp hb1 hb2
 refine wp_region_still_tail 19 (by kernel_rfl) (by kernel_rfl) ?_
 simp only [List.take_succ_cons, List.take_zero, List.drop_succ_cons, List.drop_zero]
 change wpStill _ _ W2.drew (fun a' => wpList _ _ _ _ a' W2.drew) _ _
 rw [← hW3']
 clear hW3'
 iterate 6 still_step
 still_call (hc1 _)
 iterate 6 still_step
 still_call (hc2 _)
 iterate 4 still_step
 still_call (hc3 _)
 refine wpStill_nil ?_
 go_wp2_with (go_at_call 269; refine (hor _ _ (by simp only [World.cell?, World.alloc, Array.getElem?_push, if_pos]; rfl) (by simp only [World.cell?, World.alloc, Array.getElem?_push, if_pos]; rfl) (by simp only [World.cell?, World.alloc, Array.getElem?_push, if_pos]; rfl)).mono ?_; rintro e w' ⟨rfl, rfl⟩)
 go_ret
 exact ⟨rfl, 1, _, by rw [← hW, alloc_eq_grow, grow_grow]⟩
def cmpS (x y : Int × Int × Int × Int × Int) : Int := orJ (Lib.compareInt x.1 y.1) (Lib.compareInt x.2.1 y.2.1) (cmpR (x.2.2.1, x.2.2.2.1) (y.2.2.1, y.2.2.2.1))
set_option maxHeartbeats 4000000 in
set_option maxRecDepth 100000 in
theorem Tryz.order313 (x y : Int × Int × Int × Int × Int) (W : World) : Calls Tryz.prog 313 #[.agg #[.int .i64 x.1, .int .i64 x.2.1, .int .i64 x.2.2.1, .int .i64 x.2.2.2.1, .int .i64 x.2.2.2.2], .agg #[.int .i64 y.1, .int .i64 y.2.1, .int .i64 y.2.2.1, .int .i64 y.2.2.2.1, .int .i64 y.2.2.2.2]] W fun e w' => e = .returned (.int .i64 (cmpS x y)) ∧ ∃ q os', w' = grow (W.drewN q) os' := by
 have hc1 := fun W' => AnyG.cmp_Compare_int Tryz.cmp270 x.1 y.1 W'
 have hc2 := fun W' => AnyG.cmp_Compare_int Tryz.cmp270 x.2.1 y.2.1 W'
 have hc3 : ∀ W', Calls Tryz.prog 250 #[.agg #[.int .i64 x.2.2.1, .int .i64 x.2.2.2.1], .agg #[.int .i64 y.2.2.1, .int .i64 y.2.2.2.1]] W' fun e w' => e = .returned (.int .i64 (cmpR (x.2.2.1, x.2.2.2.1) (y.2.2.1, y.2.2.2.1))) ∧ Gr W' w' := fun W' => Tryz.compare250 (x.2.2.1, x.2.2.2.1) (y.2.2.1, y.2.2.2.1) W'
 change ∀ W', Calls Tryz.prog 270 _ _ _ at hc1
 change ∀ W', Calls Tryz.prog 270 _ _ _ at hc2
 have hor := fun blk W' h0 h1 h2 => Tryz.or269c blk (Lib.compareInt x.1 y.1) (Lib.compareInt x.2.1 y.2.1) (cmpR (x.2.2.1, x.2.2.2.1) (y.2.2.1, y.2.2.2.1)) W' h0 h1 h2
 unfold cmpS
 generalize Lib.compareInt x.1 y.1 = r1 at hc1 hor ⊢
 generalize Lib.compareInt x.2.1 y.2.1 = r2 at hc2 hor ⊢
 generalize cmpR (x.2.2.1, x.2.2.2.1) (y.2.2.1, y.2.2.2.1) = r3 at hc3 hor ⊢
 go_enter Tryz.func313, Tryz.ntmps313
 go_wp2
 obtain ⟨W2, hW2⟩ : ∃ W2, W2 = (W.alloc (.cells #[.int .i64 x.1, .int .i64 x.2.1, .int .i64 x.2.2.1, .int .i64 x.2.2.2.1, .int .i64 x.2.2.2.2] 378)).alloc (.cells #[.int .i64 y.1, .int .i64 y.2.1, .int .i64 y.2.2.1, .int .i64 y.2.2.2.1, .int .i64 y.2.2.2.2] 378) := ⟨_, rfl⟩
 rw [← hW2]
 obtain ⟨W3, hW3⟩ : ∃ W3, W3 = W2.drew := ⟨_, rfl⟩
 have hW3' := hW3
 have hp : W3.heap = (W.heap.push (.cells #[.int .i64 x.1, .int .i64 x.2.1, .int .i64 x.2.2.1, .int .i64 x.2.2.2.1, .int .i64 x.2.2.2.2] 378)).push (.cells #[.int .i64 y.1, .int .i64 y.2.1, .int .i64 y.2.2.1, .int .i64 y.2.2.2.1, .int .i64 y.2.2.2.2] 378) := by rw [hW3, hW2]; rfl
 have hb1 : W3.heap[W.heap.size]? = some (.cells #[.int .i64 x.1, .int .i64 x.2.1, .int .i64 x.2.2.1, .int .i64 x.2.2.2.1, .int .i64 x.2.2.2.2] 378) := by
  rw [hp, Array.getElem?_push, if_neg (by rw [Array.size_push]; omega), Array.getElem?_push, if_pos rfl]
 have hb2 : W3.heap[W.heap.size + 1]? = some (.cells #[.int .i64 y.1, .int .i64 y.2.1, .int .i64 y.2.2.1, .int .i64 y.2.2.2.1, .int .i64 y.2.2.2.2] 378) := by
  rw [hp, Array.getElem?_push, if_pos (by rw [Array.size_push])]
 have c0 : W3.cell? ⟨W.heap.size, 0, none⟩ = some (.int .i64 x.1) := by simp only [World.cell?, hb1]; rfl
 have c1 : W3.cell? ⟨W.heap.size, 1, none⟩ = some (.int .i64 x.2.1) := by simp only [World.cell?, hb1]; rfl
 have c2 : W3.cell? ⟨W.heap.size, 2, none⟩ = some (.int .i64 x.2.2.1) := by simp only [World.cell?, hb1]; rfl
 have c3 : W3.cell? ⟨W.heap.size, 3, none⟩ = some (.int .i64 x.2.2.2.1) := by simp only [World.cell?, hb1]; rfl
 have d0 : W3.cell? ⟨W.heap.size + 1, 0, none⟩ = some (.int .i64 y.1) := by simp only [World.cell?, hb2]; rfl
 have d1 : W3.cell? ⟨W.heap.size + 1, 1, none⟩ = some (.int .i64 y.2.1) := by simp only [World.cell?, hb2]; rfl
 have d2 : W3.cell? ⟨W.heap.size + 1, 2, none⟩ = some (.int .i64 y.2.2.1) := by simp only [World.cell?, hb2]; rfl
 have d3 : W3.cell? ⟨W.heap.size + 1, 3, none⟩ = some (.int .i64 y.2.2.2.1) := by simp only [World.cell?, hb2]; rfl
 have hG : Gr W W3 := by rw [hW3, hW2]; exact (((Gr.refl W).alloc _).alloc _).drew
 clear hW2 hW3 hp hb1 hb2
 refine wp_region_still_tail 18 (by kernel_rfl) (by kernel_rfl) ?_
 simp only [List.take_succ_cons, List.take_zero, List.drop_succ_cons, List.drop_zero]
 change wpStill _ _ W2.drew (fun a' => wpList _ _ _ _ a' W2.drew) _ _
 rw [← hW3']
 clear hW3'
 iterate 6 still_step
 still_call (hc1 _)
 iterate 6 still_step
 still_call (hc2 _)
 iterate 4 still_step
 refine wpStill_nil ?_
 go_wp2_with (first | (go_at_call 250; refine (hc3 _).mono ?_; rintro e w1 ⟨rfl, hg1⟩) | (go_at_call 269; refine (hor _ _ (by simp only [World.cell?, World.alloc, Array.getElem?_push, if_pos]; rfl) (by simp only [World.cell?, World.alloc, Array.getElem?_push, if_pos]; rfl) (by simp only [World.cell?, World.alloc, Array.getElem?_push, if_pos]; rfl)).mono ?_; rintro e w' ⟨rfl, rfl⟩))
 go_ret
 exact ⟨rfl, (hG.trans hg1).alloc _⟩
def ltP (x y : Int × Int × Int) : Prop := x.1 < y.1 ∨ x.1 = y.1 ∧ (x.2.1 < y.2.1 ∨ x.2.1 = y.2.1 ∧ x.2.2 < y.2.2)
def ltS (x y : Int × Int × Int × Int × Int) : Prop := x.1 < y.1 ∨ x.1 = y.1 ∧ (x.2.1 < y.2.1 ∨ x.2.1 = y.2.1 ∧ (x.2.2.1 < y.2.2.1 ∨ x.2.2.1 = y.2.2.1 ∧ x.2.2.2.1 < y.2.2.2.1))
instance (x y : Int × Int × Int) : Decidable (ltP x y) := by unfold ltP; infer_instance
instance (x y : Int × Int × Int × Int × Int) : Decidable (ltS x y) := by unfold ltS; infer_instance
theorem compareInt_cases (a b : Int) : (a < b ∧ Lib.compareInt a b = -1) ∨ (a = b ∧ Lib.compareInt a b = 0) ∨ (b < a ∧ Lib.compareInt a b = 1) := by
 unfold Lib.compareInt
 rcases Int.lt_trichotomy a b with h | h | h
 ·exact .inl ⟨h, by rw [if_pos h]⟩
 ·subst h; exact .inr (.inl ⟨rfl, by simp⟩)
 ·exact .inr (.inr ⟨h, by rw [if_neg (by omega)]; rw [if_pos h]⟩)
theorem orI_neg (b : Int) : orI (-1) b = -1 := rfl
theorem orI_one (b : Int) : orI 1 b = 1 := rfl
theorem orI_zero (b : Int) : orI 0 b = b := rfl
theorem cmpP_lt (x y : Int × Int × Int) : cmpP x y < 0 ↔ ltP x y := by
 unfold cmpP orJ ltP
 rcases compareInt_cases x.1 y.1 with ⟨h1, e1⟩ | ⟨h1, e1⟩ | ⟨h1, e1⟩ <;> rw [e1] <;> simp only [orI_neg, orI_one, orI_zero]
 ·omega
 ·rcases compareInt_cases x.2.1 y.2.1 with ⟨h2, e2⟩ | ⟨h2, e2⟩ | ⟨h2, e2⟩ <;> rw [e2] <;> simp only [orI_neg, orI_one, orI_zero]
  ·omega
  ·rcases compareInt_cases x.2.2 y.2.2 with ⟨h3, e3⟩ | ⟨h3, e3⟩ | ⟨h3, e3⟩ <;> rw [e3] <;> omega
  ·omega
 ·omega
theorem cmpS_lt (x y : Int × Int × Int × Int × Int) : cmpS x y < 0 ↔ ltS x y := by
 unfold cmpS orJ cmpR ltS
 simp only
 rcases compareInt_cases x.1 y.1 with ⟨h1, e1⟩ | ⟨h1, e1⟩ | ⟨h1, e1⟩ <;> rw [e1] <;> simp only [orI_neg, orI_one, orI_zero]
 ·omega
 ·rcases compareInt_cases x.2.1 y.2.1 with ⟨h2, e2⟩ | ⟨h2, e2⟩ | ⟨h2, e2⟩ <;> rw [e2] <;> simp only [orI_neg, orI_one, orI_zero]
  ·omega
  ·rcases compareInt_cases x.2.2.1 y.2.2.1 with ⟨h3, e3⟩ | ⟨h3, e3⟩ | ⟨h3, e3⟩ <;> rw [e3] <;> simp only [orI_neg, orI_one, orI_zero]
   ·omega
   ·rcases compareInt_cases x.2.2.2.1 y.2.2.2.1 with ⟨h4, e4⟩ | ⟨h4, e4⟩ | ⟨h4, e4⟩ <;> rw [e4] <;> omega
   ·omega
  ·omega
 ·omega
theorem Tryz.ltPP (x y : Int × Int × Int) : ltOf cmpP x y = decide (ltP x y) := by
 unfold ltOf
 by_cases h : ltP x y
 ·rw [decide_eq_true h, decide_eq_true ((cmpP_lt x y).2 h)]
 ·rw [decide_eq_false h, decide_eq_false fun hc => h ((cmpP_lt x y).1 hc)]
theorem Tryz.ltSS (x y : Int × Int × Int × Int × Int) : ltOf cmpS x y = decide (ltS x y) := by
 unfold ltOf
 by_cases h : ltS x y
 ·rw [decide_eq_true h, decide_eq_true ((cmpS_lt x y).2 h)]
 ·rw [decide_eq_false h, decide_eq_false fun hc => h ((cmpS_lt x y).1 hc)]
theorem Tryz.swoP : SWO (ltOf cmpP) where
 irrefl x := by rw [Tryz.ltPP]; exact decide_eq_false (by unfold ltP; omega)
 trans x y z h1 h2 := by
  rw [Tryz.ltPP] at h1 h2 ⊢
  have h1 := of_decide_eq_true h1
  have h2 := of_decide_eq_true h2
  refine decide_eq_true ?_
  unfold ltP at *; omega
 ntrans x y z h1 h2 := by
  rw [Tryz.ltPP] at h1 h2 ⊢
  have h1 := of_decide_eq_false h1
  have h2 := of_decide_eq_false h2
  refine decide_eq_false ?_
  unfold ltP at *; omega
theorem Tryz.swoS : SWO (ltOf cmpS) where
 irrefl x := by rw [Tryz.ltSS]; exact decide_eq_false (by unfold ltS; omega)
 trans x y z h1 h2 := by
  rw [Tryz.ltSS] at h1 h2 ⊢
  have h1 := of_decide_eq_true h1
  have h2 := of_decide_eq_true h2
  refine decide_eq_true ?_
  unfold ltS at *; omega
 ntrans x y z h1 h2 := by
  rw [Tryz.ltSS] at h1 h2 ⊢
  have h1 := of_decide_eq_false h1
  have h2 := of_decide_eq_false h2
  refine decide_eq_false ?_
  unfold ltS at *; omega
end Go.Proofs
namespace Go.Proofs
open Go.Shelf
def Tryz.lays285_ren : Go.Shelf.Ren := ⟨fun | 285 => 173 | n => n, fun | 37 => 52 | 53 => 217 | 3 => 3 | 4 => 4 | 51 => 318 | 9 => 9 | 5 => 5 | 0 => 0 | n => n, fun | n => n⟩
theorem Tryz.lays285 : Go.Proofs.Lays.n285 Tryz.prog Tryz.lays285_ren := {
 mixed := by kernel_rfl
 f285 := Tryz.func173.trans (congrArg some (by kernel_rfl))
 t0 := Tryz.underlying0
 a0 := Tryz.isAgg0
 z0 := Tryz.sizeOf0
 v0 := Tryz.zeroValue0
 t3 := Tryz.underlying3
 a3 := Tryz.isAgg3
 z3 := Tryz.sizeOf3
 v3 := Tryz.zeroValue3
 t4 := Tryz.underlying4
 a4 := Tryz.isAgg4
 z4 := Tryz.sizeOf4
 v4 := Tryz.zeroValue4
 t5 := Tryz.underlying5
 a5 := Tryz.isAgg5
 z5 := Tryz.sizeOf5
 v5 := Tryz.zeroValue5
 t9 := Tryz.underlying9
 a9 := Tryz.isAgg9
 z9 := Tryz.sizeOf9
 v9 := Tryz.zeroValue9
 t37 := Tryz.underlying52
 a37 := Tryz.isAgg52
 z37 := Tryz.sizeOf52
 v37 := Tryz.zeroValue52
 t51 := Tryz.underlying318
 a51 := Tryz.isAgg318
 z51 := Tryz.sizeOf318
 v51 := Tryz.zeroValue318
 t53 := Tryz.underlying217
 a53 := Tryz.isAgg217
 z53 := Tryz.sizeOf217
 v53 := Tryz.zeroValue217 }
def Tryz.lays129_ren : Go.Shelf.Ren := ⟨fun | 129 => 230 | n => n, fun | 53 => 217 | 3 => 3 | 4 => 4 | 46 => 161 | 5 => 5 | 9 => 9 | n => n, fun | n => n⟩
theorem Tryz.lays129 : Go.Proofs.Lays.n129 Tryz.prog Tryz.lays129_ren := {
 mixed := by kernel_rfl
 f129 := Tryz.func230.trans (congrArg some (by kernel_rfl))
 t3 := Tryz.underlying3
 a3 := Tryz.isAgg3
 z3 := Tryz.sizeOf3
 v3 := Tryz.zeroValue3
 t4 := Tryz.underlying4
 a4 := Tryz.isAgg4
 z4 := Tryz.sizeOf4
 v4 := Tryz.zeroValue4
 t5 := Tryz.underlying5
 a5 := Tryz.isAgg5
 z5 := Tryz.sizeOf5
 v5 := Tryz.zeroValue5
 t9 := Tryz.underlying9
 a9 := Tryz.isAgg9
 z9 := Tryz.sizeOf9
 v9 := Tryz.zeroValue9
 t46 := Tryz.underlying161
 a46 := Tryz.isAgg161
 z46 := Tryz.sizeOf161
 v46 := Tryz.zeroValue161
 t53 := Tryz.underlying217
 a53 := Tryz.isAgg217
 z53 := Tryz.sizeOf217
 v53 := Tryz.zeroValue217 }
def Tryz.lays171_ren : Go.Shelf.Ren := ⟨fun | 171 => 24 | 243 => 56 | 246 => 117 | 283 => 171 | 284 => 172 | 285 => 173 | 286 => 174 | 129 => 230 | 317 => 229 | 318 => 231 | 319 => 232 | 320 => 233 | 337 => 304 | 338 => 305 | n => n, fun | 3 => 3 | 9 => 9 | 2 => 2 | 4 => 4 | 171 => 260 | 0 => 0 | 53 => 217 | 37 => 52 | 5 => 5 | 173 => 263 | 212 => 347 | 51 => 318 | 20 => 20 | 213 => 348 | 46 => 161 | 232 => 510 | 233 => 426 | n => n, fun | 17 => 0 | 18 => 4 | 19 => 5 | n => n⟩
theorem Tryz.lays171 : Go.Proofs.Lays.n171 Tryz.prog Tryz.lays171_ren := {
 mixed := by kernel_rfl
 f129 := Tryz.func230.trans (congrArg some (by kernel_rfl))
 f171 := Tryz.func24.trans (congrArg some (by kernel_rfl))
 f243 := Tryz.func56.trans (congrArg some (by kernel_rfl))
 f246 := Tryz.func117.trans (congrArg some (by kernel_rfl))
 f283 := Tryz.func171.trans (congrArg some (by kernel_rfl))
 f284 := Tryz.func172.trans (congrArg some (by kernel_rfl))
 f285 := Tryz.func173.trans (congrArg some (by kernel_rfl))
 f286 := Tryz.func174.trans (congrArg some (by kernel_rfl))
 f317 := Tryz.func229.trans (congrArg some (by kernel_rfl))
 f318 := Tryz.func231.trans (congrArg some (by kernel_rfl))
 f319 := Tryz.func232.trans (congrArg some (by kernel_rfl))
 f320 := Tryz.func233.trans (congrArg some (by kernel_rfl))
 f337 := Tryz.func304.trans (congrArg some (by kernel_rfl))
 f338 := Tryz.func305.trans (congrArg some (by kernel_rfl))
 t0 := Tryz.underlying0
 a0 := Tryz.isAgg0
 z0 := Tryz.sizeOf0
 v0 := Tryz.zeroValue0
 t2 := Tryz.underlying2
 a2 := Tryz.isAgg2
 z2 := Tryz.sizeOf2
 v2 := Tryz.zeroValue2
 t3 := Tryz.underlying3
 a3 := Tryz.isAgg3
 z3 := Tryz.sizeOf3
 v3 := Tryz.zeroValue3
 t4 := Tryz.underlying4
 a4 := Tryz.isAgg4
 z4 := Tryz.sizeOf4
 v4 := Tryz.zeroValue4
 t5 := Tryz.underlying5
 a5 := Tryz.isAgg5
 z5 := Tryz.sizeOf5
 v5 := Tryz.zeroValue5
 t9 := Tryz.underlying9
 a9 := Tryz.isAgg9
 z9 := Tryz.sizeOf9
 v9 := Tryz.zeroValue9
 t20 := Tryz.underlying20
 a20 := Tryz.isAgg20
 z20 := Tryz.sizeOf20
 v20 := Tryz.zeroValue20
 t37 := Tryz.underlying52
 a37 := Tryz.isAgg52
 z37 := Tryz.sizeOf52
 v37 := Tryz.zeroValue52
 t46 := Tryz.underlying161
 a46 := Tryz.isAgg161
 z46 := Tryz.sizeOf161
 v46 := Tryz.zeroValue161
 t51 := Tryz.underlying318
 a51 := Tryz.isAgg318
 z51 := Tryz.sizeOf318
 v51 := Tryz.zeroValue318
 t53 := Tryz.underlying217
 a53 := Tryz.isAgg217
 z53 := Tryz.sizeOf217
 v53 := Tryz.zeroValue217
 t171 := Tryz.underlying260
 a171 := Tryz.isAgg260
 z171 := Tryz.sizeOf260
 v171 := Tryz.zeroValue260
 t173 := Tryz.underlying263
 a173 := Tryz.isAgg263
 z173 := Tryz.sizeOf263
 v173 := Tryz.zeroValue263
 t212 := Tryz.underlying347
 a212 := Tryz.isAgg347
 z212 := Tryz.sizeOf347
 v212 := Tryz.zeroValue347
 t213 := Tryz.underlying348
 a213 := Tryz.isAgg348
 z213 := Tryz.sizeOf348
 t232 := Tryz.underlying510
 a232 := Tryz.isAgg510
 z232 := Tryz.sizeOf510
 v232 := Tryz.zeroValue510
 t233 := Tryz.underlying426
 a233 := Tryz.isAgg426
 z233 := Tryz.sizeOf426
 v233 := Tryz.zeroValue426
 g17 := by kernel_rfl
 g18 := by kernel_rfl
 g19 := by kernel_rfl }
end Go.Proofs
