/-
  The library's slices.Sorted(maps.Keys(m)) at this program: laid by the kit's tools lay-iter.mjs and lay-plain.mjs.
-/
import Derived.Test.YtiinfbjlkbjmmaaRows
import Derived.Shelf.SlIter.Nil
import Derived.Shelf.SortM.Plain
import Derived.Shelf.SortM.SortNone
import Derived.Ground.GgzProg
import Derived.Ground.SlgmProg
namespace Go.Proofs.Ytiinfbjlkbjmmaa
open Go.RowKit Go.Maps Go.Sort Go.Shelf
def Try.keys97_ren : Go.Shelf.Ren := ⟨fun | 7 => 97 | 10 => 120 | n => n, fun | 23 => 129 | 26 => 9 | 3 => 3 | 28 => 133 | 0 => 0 | 27 => 132 | 33 => 150 | 4 => 4 | n => n, fun | n => n⟩
set_option maxRecDepth 100000 in
theorem Try.keys97 : Go.Proofs.SlLaysZ.n7 Try.prog Try.keys97_ren := {
  mixed := by kernel_rfl
  f7 := ⟨Try.f97.name, by decide, Try.func97.trans (congrArg some (by kernel_rfl))⟩
  f10 := ⟨Try.f120.name, by decide, Try.func120.trans (congrArg some (by kernel_rfl))⟩
  t0 := Try.underlying0
  a0 := Try.isAgg0
  z0 := Try.sizeOf0
  v0 := Try.zeroValue0
  t4 := Try.underlying4
  a4 := Try.isAgg4
  z4 := Try.sizeOf4
  v4 := Try.zeroValue4
  t23 := Try.underlying129
  a23 := Try.isAgg129
  z23 := Try.sizeOf129
  v23 := Try.zeroValue129
  t26 := Try.underlying9
  a26 := Try.isAgg9
  z26 := Try.sizeOf9
  v26 := Try.zeroValue9
  t27 := Try.underlying132
  a27 := Try.isAgg132
  z27 := Try.sizeOf132
  v27 := Try.zeroValue132
  t28 := Try.underlying133
  a28 := Try.isAgg133
  z28 := Try.sizeOf133
  v28 := Try.zeroValue133
  t33 := Try.underlying150
  a33 := Try.isAgg150
  z33 := Try.sizeOf150
  v33 := Try.zeroValue150 }
def Try.sorted96_ren : Go.Shelf.Ren := ⟨fun | 6 => 96 | 8 => 118 | 9 => 119 | 11 => 127 | 13 => 129 | 12 => 128 | 23 => 139 | 24 => 140 | 14 => 130 | 15 => 131 | 16 => 132 | 17 => 133 | 18 => 134 | 19 => 135 | 20 => 136 | 21 => 137 | 22 => 138 | 25 => 141 | 26 => 142 | 27 => 143 | 28 => 144 | 29 => 145 | 30 => 146 | 31 => 147 | n => n, fun | 26 => 9 | 28 => 133 | 24 => 130 | 0 => 0 | 3 => 3 | 37 => 140 | 48 => 151 | 50 => 154 | 4 => 4 | 40 => 162 | 39 => 161 | 45 => 167 | 5 => 5 | 9 => 9 | 51 => 171 | 55 => 175 | 57 => 177 | 58 => 178 | 33 => 150 | n => n, fun | n => n⟩
set_option maxRecDepth 100000 in
theorem Try.sorted96 : Go.Proofs.SlLaysZ.n6 Try.prog Try.sorted96_ren := {
  mixed := by kernel_rfl
  f6 := ⟨Try.f96.name, by decide, Try.func96.trans (congrArg some (by kernel_rfl))⟩
  f8 := ⟨Try.f118.name, by decide, Try.func118.trans (congrArg some (by kernel_rfl))⟩
  f11 := ⟨Try.f127.name, by decide, Try.func127.trans (congrArg some (by kernel_rfl))⟩
  t0 := Try.underlying0
  a0 := Try.isAgg0
  z0 := Try.sizeOf0
  v0 := Try.zeroValue0
  t24 := Try.underlying130
  a24 := Try.isAgg130
  z24 := Try.sizeOf130
  v24 := Try.zeroValue130
  t26 := Try.underlying9
  a26 := Try.isAgg9
  z26 := Try.sizeOf9
  v26 := Try.zeroValue9
  t28 := Try.underlying133
  a28 := Try.isAgg133
  z28 := Try.sizeOf133
  v28 := Try.zeroValue133
  i26 := by kernel_rfl }
def Try.sort119_ren : Go.Shelf.Ren := ⟨fun | 6 => 119 | 8 => 129 | 9 => 128 | 19 => 139 | 20 => 140 | 21 => 130 | 22 => 131 | 23 => 132 | 24 => 133 | 25 => 134 | 26 => 135 | 27 => 136 | 28 => 137 | 29 => 138 | 36 => 141 | 31 => 142 | 32 => 143 | 37 => 144 | 38 => 145 | 39 => 146 | 41 => 147 | n => n, fun | 27 => 130 | 29 => 9 | 3 => 3 | 32 => 140 | 26 => 130 | 0 => 0 | 44 => 151 | 46 => 154 | 4 => 4 | 36 => 162 | 35 => 161 | 41 => 167 | 5 => 5 | 9 => 9 | 53 => 171 | 57 => 175 | 63 => 177 | 64 => 178 | n => n, fun | n => n⟩
set_option maxRecDepth 100000 in
theorem Try.sort119 : Go.Proofs.SlLaysM.n6 Try.prog Try.sort119_ren := {
  mixed := by kernel_rfl
  f6 := ⟨Try.f119.name, by decide, Try.func119.trans (congrArg some (by kernel_rfl))⟩
  f8 := Try.func129.trans (congrArg some (by kernel_rfl))
  f9 := ⟨Try.f128.name, by decide, Try.func128.trans (congrArg some (by kernel_rfl))⟩
  f19 := Try.func139.trans (congrArg some (by kernel_rfl))
  f20 := Try.func140.trans (congrArg some (by kernel_rfl))
  f21 := ⟨Try.f130.name, by decide, Try.func130.trans (congrArg some (by kernel_rfl))⟩
  f22 := ⟨Try.f131.name, by decide, Try.func131.trans (congrArg some (by kernel_rfl))⟩
  f23 := ⟨Try.f132.name, by decide, Try.func132.trans (congrArg some (by kernel_rfl))⟩
  f24 := ⟨Try.f133.name, by decide, Try.func133.trans (congrArg some (by kernel_rfl))⟩
  f25 := ⟨Try.f134.name, by decide, Try.func134.trans (congrArg some (by kernel_rfl))⟩
  f26 := ⟨Try.f135.name, by decide, Try.func135.trans (congrArg some (by kernel_rfl))⟩
  f27 := ⟨Try.f136.name, by decide, Try.func136.trans (congrArg some (by kernel_rfl))⟩
  f28 := ⟨Try.f137.name, by decide, Try.func137.trans (congrArg some (by kernel_rfl))⟩
  f29 := ⟨Try.f138.name, by decide, Try.func138.trans (congrArg some (by kernel_rfl))⟩
  f31 := Try.func142.trans (congrArg some (by kernel_rfl))
  f32 := Try.func143.trans (congrArg some (by kernel_rfl))
  f36 := ⟨Try.f141.name, by decide, Try.func141.trans (congrArg some (by kernel_rfl))⟩
  f37 := ⟨Try.f144.name, by decide, Try.func144.trans (congrArg some (by kernel_rfl))⟩
  f38 := ⟨Try.f145.name, by decide, Try.func145.trans (congrArg some (by kernel_rfl))⟩
  f39 := ⟨Try.f146.name, by decide, Try.func146.trans (congrArg some (by kernel_rfl))⟩
  f41 := ⟨Try.f147.name, by decide, Try.func147.trans (congrArg some (by kernel_rfl))⟩
  t0 := Try.underlying0
  a0 := Try.isAgg0
  z0 := Try.sizeOf0
  v0 := Try.zeroValue0
  t3 := Try.underlying3
  a3 := Try.isAgg3
  z3 := Try.sizeOf3
  v3 := Try.zeroValue3
  t4 := Try.underlying4
  a4 := Try.isAgg4
  z4 := Try.sizeOf4
  v4 := Try.zeroValue4
  t5 := Try.underlying5
  a5 := Try.isAgg5
  z5 := Try.sizeOf5
  v5 := Try.zeroValue5
  t9 := Try.underlying9
  a9 := Try.isAgg9
  z9 := Try.sizeOf9
  v9 := Try.zeroValue9
  t26 := Try.underlying130
  a26 := Try.isAgg130
  z26 := Try.sizeOf130
  v26 := Try.zeroValue130
  t27 := Try.underlying130
  a27 := Try.isAgg130
  z27 := Try.sizeOf130
  v27 := Try.zeroValue130
  t29 := Try.underlying9
  a29 := Try.isAgg9
  z29 := Try.sizeOf9
  v29 := Try.zeroValue9
  t32 := Try.underlying140
  a32 := Try.isAgg140
  z32 := Try.sizeOf140
  v32 := Try.zeroValue140
  t35 := Try.underlying161
  a35 := Try.isAgg161
  z35 := Try.sizeOf161
  v35 := Try.zeroValue161
  t36 := Try.underlying162
  a36 := Try.isAgg162
  z36 := Try.sizeOf162
  v36 := Try.zeroValue162
  t41 := Try.underlying167
  a41 := Try.isAgg167
  z41 := Try.sizeOf167
  v41 := Try.zeroValue167
  t44 := Try.underlying151
  a44 := Try.isAgg151
  z44 := Try.sizeOf151
  v44 := Try.zeroValue151
  t46 := Try.underlying154
  a46 := Try.isAgg154
  z46 := Try.sizeOf154
  v46 := Try.zeroValue154
  t53 := Try.underlying171
  a53 := Try.isAgg171
  z53 := Try.sizeOf171
  v53 := Try.zeroValue171
  t57 := Try.underlying175
  a57 := Try.isAgg175
  z57 := Try.sizeOf175
  v57 := Try.zeroValue175
  t63 := Try.underlying177
  a63 := Try.isAgg177
  z63 := Try.sizeOf177
  v63 := Try.zeroValue177
  t64 := Try.underlying178
  a64 := Try.isAgg178
  z64 := Try.sizeOf178
  v64 := Try.zeroValue178 }
set_option maxRecDepth 100000 in
theorem Try.sorts96 (m : Nat) : AnyZ.SortsIn Try.prog Try.sorted96_ren Fence.wide m :=
  ⟨fun blk off cap ss W hH hblk hsz => callsIn_wide.2 (AnyM.slices_Sort_string Try.sort119 blk off cap ss W hH hblk hsz),
   fun p cap W => callsIn_wide.2 (AnyM.slices_Sort_string_none Try.sort119 p cap W)⟩

set_option maxRecDepth 100000 in
theorem Try.maps_Keys_97 (mb : Option Nat) (W : World) : CallsIn Fence.wide 5 Try.prog 97 #[.map mb] W fun e w' => e = .returned (.func (.func 120) #[] #[.pointer (some ⟨W.heap.size, 0, none⟩)]) ∧ w' = W.alloc (.cells #[.map mb] 129) :=
  AnyZ.keys_in Try.keys97 Fence.wide 5 trivial rfl mb W

set_option maxRecDepth 100000 in
set_option maxHeartbeats 1000000 in
theorem Try.slices_Sorted_keys_96_97 {H : Type} (b nn : Nat) (D0 : DataW H) (R : Value → Option (DataW H × List MemPlace)) (w : World) (hown : w.ownsMap Try.prog 9 R b nn D0) (hmax : Maps.size D0 ≤ maxLen) (hbytes : Maps.size D0 * 16 ≤ 140737488355328) :
    CallsIn Fence.wide 5 Try.prog 96 #[.func (.func 120) #[] #[.pointer (some ⟨w.heap.size, 0, none⟩)]] (w.alloc (.cells #[.map (some b)] 129)) fun e w' => ∃ (v : Value) (ss : List (List UInt8)), e = .returned v ∧ ss.Perm (strKeys D0) ∧
      w'.ownsRow (w.alloc (.cells #[.map (some b)] 129)).heap.size 9 1 v ss.length ((ss.mergeSort (fun x y => decide (x ≤ y))).map encStr) ∧ (v = .slice none 0 0 ↔ ss = []) ∧ Below (w.alloc (.cells #[.map (some b)] 129)).heap.size (w.alloc (.cells #[.map (some b)] 129)) w' := by
  have hbl := hown.lt
  have hseq : SeqGives Fence.wide 2 Try.prog 120 #[.pointer (some ⟨w.heap.size, 0, none⟩)] encStr (fun ss => ss.Perm (strKeys D0)) (Maps.size D0) (w.alloc (.cells #[.map (some b)] 129)) :=
    AnyZ.keys_gives (ρ := Try.keys97_ren) { Try.keys97 with } Fence.wide _ trivial rfl (by omega) w.heap.size b nn D0 _ (by simp) (by simp) (by
      obtain ⟨es, clock, hb, Ft, hs, hD⟩ := hown
      exact ⟨es, clock, (Below.heap_alloc _ _ b hbl).trans hb, Ft, hs, hD⟩)
  exact AnyZ.sorted_in Try.sorted96 Fence.wide 5 trivial trivial trivial trivial rfl (by omega) (Try.sorts96 _) (enters_of Try.func119 (by kernel_rfl) rfl) 120 #[.pointer (some ⟨w.heap.size, 0, none⟩)] trivial (enters_of Try.func120 (by kernel_rfl) rfl) _ _ hmax hbytes _ hseq

end Go.Proofs.Ytiinfbjlkbjmmaa
