/-
  Acts of the laws; three nodes, two groups, acts done.
  Messages, acts of the laws, newly laid.
-/
import Derived.Test.YtnalakhelicjcaaGreatYKD
import Derived.Test.YtnalakhelicjcaaGreatYKG
set_option maxRecDepth 100000
namespace Go.Proofs.YtnalakhelicjcaaGreat
open Go.RowKit Go.Shelf Go.BigFrame
theorem act_c (w:World) (k a b:Int) (s:ByteArray):Calls Tryz.prog 34 #[.int .i64 k, .int .i64 a, .int .i64 b, .string s] w (GivesB (Ac.val ⟨k,a,b,s⟩) w):=by
 go_enter Tryz.func34,Tryz.ntmps34
 go_wp2_with fail
 refine bodyPost_ret (v:=Ac.val ⟨k,a,b,s⟩) ?_ rfl ⟨rfl,below_a1 _ _⟩
 simp [results,Tryz.f34,Ac.val]
 go_simp
theorem Acts.lit (w:World) (l:List Ac) (hf:∀ x ∈ l,x.fits) (hl:l.length * 32 ≤ 140737488351232) (cs:Array Value) (hcs:cs.toList = l.flatMap Ac.cells) :
  Acts (w.alloc (.cells cs 23)) (.slice (some ⟨w.heap.size,0,none⟩) l.length l.length) l:=by
 have hfl:∀ l:List Ac,(l.map Ac.cells).flatten = l.flatMap Ac.cells:=fun l=>by simp [List.flatMap]
 have hln:(l.flatMap Ac.cells).length = l.length * 4:=by
  clear hf hl hcs
  induction l with
  | nil=>rfl
  | cons a l ih=>rw [List.flatMap_cons,List.length_append,ih];simp [Ac.cells];omega
 refine ⟨l.map Ac.cells,by simp,fun c hc=>?_,⟨by rw [hfl,hln],by rw [hfl,hln];omega,_,_,rfl,Nat.le_refl _,fun _=>⟨w.heap.size,0,rfl,fun k hk=>?_⟩⟩,fun i h1 h2=>?_⟩
 ·obtain ⟨x,_,rfl⟩:=List.mem_map.1 hc
  rfl
 ·rw [hfl] at hk ⊢
  rw [Nat.zero_add,cell_of_row _ w.heap.size k cs 23 (0,0) (heap_alloc_new w _)]
  rw [← hcs] at hk ⊢
  simp at hk
  simp [hk]
 ·simp only [List.getElem_map]
  exact ⟨rfl,hf _ (List.getElem_mem _)⟩
end Go.Proofs.YtnalakhelicjcaaGreat
set_option maxRecDepth 100000
namespace Go.Proofs.YtnalakhelicjcaaGreat
open Go.RowKit Go.Shelf Go.BigFrame
theorem Acts.nil (w:World):Acts w (.slice none 0 0) []:=⟨[],rfl,by simp,⟨by simp,by simp,none,0,rfl,Nat.le_refl _,fun h=>absurd rfl h⟩,fun i h=>absurd h (Nat.not_lt_zero _)⟩
theorem Msgs.lit (w:World) (ms:List M) (hf:∀ m ∈ ms,m.fits) (hl:ms.length ≤ 100) (cs:Array Value) (hc:cs = (ms.flatMap M.cells).toArray) :
  Msgs (w.alloc (.cells cs 62)) (.slice (some ⟨w.heap.size,0,none⟩) ms.length ms.length) ms:=by
 subst hc
 have h:=World.ownsRow_lit (base:=0) (e:=62) (size:=5) w (ms.flatMap M.cells).toArray ms.length (Nat.zero_le _) (by unfold maxLen;omega) (by rw [List.size_toArray,flat_len])
 exact MsgsOwn.msgs ⟨hf,by simpa using h⟩ (by omega)
theorem say_c (w:World) (a g s:Int) (b:ByteArray):Calls Tryz.prog 49 #[.int .i64 a, .int .i64 g, .int .i64 s, .string b] w (GivesB (M.val ⟨a,g,s,false,b⟩) w):=by
 go_enter Tryz.func49,Tryz.ntmps49
 go_wp2_with fail
 refine bodyPost_ret (v:=M.val ⟨a,g,s,false,b⟩) ?_ rfl ⟨rfl,below_a1 _ _⟩
 simp [results,Tryz.f49,M.val]
 go_simp
end Go.Proofs.YtnalakhelicjcaaGreat
