/- The chapter's functions, walked by the abstract machine: plain lemmas, no condition. Printed by a program from longer texts: names made short. -/
import Derived.Test.YtkehcalakofigaaGreatDoorM5
import Derived.Test.YtkehcalakofigaaGreatDoorM3
import Derived.Test.YtkehcalakofigaaGreatDoorM4
import Derived.Shelf.Strings.Search3
import Derived.Shelf.SlIter.Nil
import Derived.Shelf.SortM.Plain
import Derived.Shelf.SortM.SortNone
import Derived.MakeChecks
import Derived.Shelf.Vars
import Derived.Lay
import Derived.LaidLaws
import Derived.Lib.LaidTab
import Derived.Lib.LaidU8T
import Derived.Test.YtkehcalakofigaaGreatDoorRows
set_option linter.unusedSectionVars false
set_option linter.unusedSimpArgs false
set_option linter.unusedVariables false
namespace Go.Proofs.YtkehcalakofigaaGreatDoor
open Go aY
inductive bc where
 | mk (k n a:Int) (s:List UInt8) (l:List bc)
namespace bc
def k:bc→Int | mk k _ _ _ _=>k
def n:bc→Int | mk _ n _ _ _=>n
def a:bc→Int | mk _ _ a _ _=>a
def s:bc→List UInt8 | mk _ _ _ s _=>s
def l:bc→List bc | mk _ _ _ _ l=>l
end bc
mutual
def bc.size:bc→Nat
 | .mk _ _ _ _ l=>1+fa l
def fa:List bc→Nat
 | []=>0
 | t::l=>t.size+fa l
end
theorem rR {t:bc}:∀{l:List bc},t ∈ l→t.size≤fa l
 | [],h=>by cases h
 | u::l,h=>by
   simp only [fa]
   rcases List.mem_cons.1 h with rfl | h
   · omega
   · have:=rR h;omega
theorem tT {t u:bc} (h:u ∈ t.l):u.size<t.size:=by
 cases t with
 | mk k n a s l=>have:=rR h;simp only [bc.size];simp only [bc.l] at this;omega
theorem zA:∀l:List bc,l.length≤fa l
 | []=>Nat.le_refl _
 | t::l=>by have:=zA l;have:1≤t.size:=by (cases t;simp only [bc.size];omega)
            simp only [fa,List.length_cons];omega
theorem tU (t:bc):1≤t.size:=by cases t;simp only [bc.size];omega
mutual
def bc.enc:bc→List D
 | .mk k n a s l=>[.i .i64 k,.i .i64 n,.i .i64 a,.s s,.l 5 (zw l)]
def zw:List bc→List (List D)
 | []=>[]
 | t::l=>t.enc::zw l
end
theorem K_:∀l:List bc,zw l=l.map bc.enc
 | []=>rfl
 | t::l=>by rw [zw,K_ l,List.map_cons]
theorem wB (t:bc):t.enc=[.i .i64 t.k,.i .i64 t.n,.i .i64 t.a,.s t.s,.l 5 (t.l.map bc.enc)]:=by
 cases t with
 | mk k n a s l=>simp only [bc.enc,K_,bc.k,bc.n,bc.a,bc.s,bc.l]
mutual
def bc.pre:bc→List bc
 | .mk k n a s l=>.mk k n a s l::kt l
def kt:List bc→List bc
 | []=>[]
 | t::l=>t.pre++kt l
end
theorem Z5 (t:bc):t.pre=t::kt t.l:=by cases t;simp only [bc.pre,bc.l]
theorem Ll:∀l m:List bc,kt (l++m)=kt l++kt m
 | [],m=>rfl
 | t::l,m=>by rw [List.cons_append,kt,kt,Ll l m,List.append_assoc]
mutual
theorem Lj:∀t:bc,t.pre.length=t.size
 | .mk k n a s l=>by rw [bc.pre,bc.size,List.length_cons,Lm l,Nat.add_comm]
theorem Lm:∀l:List bc,(kt l).length=fa l
 | []=>rfl
 | t::l=>by rw [kt,fa,List.length_append,Lj t,Lm l]
end
mutual
def bc.deep:bc→Nat
 | .mk _ _ _ _ l=>fX l+1
def fX:List bc→Nat
 | []=>0
 | t::l=>max t.deep (fX l)
end
section
variable {F:aN→Prop} {h:ae} [Lay]
theorem bc.open {t:bc} {ab:List V} (H:cl F h t.enc ab):∃dA,ab=[.int .i64 t.k,.int .i64 t.n,.int .i64 t.a,.str t.s,dA]∧cM F h 5 (t.l.map bc.enc) dA∧t.s.length≤top:=by
 rw [wB] at H
 obtain ⟨_,rfl,H1⟩:=H.int
 obtain ⟨_,rfl,cR⟩:=H1.int
 obtain ⟨_,rfl,As⟩:=cR.int
 obtain ⟨_,rfl,aR,Au⟩:=As.str
 obtain ⟨dA,_,rfl,L,Av⟩:=Au.gD
 obtain rfl:=Av.no
 exact ⟨dA,rfl,L,aR⟩
theorem bc.tx {l:List bc} {v:V} (H:cM F h 5 (l.map bc.enc) v) {k:IntKind} {i:Nat} (aC:i<l.length):
 ∃b off dA,jd 5 v (.int k i)=some (.ptr b (off+i * 5))∧cl F h l[i].enc [.int .i64 l[i].k,.int .i64 l[i].n,.int .i64 l[i].a,.str l[i].s,dA]∧cM F h 5 (l[i].l.map bc.enc) dA∧
  ∀aa,Ext h aa→lB 5 (aa.get b) (off+i * 5)=some (.agg [.int .i64 l[i].k,.int .i64 l[i].n,.int .i64 l[i].a,.str l[i].s,dA]):=by
 obtain ⟨b,off,u,aF,aM,cm,gH,_⟩:=H.at (k:=k) (i:=i) (by rw [List.length_map];exact aC)
 rw [List.getElem_map] at aM
 obtain ⟨dA,rfl,L,_⟩:=bc.open aM
 exact ⟨b,off,dA,aF,aM,L,gH⟩
end
end Go.Proofs.YtkehcalakofigaaGreatDoor
namespace Go.Proofs.YtkehcalakofigaaGreatDoor
open Go aY Go.RowKit
theorem uR {w:World} {p:Addr} {v:Value} (h:w.cell? p=some v):p.block<w.heap.size:=by
 unfold World.cell? at h
 by_cases q:p.block<w.heap.size
 · exact q
 · rw [Array.getElem?_eq_none (by omega)] at h
   cases h
def sa (w:World) (g:Nat):Prop:=∃aU,w.cell? ⟨g,0,none⟩=some aU∧(aU=.nilIface∨∃abI K',aU=.iface abI K')
theorem sa.fH {w ak:World} {g:Nat} (h:sa w g) (af:Below w.heap.size w ak):sa ak g:=by
 obtain ⟨aU,U,ad⟩:=h
 exact ⟨aU,by rw [af.cell (uR U)];exact U,ad⟩
structure AO (w:World):Prop where
 MH:Lib.Utf8Tabs 0 1 w
 maxLen:∃m,w.cell? ⟨2,0,none⟩=some (.int .i64 m)
 HT:sa w 4
noncomputable instance lay:Lay where
 ok w:=AO w
 fH:=by
  intro w ak h af
  refine ⟨?_,?_,h.HT.fH af⟩
  · obtain ⟨U,ad⟩:=h.MH
    refine ⟨fun c aq=>?_,fun i aC=>?_⟩
    · rw [af.cell (uR (U c aq))]
      exact U c aq
    · obtain ⟨ai,ay⟩:=ad i aC
      rw [af.cell (uR ai),af.cell (uR ay)]
      exact ⟨ai,ay⟩
  · obtain ⟨m,q⟩:=h.maxLen
    exact ⟨m,by rw [af.cell (uR q)];exact q⟩
section
open Go.Shelf
def Tryz.X8:Go.Shelf.Ren:=⟨fun | 144=>120 | 143=>124 | 219=>132 | 217=>103 | 225=>137 | 224=>138 | 267=>139 | 266=>114 | 314=>141 | n=>n,fun | 9=>9 | 4=>4 | 3=>3 | 5=>5 | 46=>80 | 146=>98 | 51=>97 | n=>n,fun | 1=>2 | n=>n⟩
theorem Tryz.X7:Go.Proofs.Lays.n144 Tryz.prog Tryz.X8:={
 mixed:=by kernel_rfl,
 f143:=Tryz.func124.trans (congrArg some (by kernel_rfl)),
 f144:=Tryz.func120.trans (congrArg some (by kernel_rfl)),
 f217:=Tryz.func103.trans (congrArg some (by kernel_rfl)),
 f219:=Tryz.func132.trans (congrArg some (by kernel_rfl)),
 f224:=Tryz.func138.trans (congrArg some (by kernel_rfl)),
 f225:=Tryz.func137.trans (congrArg some (by kernel_rfl)),
 f266:=Tryz.func114.trans (congrArg some (by kernel_rfl)),
 f267:=Tryz.func139.trans (congrArg some (by kernel_rfl)),
 f314:=Tryz.func141.trans (congrArg some (by kernel_rfl)),
 t3:=Tryz.underlying3,
 a3:=Tryz.isAgg3,
 z3:=Tryz.sizeOf3,
 v3:=Tryz.zeroValue3,
 t4:=Tryz.underlying4,
 a4:=Tryz.isAgg4,
 z4:=Tryz.sizeOf4,
 v4:=Tryz.zeroValue4,
 t5:=Tryz.underlying5,
 a5:=Tryz.isAgg5,
 z5:=Tryz.sizeOf5,
 v5:=Tryz.zeroValue5,
 t9:=Tryz.underlying9,
 a9:=Tryz.isAgg9,
 z9:=Tryz.sizeOf9,
 v9:=Tryz.zeroValue9,
 t46:=Tryz.underlying80,
 a46:=Tryz.isAgg80,
 z46:=Tryz.sizeOf80,
 v46:=Tryz.zeroValue80,
 t51:=Tryz.underlying97,
 a51:=Tryz.isAgg97,
 z51:=Tryz.sizeOf97,
 v51:=Tryz.zeroValue97,
 t146:=Tryz.underlying98,
 a146:=Tryz.isAgg98,
 z146:=Tryz.sizeOf98,
 v146:=Tryz.zeroValue98,
 g1:=by kernel_rfl}
def Tryz.JZ:Go.Shelf.Ren:=⟨fun | 7=>44 | 10=>58 | n=>n,fun | 23=>55 | 26=>9 | 3=>4 | 28=>60 | 0=>0 | 27=>59 | 33=>75 | 4=>4 | n=>n,fun | n=>n⟩
theorem Tryz.Xe:Go.Proofs.SlLaysZ.n7 Tryz.prog Tryz.JZ where
 mixed:=by kernel_rfl
 f7:=⟨"maps.Keys[map[string]bool,string,bool]",by decide,Tryz.func44.trans (congrArg some (by kernel_rfl))⟩
 f10:=⟨"maps.Keys[map[string]bool,string,bool]$1",by decide,Tryz.func58.trans (congrArg some (by kernel_rfl))⟩
 t0:=Tryz.underlying0
 a0:=Tryz.isAgg0
 z0:=Tryz.sizeOf0
 v0:=Tryz.zeroValue0
 t4:=Tryz.underlying4
 a4:=Tryz.isAgg4
 z4:=Tryz.sizeOf4
 v4:=Tryz.zeroValue4
 t23:=Tryz.underlying55
 a23:=Tryz.isAgg55
 z23:=Tryz.sizeOf55
 v23:=Tryz.zeroValue55
 t26:=Tryz.underlying9
 a26:=Tryz.isAgg9
 z26:=Tryz.sizeOf9
 v26:=Tryz.zeroValue9
 t27:=Tryz.underlying59
 a27:=Tryz.isAgg59
 z27:=Tryz.sizeOf59
 v27:=Tryz.zeroValue59
 t28:=Tryz.underlying60
 a28:=Tryz.isAgg60
 z28:=Tryz.sizeOf60
 v28:=Tryz.zeroValue60
 t33:=Tryz.underlying75
 a33:=Tryz.isAgg75
 z33:=Tryz.sizeOf75
 v33:=Tryz.zeroValue75
def Tryz.Mc:Go.Shelf.Ren:=⟨fun | 6=>43 | 8=>56 | 9=>57 | 11=>68 | 13=>70 | 12=>69 | 23=>89 | 24=>90 | 14=>80 | 15=>81 | 16=>82 | 17=>83 | 18=>84 | 19=>85 | 20=>86 | 21=>87 | 22=>88 | 25=>96 | 26=>97 | 27=>98 | 28=>99 | 29=>100 | 30=>101 | 31=>112 | n=>n,fun | 26=>9 | 28=>60 | 24=>39 | 0=>0 | 3=>3 | 37=>80 | 48=>97 | 50=>100 | 4=>4 | 40=>107 | 39=>106 | 45=>112 | 5=>5 | 9=>9 | 51=>122 | 55=>126 | 57=>131 | 58=>132 | 33=>75 | n=>n,fun | n=>n⟩
theorem Tryz.abh:Go.Proofs.SlLaysZ.n6 Tryz.prog Tryz.Mc where
 mixed:=by kernel_rfl
 f6:=⟨"slices.Sorted[string]",by decide,Tryz.func43.trans (congrArg some (by kernel_rfl))⟩
 f8:=⟨"slices.Collect[string]",by decide,Tryz.func56.trans (congrArg some (by kernel_rfl))⟩
 f11:=⟨"slices.AppendSeq[[]string,string]",by decide,Tryz.func68.trans (congrArg some (by kernel_rfl))⟩
 t0:=Tryz.underlying0
 a0:=Tryz.isAgg0
 z0:=Tryz.sizeOf0
 v0:=Tryz.zeroValue0
 t24:=Tryz.underlying39
 a24:=Tryz.isAgg39
 z24:=Tryz.sizeOf39
 v24:=Tryz.zeroValue39
 t26:=Tryz.underlying9
 a26:=Tryz.isAgg9
 z26:=Tryz.sizeOf9
 v26:=Tryz.zeroValue9
 t28:=Tryz.underlying60
 a28:=Tryz.isAgg60
 z28:=Tryz.sizeOf60
 v28:=Tryz.zeroValue60
 i26:=by kernel_rfl
def Tryz.abg:Go.Shelf.Ren:=⟨fun | 6=>57 | 8=>70 | 9=>69 | 19=>89 | 20=>90 | 21=>80 | 22=>81 | 23=>82 | 24=>83 | 25=>84 | 26=>85 | 27=>86 | 28=>87 | 29=>88 | 36=>96 | 31=>97 | 32=>98 | 37=>99 | 38=>100 | 39=>101 | 41=>112 | n=>n,fun | 27=>39 | 29=>9 | 3=>3 | 32=>80 | 26=>39 | 0=>0 | 44=>97 | 46=>100 | 4=>4 | 36=>107 | 35=>106 | 41=>112 | 5=>5 | 9=>9 | 53=>122 | 57=>126 | 63=>131 | 64=>132 | n=>n,fun | n=>n⟩
theorem Tryz.Mb:Go.Proofs.SlLaysM.n6 Tryz.prog Tryz.abg where
 mixed:=by kernel_rfl
 f6:=⟨"slices.Sort[[]string,string]",by decide,Tryz.func57.trans (congrArg some (by kernel_rfl))⟩
 f8:=Tryz.func70.trans (congrArg some (by kernel_rfl))
 f9:=⟨"slices.pdqsortOrdered[string]",by decide,Tryz.func69.trans (congrArg some (by kernel_rfl))⟩
 f19:=Tryz.func89.trans (congrArg some (by kernel_rfl))
 f20:=Tryz.func90.trans (congrArg some (by kernel_rfl))
 f21:=⟨"slices.insertionSortOrdered[string]",by decide,Tryz.func80.trans (congrArg some (by kernel_rfl))⟩
 f22:=⟨"slices.heapSortOrdered[string]",by decide,Tryz.func81.trans (congrArg some (by kernel_rfl))⟩
 f23:=⟨"slices.breakPatternsOrdered[string]",by decide,Tryz.func82.trans (congrArg some (by kernel_rfl))⟩
 f24:=⟨"slices.choosePivotOrdered[string]",by decide,Tryz.func83.trans (congrArg some (by kernel_rfl))⟩
 f25:=⟨"slices.reverseRangeOrdered[string]",by decide,Tryz.func84.trans (congrArg some (by kernel_rfl))⟩
 f26:=⟨"slices.partialInsertionSortOrdered[string]",by decide,Tryz.func85.trans (congrArg some (by kernel_rfl))⟩
 f27:=⟨"cmp.Less[string]",by decide,Tryz.func86.trans (congrArg some (by kernel_rfl))⟩
 f28:=⟨"slices.partitionEqualOrdered[string]",by decide,Tryz.func87.trans (congrArg some (by kernel_rfl))⟩
 f29:=⟨"slices.partitionOrdered[string]",by decide,Tryz.func88.trans (congrArg some (by kernel_rfl))⟩
 f31:=Tryz.func97.trans (congrArg some (by kernel_rfl))
 f32:=Tryz.func98.trans (congrArg some (by kernel_rfl))
 f36:=⟨"slices.siftDownOrdered[string]",by decide,Tryz.func96.trans (congrArg some (by kernel_rfl))⟩
 f37:=⟨"slices.medianAdjacentOrdered[string]",by decide,Tryz.func99.trans (congrArg some (by kernel_rfl))⟩
 f38:=⟨"slices.medianOrdered[string]",by decide,Tryz.func100.trans (congrArg some (by kernel_rfl))⟩
 f39:=⟨"cmp.isNaN[string]",by decide,Tryz.func101.trans (congrArg some (by kernel_rfl))⟩
 f41:=⟨"slices.order2Ordered[string]",by decide,Tryz.func112.trans (congrArg some (by kernel_rfl))⟩
 t0:=Tryz.underlying0
 a0:=Tryz.isAgg0
 z0:=Tryz.sizeOf0
 v0:=Tryz.zeroValue0
 t3:=Tryz.underlying3
 a3:=Tryz.isAgg3
 z3:=Tryz.sizeOf3
 v3:=Tryz.zeroValue3
 t4:=Tryz.underlying4
 a4:=Tryz.isAgg4
 z4:=Tryz.sizeOf4
 v4:=Tryz.zeroValue4
 t5:=Tryz.underlying5
 a5:=Tryz.isAgg5
 z5:=Tryz.sizeOf5
 v5:=Tryz.zeroValue5
 t9:=Tryz.underlying9
 a9:=Tryz.isAgg9
 z9:=Tryz.sizeOf9
 v9:=Tryz.zeroValue9
 t26:=Tryz.underlying39
 a26:=Tryz.isAgg39
 z26:=Tryz.sizeOf39
 v26:=Tryz.zeroValue39
 t27:=Tryz.underlying39
 a27:=Tryz.isAgg39
 z27:=Tryz.sizeOf39
 v27:=Tryz.zeroValue39
 t29:=Tryz.underlying9
 a29:=Tryz.isAgg9
 z29:=Tryz.sizeOf9
 v29:=Tryz.zeroValue9
 t32:=Tryz.underlying80
 a32:=Tryz.isAgg80
 z32:=Tryz.sizeOf80
 v32:=Tryz.zeroValue80
 t35:=Tryz.underlying106
 a35:=Tryz.isAgg106
 z35:=Tryz.sizeOf106
 v35:=Tryz.zeroValue106
 t36:=Tryz.underlying107
 a36:=Tryz.isAgg107
 z36:=Tryz.sizeOf107
 v36:=Tryz.zeroValue107
 t41:=Tryz.underlying112
 a41:=Tryz.isAgg112
 z41:=Tryz.sizeOf112
 v41:=Tryz.zeroValue112
 t44:=Tryz.underlying97
 a44:=Tryz.isAgg97
 z44:=Tryz.sizeOf97
 v44:=Tryz.zeroValue97
 t46:=Tryz.underlying100
 a46:=Tryz.isAgg100
 z46:=Tryz.sizeOf100
 v46:=Tryz.zeroValue100
 t53:=Tryz.underlying122
 a53:=Tryz.isAgg122
 z53:=Tryz.sizeOf122
 v53:=Tryz.zeroValue122
 t57:=Tryz.underlying126
 a57:=Tryz.isAgg126
 z57:=Tryz.sizeOf126
 v57:=Tryz.zeroValue126
 t63:=Tryz.underlying131
 a63:=Tryz.isAgg131
 z63:=Tryz.sizeOf131
 v63:=Tryz.zeroValue131
 t64:=Tryz.underlying132
 a64:=Tryz.isAgg132
 z64:=Tryz.sizeOf132
 v64:=Tryz.zeroValue132
theorem Hf (s sub:ByteArray) (m:Int) (w:World) (aR:s.size<4294967281) (hm:w.cell? ⟨2,0,none⟩=some (.int .i64 m)):
 Calls Tryz.prog 120 #[.string s,.string sub] w fun e ak=>e=.returned (.bool (Lib.contains s.data.toList sub.data.toList))∧ak=w:=Any.strings_Contains Tryz.X7 s sub m w aR hm
end
section
open Go.RowKit Go.Maps Go.Sort Go.Shelf
theorem abk (m:Nat):AnyZ.SortsIn Tryz.prog Tryz.Mc Fence.wide m:=
 ⟨fun bd off cap eL W iA iC b4=>callsIn_wide.2 (AnyM.slices_Sort_string Tryz.Mb bd off cap eL W iA iC b4),
  fun p cap W=>callsIn_wide.2 (AnyM.slices_Sort_string_none Tryz.Mb p cap W)⟩
theorem abi:aY.Gd Tryz.prog 43 58 9:=by
 intro qk b Ez o8 R w Tz q1 fF s' TX
 have Vb:SeqGives Fence.wide 2 Tryz.prog 58 #[.pointer (some ⟨qk,0,none⟩)] encStr (fun eL=>eL.Perm (strKeys o8)) (Maps.size o8) w:=
  AnyZ.keys_gives (ρ:=Tryz.JZ) {Tryz.Xe with} Fence.wide _ trivial rfl (by omega) qk b Ez o8 w Tz q1 fF
 have B1:=AnyZ.sorted_in Tryz.abh Fence.wide 5 trivial trivial trivial trivial rfl (by omega) (abk _) (enters_of Tryz.func57 (by kernel_rfl) rfl) 58 #[.pointer (some ⟨qk,0,none⟩)] trivial (enters_of Tryz.func58 (by kernel_rfl) rfl) _ _ s' TX _ Vb
 change CallsIn _ _ Tryz.prog 43 _ _ _ at B1
 exact callsIn_wide.1 (B1.mono fun e ak q=>by
  obtain ⟨v,eL,rfl,ft,DL,ml,af⟩:=q
  exact ⟨v,eL,rfl,ft,DL,ml,af⟩)
end
noncomputable def ctx:Ctx:=⟨Tryz.prog,fun f=>bif Nat.beq f 120 then some B8 else bif Nat.beq f 43 then some (Fo 58) else none,fun f=>bif Nat.beq f 114 then some yS else none⟩
theorem follows:Tryz.prog.follows .mixedOrders=true:=by kernel_rfl
theorem names:(Tryz.prog.funcs.toList.all fun fn=>!(fn.name == "runtime.NumGoroutine"))=true:=by kernel_rfl
theorem c_:dJ Tryz.prog:=by
 intro f fn h
 have:=List.all_eq_true.1 names fn (List.mem_of_getElem? (i:=f) (by simpa using h))
 simpa using this
theorem EY:lT ctx:=by
 refine ⟨fun f p args h v aa ag he=>?_,fun f p args h v aa ag he au E w xs ao s=>?_⟩
 · simp only [ctx,fM] at ag
   by_cases ax:f=120
   · rw [if_pos ax] at ag
     cases ag
     subst ax
     obtain ⟨s,sub,rfl,aR,rfl,rfl⟩:=RF he
     refine ⟨⟨_,Tryz.func120,by kernel_rfl⟩,XZ fun E xs w aj ao=>?_⟩
     obtain ⟨y,bZ,rfl,ai,z,im,rfl,ay,rfl⟩:=ao
     simp only [Rel] at ai ay
     subst ai ay
     obtain ⟨m,hm⟩:=aj.maxLen
     refine (Hf ⟨⟨s⟩⟩ ⟨⟨sub⟩⟩ m w (by show s.length<4294967281;omega) hm).mono fun e ak q=>?_
     obtain ⟨rfl,rfl⟩:=q
     exact ⟨_,rfl,by simp only [Rel],Below.refl _ _⟩
   · rw [if_neg ax] at ag
     by_cases ax:f=43
     · rw [if_pos ax] at ag
       cases ag
       subst ax
       exact ⟨⟨_,Tryz.func43,by kernel_rfl⟩,fun au E w xs ao s=>abj (by decide) Tryz.underlying9 abi he au E w xs ao s⟩
     · rw [if_neg ax] at ag;cases ag
 · simp only [ctx,fM] at ag
   by_cases ax:f=114
   · rw [if_pos ax] at ag
     cases ag
     subst ax
     exact VW (P:=Tryz.prog) Tryz.func114 (by kernel_rfl) (by kernel_rfl) (by kernel_rfl) (by kernel_rfl) he au E w xs ao s
   · rw [if_neg ax] at ag;cases ag
end Go.Proofs.YtkehcalakofigaaGreatDoor
namespace Go.Proofs.YtkehcalakofigaaGreatDoor
open Go aY
abbrev ah (d ba:Nat):br:=⟨some d,.dc (.t ba),none,[ba]⟩
abbrev bU (d ba:Nat):br:=⟨some d,.fU (.t ba),none,[ba]⟩
abbrev c6 (d ba:Nat):br:=⟨some d,.pX (.t ba),none,[ba]⟩
abbrev da (d ba bu:Nat):br:=⟨some d,.dc (.t ba),(some (bu,true)),[ba,bu]⟩
abbrev dF (d:Nat):br:=⟨some d,.dc (.c (.bool false)),none,[]⟩
abbrev dC (d ba bu:Nat):br:=⟨some d,.pick (.t ba) (.t bu) (.c (.bool false)),none,[ba,bu]⟩
abbrev dO (d ba:Nat):br:=⟨some d,.fs 1 (.t ba),none,[ba]⟩
abbrev eu (d ba:Nat):br:=⟨some d,.hT 5 (.t ba),none,[ba]⟩
abbrev ev (d:Nat):br:=⟨some d,.dc (.c (.int .i64 0)),none,[]⟩
abbrev eG (d ba bu:Nat):br:=⟨some d,.pick (.t ba) (.c (.bool true)) (.t bu),none,[ba,bu]⟩
abbrev e8 (d ba:Nat):br:=⟨some d,.bin (.int .add) (.t ba) (.c (.int .i64 1)),none,[ba]⟩
abbrev ff (d ba:Nat):br:=⟨some d,.len .slice (.t ba),none,[ba]⟩
abbrev fL (d ba bu:Nat):br:=⟨some d,.dc (.t ba),(some (bu,false)),[ba,bu]⟩
abbrev gq (d ba:Nat):br:=⟨some d,.fs 0 (.t ba),none,[ba]⟩
abbrev gG (d ba bu:Nat):br:=⟨some d,.bin (.int .lss) (.t ba) (.t bu),none,[ba,bu]⟩
abbrev ir (d ba:Nat):br:=⟨some d,.box (.t ba),none,[ba]⟩
abbrev iS (d ba bu:Nat):br:=⟨some d,.hT 5 (.t ba),(some (bu,false)),[ba,bu]⟩
abbrev iT (d ba:Nat):br:=⟨some d,.len .str (.t ba),none,[ba]⟩
abbrev jt (d ba bu:Nat):br:=⟨some d,.fU (.t ba),(some (bu,true)),[ba,bu]⟩
abbrev jY (d ba bu:Nat):br:=⟨some d,.dy 5 (.t ba) (.t bu),none,[ba,bu]⟩
abbrev jZ (d ba bu:Nat):br:=⟨some d,.hT 5 (.t ba),(some (bu,true)),[ba,bu]⟩
abbrev j0 (d:Nat):br:=⟨some d,.dc (.c .cq),none,[]⟩
abbrev kA (d ba bu:Nat):br:=⟨some d,.fU (.t ba),(some (bu,false)),[ba,bu]⟩
abbrev kB (d ba:Nat):br:=⟨some d,.fs 2 (.t ba),none,[ba]⟩
abbrev k6 (d ba:Nat):br:=⟨some d,.fs 4 (.t ba),none,[ba]⟩
abbrev lR (d ba bu:Nat):br:=⟨some d,.dy 1 (.t ba) (.t bu),none,[ba,bu]⟩
abbrev nK (d ba:Nat):br:=⟨some d,.un .not (.t ba),none,[ba]⟩
abbrev o' (d:Nat):br:=⟨some d,.new [(.int .i64 0),(.int .i64 0),(.int .i64 0),(.str []),.cq],none,[]⟩
abbrev o_ (d ba bu:Nat):br:=⟨some d,.un .not (.t ba),(some (bu,false)),[ba,bu]⟩
abbrev pa (d ba:Nat):br:=⟨some d,.ext (.t ba) 0,none,[ba]⟩
abbrev pb (d ba:Nat):br:=⟨some d,.ext (.t ba) 1,none,[ba]⟩
abbrev pc (d ba:Nat):br:=⟨some d,.fs 3 (.t ba),none,[ba]⟩
abbrev qt (d ba:Nat):br:=⟨some d,.gP 1 5 [(.int .i64 0),(.int .i64 0),(.int .i64 0),(.str []),.cq] [(0,5,(.t ba))],none,[ba]⟩
abbrev qu (d ba:Nat):br:=⟨some d,.bin (.int .eql) (.t ba) (.c (.int .i64 1)),none,[ba]⟩
abbrev qv (d ba:Nat):br:=⟨some d,.bin (.int .eql) (.t ba) (.c (.int .i64 0)),none,[ba]⟩
abbrev qw (d ba:Nat):br:=⟨some d,.bin (.int .eql) (.t ba) (.c (.int .i64 2)),none,[ba]⟩
abbrev sd (d ba bu:Nat):br:=⟨some d,.dy 5 (.t ba) (.c (.int .i64 0)),(some (bu,true)),[ba,bu]⟩
abbrev se (d:Nat):br:=⟨some d,.dc (.c (.bool true)),none,[]⟩
abbrev sf (d ba bu:Nat):br:=⟨some d,.bin (.int .geq) (.t ba) (.t bu),none,[ba,bu]⟩
abbrev sg (d ba:Nat):br:=⟨some d,.bin (.int .eql) (.t ba) (.c (.int .i64 3)),none,[ba]⟩
abbrev sh (d ba bu:Nat):br:=⟨some d,.fs 1 (.t ba),(some (bu,true)),[ba,bu]⟩
abbrev si (d ba bu:Nat):br:=⟨some d,.app 1 (.t ba) (.t bu),none,[ba,bu]⟩
abbrev sj (d ba bu:Nat):br:=⟨some d,.pX (.t ba),(some (bu,true)),[ba,bu]⟩
abbrev uB (d ba bu:Nat):br:=⟨some d,.bin (.int .sub) (.t ba) (.t bu),none,[ba,bu]⟩
abbrev uC (d ba bu:Nat):br:=⟨some d,.fs 0 (.t ba),(some (bu,true)),[ba,bu]⟩
abbrev uD (d:Nat):br:=⟨some d,.new [(.int .i64 0),(.int .i64 0),(.int .i64 0),(.str [])],none,[]⟩
abbrev w4 (d ba bu e6:Nat):br:=⟨some d,.dy 5 (.t ba) (.t bu),(some (e6,false)),[ba,bu,e6]⟩
abbrev w5 (d ba bu:Nat):br:=⟨some d,.call 15 [(.t ba)],(some (bu,false)),[ba,bu]⟩
abbrev w6 (d:Nat):br:=⟨some d,.dc (.c (.int .i64 1)),none,[]⟩
abbrev w7 (d ba:Nat):br:=⟨some d,.bin (.int .sub) (.t ba) (.c (.int .i64 1)),none,[ba]⟩
abbrev w8 (d:Nat):br:=⟨some d,.dc (.c (.int .i64 2)),none,[]⟩
abbrev w9 (d ba bu:Nat):br:=⟨some d,.bin (.int .add) (.t ba) (.t bu),none,[ba,bu]⟩
abbrev w' (d ba:Nat):br:=⟨some d,.bin (.int .eql) (.t ba) (.c (.int .i64 46)),none,[ba]⟩
abbrev w_ (d ba:Nat):br:=⟨some d,.bin (.int .eql) (.t ba) (.c (.int .i64 47)),none,[ba]⟩
abbrev xa (d ba bu:Nat):br:=⟨some d,.fs 2 (.t ba),(some (bu,false)),[ba,bu]⟩
abbrev xb (d ba:Nat):br:=⟨some d,.bin (.int .eql) (.t ba) (.c (.int .i64 50)),none,[ba]⟩
abbrev xc (d ba:Nat):br:=⟨some d,.bin (.int .eql) (.t ba) (.c (.int .i64 5)),none,[ba]⟩
abbrev xd (d ba:Nat):br:=⟨some d,.bin (.int .geq) (.t ba) (.c (.int .i64 0)),none,[ba]⟩
abbrev xe (d ba bu:Nat):br:=⟨some d,.bin (.str .eql) (.t ba) (.t bu),none,[ba,bu]⟩
abbrev xf (d ba bu:Nat):br:=⟨some d,.dy 4 (.t ba) (.c (.int .i64 0)),(some (bu,true)),[ba,bu]⟩
abbrev xg (d ba bu:Nat):br:=⟨some d,.jP (.t ba) (.t bu),none,[ba,bu]⟩
abbrev xh (d ba:Nat):br:=⟨some d,.jP (.t ba) (.c (.int .i64 0)),none,[ba]⟩
abbrev xi (d ba bu:Nat):br:=⟨some d,.bin (.int .eql) (.t ba) (.c (.int .u8 95)),(some (bu,false)),[ba,bu]⟩
abbrev Ax (d ba bu e6:Nat):br:=⟨some d,.bin (.int .neq) (.t ba) (.t bu),(some (e6,false)),[ba,bu,e6]⟩
abbrev Ay (d ba bu:Nat):br:=⟨some d,.bin (.int .add) (.t ba) (.c (.int .i64 1)),(some (bu,true)),[ba,bu]⟩
abbrev Az (d ba bu e6:Nat):br:=⟨some d,.bin (.int .eql) (.t ba) (.t bu),(some (e6,true)),[ba,bu,e6]⟩
abbrev AA (d ba bu e6:Nat):br:=⟨some d,.call 24 [(.t ba),(.t bu)],(some (e6,true)),[ba,bu,e6]⟩
abbrev AB (d ba bu e6:Nat):br:=⟨some d,.bin (.int .gtr) (.t ba) (.t bu),(some (e6,false)),[ba,bu,e6]⟩
abbrev AD (d ba:Nat):br:=⟨some d,.bin (.int .geq) (.t ba) (.c (.int .i64 1)),none,[ba]⟩
abbrev AE (d ba:Nat):br:=⟨some d,.bin (.int .eql) (.t ba) (.c (.int .i64 45)),none,[ba]⟩
abbrev AF (d ba:Nat):br:=⟨some d,.bin (.int .eql) (.t ba) (.c (.int .i64 4)),none,[ba]⟩
abbrev AG (d ba:Nat):br:=⟨some d,.bin (.str .eql) (.t ba) (.c (.str [])),none,[ba]⟩
abbrev AH (d ba:Nat):br:=⟨some d,.bin (.int .leq) (.t ba) (.c (.int .i64 1)),none,[ba]⟩
abbrev AI (d ba:Nat):br:=⟨some d,.call 78 [(.t ba),(.c (.int .u8 97)),(.c (.int .u8 122))],none,[ba]⟩
abbrev AJ (d ba bu:Nat):br:=⟨some d,.nA (.t ba) (some (.t bu)) none none,none,[ba,bu]⟩
abbrev AK (d:Nat):br:=⟨some d,.build [(.int .i64 0),(.int .i64 0),(.int .i64 0),(.str [])] [],none,[]⟩
abbrev F3 (d ba bu:Nat):br:=⟨some d,.gP 2 5 [(.int .i64 0),(.int .i64 0),(.int .i64 0),(.str []),.cq] [(0,5,(.t ba)),(5,5,(.t bu))],none,[ba,bu]⟩
abbrev F4 (d:Nat):br:=⟨some d,.gP 8 1 [(.str [])] [(0,1,(.c (.str [43]))),(1,1,(.c (.str [45]))),(2,1,(.c (.str [42]))),(3,1,(.c (.str [47]))),(4,1,(.c (.str [109,111,100]))),(5,1,(.c (.str [61]))),(6,1,(.c (.str [60]))),(7,1,(.c (.str [60,61])))],none,[]⟩
abbrev F5 (d ba:Nat):br:=⟨some d,.build [(.int .i64 0),(.int .i64 0),(.int .i64 0),(.str [])] [(0,1,(.c (.int .i64 7))),(3,1,(.t ba))],none,[ba]⟩
def PK:bD:=
 .seq (.seq (.av [ah 15 4,ah 16 0,ff 17 16,gG 18 15 17])
 (.cond (.t 18)
 (.skip)
 (.exit 0)))
 (.seq (.block 1 (.seq (.draw [ah 21 3,ah 22 4,jY 23 21 22,eu 24 23,ah 26 0,ah 27 4,jY 28 26 27,eu 29 28,⟨some 25,.call 13 [(.t 24)],none,[24]⟩,⟨some 30,.call 14 [(.t 29)],none,[29]⟩,⟨some 31,.bin (.int .neq) (.t 25) (.t 30),none,[25,30]⟩,ah 32 31,fL 33 3 32,fL 34 4 32,w4 35 33 34 32,iS 36 35 32,fL 38 0 32,fL 39 4 32,w4 40 38 39 32,iS 41 40 32,w5 37 36 32,⟨some 42,.call 16 [(.t 41)],(some (32,false)),[41,32]⟩,Ax 43 37 42 32,eG 44 32 43] [(3,[8]),(7,[8,9]),(15,[20]),(19,[20,21])])
 (.cond (.t 44)
 (.seq (.av [dF 2])
 (.ret))
 (.skip))))
 (.av [ah 19 4,e8 20 19,ah 4 20]))
def c3:bD:=
 .seq (.av [dF 2])
 (.seq (.seq (.av [ah 5 0,⟨some 6,.call 8 [(.t 5),(.c (.int .i64 400))],none,[5]⟩])
 (.cond (.t 6)
 (.seq (.av [⟨some 7,.call 9 [],none,[]⟩,ah 2 7])
 (.ret))
 (.skip)))
 (.seq (.av [ah 8 0,⟨some 9,.call 10 [(.t 8)],none,[8]⟩,ah 3 9])
 (.seq (.seq (.av [ah 10 3,⟨some 11,.call 11 [(.t 10)],none,[10]⟩,ah 12 0,⟨some 13,.call 12 [(.t 12)],none,[12]⟩,⟨some 14,.bin (.int .neq) (.t 11) (.t 13),none,[11,13]⟩])
 (.cond (.t 14)
 (.seq (.av [dF 2])
 (.ret))
 (.skip)))
 (.seq (.seq (.av [ev 4])
 (.block 0 (.loop PK)))
 (.seq (.av [ah 45 3,ah 46 0,⟨some 47,.call 17 [(.t 45),(.t 46)],none,[45,46]⟩,ah 48 47,⟨some 49,.call 9 [],(some (48,true)),[48]⟩,dC 50 48 49,ah 2 50])
 (.ret))))))
def G1:bD:=
 .seq (.seq (.av [ah 18 7,ah 19 5,gG 20 18 19])
 (.cond (.t 20)
 (.skip)
 (.exit 0)))
 (.seq (.block 1 (.seq (.av [ev 8])
 (.seq (.seq (.av [ah 23 1,ff 24 23,⟨some 25,.bin (.int .gtr) (.t 24) (.c (.int .i64 0)),none,[24]⟩])
 (.cond (.t 25)
 (.av [ah 26 1,ah 27 7,ah 28 1,ff 29 28,⟨some 30,.bin (.int .rem) (.t 27) (.t 29),none,[27,29]⟩,lR 31 26 30,bU 32 31,⟨some 33,.call 18 [(.t 32),(.c (.int .i64 3))],none,[32]⟩,ah 8 33])
 (.skip)))
 (.draw [⟨some 34,.gP 3 1 [(.int .i64 0)] [(0,1,(.c (.int .i64 39))),(1,1,(.c (.int .i64 36))),(2,1,(.c (.int .i64 34)))],none,[]⟩,ah 35 8,lR 36 34 35,bU 37 36,eu 38 6,qt 39 38,⟨some 40,.build [(.int .i64 0),(.int .i64 0),(.int .i64 0),(.str []),.cq] [(0,1,(.t 37)),(4,1,(.t 39))],none,[37,39]⟩,⟨none,.st 5 (.t 6) (.t 40),none,[6,40]⟩] [(3,[7]),(4,[7])]))))
 (.av [ah 21 7,e8 22 21,ah 7 22]))
def fq:bD:=
 .seq (.av [dF 4])
 (.seq (.seq (.av [ah 10 1,ff 11 10,⟨some 12,.bin (.int .gtr) (.t 11) (.c (.int .i64 20)),none,[11]⟩])
 (.cond (.t 12)
 (.seq (.av [⟨some 13,.call 9 [],none,[]⟩,ah 4 13])
 (.ret))
 (.skip)))
 (.seq (.av [ah 14 0,⟨some 15,.call 18 [(.t 14),(.c (.int .i64 15))],none,[14]⟩,⟨some 16,.bin (.int .add) (.c (.int .i64 190)) (.t 15),none,[15]⟩,ah 5 16])
 (.seq (.av [⟨some 17,.build [(.int .i64 0),(.int .i64 0),(.int .i64 0),(.str []),.cq] [(0,1,(.c (.int .i64 22)))],none,[]⟩,o' 6,⟨none,.st 5 (.t 6) (.t 17),none,[6,17]⟩])
 (.seq (.seq (.av [w6 7])
 (.block 0 (.loop G1)))
 (.seq (.av [⟨some 41,.build [(.int .i64 0),(.int .i64 0),(.int .i64 0),(.str []),.cq] [(0,1,(.c (.int .i64 10)))],none,[]⟩,eu 42 6,F3 43 41 42,⟨some 44,.build [(.int .i64 0),(.int .i64 0),(.int .i64 0),(.str []),.cq] [(0,1,(.c (.int .i64 52))),(4,1,(.t 43))],none,[43]⟩,qt 45 44,ah 9 45])
 (.seq (.av [ah 46 9,⟨some 47,.call 11 [(.t 46)],none,[46]⟩,ah 48 9,⟨some 49,.call 12 [(.t 48)],none,[48]⟩,⟨some 50,.bin (.int .eql) (.t 47) (.t 49),none,[47,49]⟩,ah 51 50,da 52 9 51,sd 53 52 51,jZ 54 53 51,⟨some 55,.call 13 [(.t 54)],(some (51,true)),[54,51]⟩,da 56 5 51,Ay 57 56 51,Az 58 55 57 51,dC 59 51 58,ah 60 59,da 61 9 60,sd 62 61 60,jZ 63 62 60,⟨some 64,.call 15 [(.t 63)],(some (60,true)),[63,60]⟩,da 65 5 60,⟨some 66,.bin (.int .add) (.t 65) (.c (.int .i64 2)),(some (60,true)),[65,60]⟩,Az 67 64 66 60,dC 68 60 67,ah 69 68,⟨some 70,.call 9 [],(some (69,true)),[69]⟩,dC 71 69 70,ah 4 71])
 (.ret)))))))
theorem P2:cf Tryz.prog Tryz.f4.ntmps (Tryz.f4.body.getD .skip)=fq:=by kernel_rfl
theorem P3:cW Tryz.prog Tryz.f4.ntmps Tryz.f4.results.toList=[.t 4]:=by kernel_rfl
theorem P1 {args:List V} {h:ae} {K:V→ae→Prop} (aj:Nat.ble args.length 72=true) (H:b_ Tryz.prog fq (aS.bk args) h fun e r aa=>e.ends∧∃ab,cH r aa [.t 4]=some ab∧K (oneOf ab) aa):bK Tryz.prog 4 args h K:=
 dv follows c_ Tryz.func4 (c:=Tryz.f4.body.getD .skip) (by kernel_rfl) (by kernel_rfl) (by kernel_rfl) aj P2 P3 (by kernel_rfl) H
def c5:bD:=
 .seq (.av [ir 2 0,ir 3 1,dF 4])
 (.seq (.seq (.av [eu 8 2,eu 9 3,F3 10 8 9,⟨some 11,.call 8 [(.t 10),(.c (.int .i64 300))],none,[10]⟩])
 (.cond (.t 11)
 (.seq (.av [⟨some 12,.call 9 [],none,[]⟩,ah 4 12])
 (.ret))
 (.skip)))
 (.seq (.av [eu 13 2,qt 14 13,⟨some 15,.call 10 [(.t 14)],none,[14]⟩,ah 5 15])
 (.seq (.av [ah 16 5,⟨some 17,.dy 5 (.t 16) (.c (.int .i64 0)),none,[16]⟩,eu 18 17,⟨some 19,.call 19 [(.t 18)],none,[18]⟩,o' 6,⟨none,.st 5 (.t 6) (.t 19),none,[6,19]⟩])
 (.seq (.draw [eu 20 6,eu 21 2,⟨some 22,.call 21 [(.t 21)],none,[21]⟩,⟨some 23,.call 20 [(.t 20),(.t 22)],none,[20,22]⟩,ah 24 23,da 25 5 24,sd 26 25 24,jZ 27 26 24,jZ 28 3 24,jZ 30 2 24,jZ 31 3 24,⟨some 29,.call 22 [(.t 27),(.t 28)],(some (24,true)),[27,28,24]⟩,⟨some 32,.call 23 [(.t 30),(.t 31)],(some (24,true)),[30,31,24]⟩,⟨some 33,.bin (.sJ false) (.t 29) (.t 32),(some (24,true)),[29,32,24]⟩,dC 34 24 33,ah 7 34] [(0,[2,3]),(1,[2]),(7,[11]),(8,[11]),(9,[11,12]),(10,[11,12])])
 (.seq (.draw [ah 35 7,ah 36 35,da 37 5 36,sd 38 37 36,jZ 39 38 36,jZ 41 2 36,⟨some 40,.call 25 [(.t 39)],(some (36,true)),[39,36]⟩,⟨some 42,.call 26 [(.t 41)],(some (36,true)),[41,36]⟩,AA 43 40 42 36,dC 44 36 43,ah 45 44,da 46 5 45,sd 47 46 45,jZ 48 47 45,jZ 50 2 45,⟨some 49,.call 27 [(.t 48)],(some (45,true)),[48,45]⟩,⟨some 51,.call 28 [(.t 50)],(some (45,true)),[50,45]⟩,AA 52 49 51 45,dC 53 45 52,ah 7 53] [(4,[6]),(5,[6,7]),(13,[15]),(14,[15,16])])
 (.seq (.av [eu 54 6,qt 55 54,⟨some 56,.call 29 [(.t 55)],none,[55]⟩])
 (.seq (.av [ah 57 7,ah 58 57,da 59 5 58,jZ 60 2 58,⟨some 61,.gP 1 5 [(.int .i64 0),(.int .i64 0),(.int .i64 0),(.str []),.cq] [(0,5,(.t 60))],(some (58,true)),[60,58]⟩,⟨some 62,.call 17 [(.t 59),(.t 61)],(some (58,true)),[59,61,58]⟩,dC 63 58 62,ah 64 63,⟨some 65,.call 9 [],(some (64,true)),[64]⟩,dC 66 64 65,ah 4 66])
 (.ret))))))))
def QO:bD:=
 .seq (.seq (.av [ah 50 6,ah 51 5,ff 52 51,gG 53 50 52])
 (.cond (.t 53)
 (.skip)
 (.exit 0)))
 (.seq (.block 1 (.seq (.draw [ah 56 5,ah 57 6,w7 58 57,lR 59 56 58,bU 60 59,ah 61 5,ah 62 6,lR 63 61 62,bU 64 63,⟨some 65,.bin (.str .geq) (.t 60) (.t 64),none,[60,64]⟩] [])
 (.cond (.t 65)
 (.seq (.av [dF 2])
 (.ret))
 (.skip))))
 (.av [ah 54 6,e8 55 54,ah 6 55]))
def BP:bD:=
 .seq (.av [ir 1 0,dF 2])
 (.seq (.av [⟨some 10,.call 6 [],none,[]⟩,ah 3 10])
 (.seq (.seq (.av [eu 11 1,qt 12 11,⟨some 13,.call 8 [(.t 12),(.c (.int .i64 300))],none,[12]⟩])
 (.cond (.t 13)
 (.seq (.av [ah 14 3,ah 2 14])
 (.ret))
 (.skip)))
 (.seq (.av [eu 15 1,⟨some 16,.call 19 [(.t 15)],none,[15]⟩,o' 4,⟨none,.st 5 (.t 4) (.t 16),none,[4,16]⟩])
 (.seq (.seq (.draw [eu 17 1,eu 18 4,⟨some 19,.call 22 [(.t 17),(.t 18)],none,[17,18]⟩,nK 20 19,ah 21 20,iS 22 4 21,iS 23 1 21,⟨some 24,.call 22 [(.t 22),(.t 23)],(some (21,false)),[22,23,21]⟩,o_ 25 24 21,eG 26 21 25,ah 27 26,iS 28 1 27,iS 30 4 27,⟨some 29,.call 13 [(.t 28)],(some (27,false)),[28,27]⟩,⟨some 31,.call 13 [(.t 30)],(some (27,false)),[30,27]⟩,Ax 32 29 31 27,eG 33 27 32,ah 34 33,iS 35 1 34,iS 37 4 34,w5 36 35 34,w5 38 37 34,Ax 39 36 38 34,eG 40 34 39,ah 41 40,iS 42 1 41,iS 44 1 41,⟨some 43,.call 13 [(.t 42)],(some (41,false)),[42,41]⟩,w5 45 44 41,AB 46 43 45 41,eG 47 41 46] [(0,[2]),(1,[2]),(5,[7]),(6,[7]),(11,[13]),(12,[13,14]),(18,[20]),(19,[20,21]),(25,[27]),(26,[27,28])])
 (.cond (.t 47)
 (.seq (.av [dF 2])
 (.ret))
 (.skip)))
 (.seq (.av [eu 48 4,⟨some 49,.call 27 [(.t 48)],none,[48]⟩,ah 5 49])
 (.seq (.seq (.av [w6 6])
 (.block 0 (.loop QO)))
 (.seq (.draw [eu 66 1,qt 67 66,eu 69 4,qt 70 69,⟨some 68,.call 11 [(.t 67)],none,[67]⟩,⟨some 71,.call 11 [(.t 70)],none,[70]⟩,ah 7 68,ah 8 71] [(0,[4]),(2,[4,5])])
 (.seq (.draw [eu 72 1,eu 74 4,⟨some 73,.call 25 [(.t 72)],none,[72]⟩,⟨some 75,.call 25 [(.t 74)],none,[74]⟩,⟨some 76,.call 24 [(.t 73),(.t 75)],none,[73,75]⟩,ah 77 76,da 78 7 77,⟨some 79,.bin (.int .neq) (.t 78) (.c (.int .i64 0)),(some (77,true)),[78,77]⟩,da 80 79 77,fL 81 8 80,⟨some 82,.bin (.int .eql) (.t 81) (.c (.int .i64 0)),(some (80,false)),[81,80]⟩,fL 83 82 80,jZ 84 1 83,da 86 5 83,⟨some 85,.call 27 [(.t 84)],(some (83,true)),[84,83]⟩,AA 87 85 86 83,⟨some 88,.pick (.t 83) (.t 87) (.c (.bool false)),(some (80,false)),[83,87,80]⟩,⟨some 89,.pick (.t 80) (.c (.bool true)) (.t 88),(some (77,true)),[80,88,77]⟩,dC 90 77 89,ah 9 90] [(0,[2]),(1,[2,3]),(12,[14])])
 (.seq (.draw [ah 91 3,ah 92 91,da 93 9 92,dC 94 92 93,ah 95 94,jZ 96 4 95,jZ 98 4 95,⟨some 97,.call 19 [(.t 96)],(some (95,true)),[96,95]⟩,⟨some 99,.call 20 [(.t 97),(.t 98)],(some (95,true)),[97,98,95]⟩,dC 100 95 99,ah 2 100] [(5,[7]),(6,[7,8])])
 (.ret))))))))))
def lZ:bD:=
 .seq (.av [dF 4])
 (.seq (.av [ah 5 0,ah 6 1,⟨some 7,.call 33 [(.t 5),(.t 6)],none,[5,6]⟩,ah 8 1,⟨some 9,.bin (.int .gtr) (.t 7) (.t 8),none,[7,8]⟩,ah 4 9])
 (.ret))
def GR:bD:=
 .seq (.av [gG 12 11 10])
 (.seq (.cond (.t 12)
 (.skip)
 (.exit 0))
 (.seq (.block 1 (.seq (.av [jY 13 9 11,eu 14 13,o' 5,⟨none,.st 5 (.t 5) (.t 14),none,[5,14]⟩])
 (.seq (.av [gq 15 5,bU 16 15,⟨some 17,.call 36 [(.t 16)],none,[16]⟩,⟨some 18,.bin (.int .neq) (.t 17) (.c (.int .i64 7)),none,[17]⟩,ah 19 18,fL 20 3 19,iS 21 5 19,⟨some 22,.call 37 [(.t 20),(.t 21)],(some (19,false)),[20,21,19]⟩,o_ 23 22 19,eG 24 19 23])
 (.cond (.t 24)
 (.seq (.av [w8 2])
 (.ret))
 (.skip)))))
 (.av [e8 25 11,ah 11 25])))
def GS:bD:=
 .seq (.av [gG 29 28 27])
 (.seq (.cond (.t 29)
 (.skip)
 (.exit 2))
 (.seq (.block 3 (.seq (.av [jY 30 26 28,eu 31 30,o' 7,⟨none,.st 5 (.t 7) (.t 31),none,[7,31]⟩])
 (.seq (.av [eu 32 7,⟨some 33,.call 13 [(.t 32)],none,[32]⟩,⟨some 34,.bin (.int .gtr) (.t 33) (.c (.int .i64 200)),none,[33]⟩])
 (.cond (.t 34)
 (.seq (.av [⟨some 2,.dc (.c (.int .i64 260)),none,[]⟩])
 (.ret))
 (.skip)))))
 (.av [e8 35 28,ah 28 35])))
def Bl:bD:=
 .seq (.av [ev 2])
 (.seq (.av [⟨some 8,.call 35 [],none,[]⟩,ah 3 8])
 (.seq (.seq (.av [ah 9 0,ff 10 9,ev 11])
 (.block 0 (.loop GR)))
 (.seq (.seq (.av [ah 26 0,ff 27 26,ev 28])
 (.block 2 (.loop GS)))
 (.seq (.av [ev 2])
 (.ret)))))
theorem Pe:cf Tryz.prog Tryz.f11.ntmps (Tryz.f11.body.getD .skip)=Bl:=by kernel_rfl
theorem Pf:cW Tryz.prog Tryz.f11.ntmps Tryz.f11.results.toList=[.t 2]:=by kernel_rfl
theorem Pd {args:List V} {h:ae} {K:V→ae→Prop} (aj:Nat.ble args.length 36=true) (H:b_ Tryz.prog Bl (aS.bk args) h fun e r aa=>e.ends∧∃ab,cH r aa [.t 2]=some ab∧K (oneOf ab) aa):bK Tryz.prog 11 args h K:=
 dv follows c_ Tryz.func11 (c:=Tryz.f11.body.getD .skip) (by kernel_rfl) (by kernel_rfl) (by kernel_rfl) aj Pe Pf (by kernel_rfl) H
def GU:bD:=
 .seq (.seq (.av [ah 5 3,ah 6 0,ff 7 6,gG 8 5 7])
 (.cond (.t 8)
 (.skip)
 (.exit 0)))
 (.seq (.block 1 (.seq (.av [ah 11 0,ah 12 3,jY 13 11 12,gq 14 13,bU 15 14,⟨some 16,.call 38 [(.t 15)],none,[15]⟩,⟨some 17,.bin (.int .neq) (.t 16) (.c (.int .i64 7)),none,[16]⟩,ah 18 17,fL 19 0 18,fL 20 3 18,w4 21 19 20 18,iS 22 21 18,⟨some 23,.call 39 [(.t 22)],(some (18,false)),[22,18]⟩,o_ 24 23 18,eG 25 18 24])
 (.cond (.t 25)
 (.seq (.av [w8 2])
 (.ret))
 (.skip))))
 (.av [ah 9 3,e8 10 9,ah 3 10]))
def GV:bD:=
 .seq (.seq (.av [ah 26 4,ah 27 0,ff 28 27,gG 29 26 28])
 (.cond (.t 29)
 (.skip)
 (.exit 2)))
 (.seq (.block 3 (.seq (.av [ah 32 0,ah 33 4,jY 34 32 33,eu 35 34,⟨some 36,.call 14 [(.t 35)],none,[35]⟩,⟨some 37,.bin (.int .gtr) (.t 36) (.c (.int .i64 200)),none,[36]⟩])
 (.cond (.t 37)
 (.seq (.av [⟨some 2,.dc (.c (.int .i64 260)),none,[]⟩])
 (.ret))
 (.skip))))
 (.av [ah 30 4,e8 31 30,ah 4 31]))
def Br:bD:=
 .seq (.av [ev 2])
 (.seq (.seq (.av [ev 3])
 (.block 0 (.loop GU)))
 (.seq (.seq (.av [ev 4])
 (.block 2 (.loop GV)))
 (.seq (.av [ev 2])
 (.ret))))
theorem Ph:cf Tryz.prog Tryz.f12.ntmps (Tryz.f12.body.getD .skip)=Br:=by kernel_rfl
theorem Pj:cW Tryz.prog Tryz.f12.ntmps Tryz.f12.results.toList=[.t 2]:=by kernel_rfl
theorem Pg {args:List V} {h:ae} {K:V→ae→Prop} (aj:Nat.ble args.length 38=true) (H:b_ Tryz.prog Br (aS.bk args) h fun e r aa=>e.ends∧∃ab,cH r aa [.t 2]=some ab∧K (oneOf ab) aa):bK Tryz.prog 12 args h K:=
 dv follows c_ Tryz.func12 (c:=Tryz.f12.body.getD .skip) (by kernel_rfl) (by kernel_rfl) (by kernel_rfl) aj Ph Pj (by kernel_rfl) H
def GW:bD:=
 .seq (.av [gG 10 9 8])
 (.seq (.cond (.t 10)
 (.skip)
 (.exit 0))
 (.seq (.block 1 (.seq (.av [jY 11 7 9,eu 12 11,o' 5,⟨none,.st 5 (.t 5) (.t 12),none,[5,12]⟩])
 (.av [ah 13 3,eu 14 5,⟨some 15,.call 13 [(.t 14)],none,[14]⟩,⟨some 16,.dk [(.t 13),(.t 15)],none,[13,15]⟩,ah 3 16])))
 (.av [e8 17 9,ah 9 17])))
def Bs:bD:=
 .seq (.av [ir 1 0,ev 2])
 (.seq (.av [ev 3])
 (.seq (.seq (.av [k6 6 1,bU 7 6,ff 8 7,ev 9])
 (.block 0 (.loop GW)))
 (.seq (.av [ah 18 3,e8 19 18,ah 2 19])
 (.ret))))
theorem Pl:cf Tryz.prog Tryz.f13.ntmps (Tryz.f13.body.getD .skip)=Bs:=by kernel_rfl
theorem Pm:cW Tryz.prog Tryz.f13.ntmps Tryz.f13.results.toList=[.t 2]:=by kernel_rfl
theorem Pk {args:List V} {h:ae} {K:V→ae→Prop} (aj:Nat.ble args.length 20=true) (H:b_ Tryz.prog Bs (aS.bk args) h fun e r aa=>e.ends∧∃ab,cH r aa [.t 2]=some ab∧K (oneOf ab) aa):bK Tryz.prog 13 args h K:=
 dv follows c_ Tryz.func13 (c:=Tryz.f13.body.getD .skip) (by kernel_rfl) (by kernel_rfl) (by kernel_rfl) aj Pl Pm (by kernel_rfl) H
def GX:bD:=
 .seq (.seq (.av [ah 5 4,k6 6 1,bU 7 6,ff 8 7,gG 9 5 8])
 (.cond (.t 9)
 (.skip)
 (.exit 0)))
 (.seq (.block 1 (.av [ah 12 3,k6 13 1,bU 14 13,ah 15 4,jY 16 14 15,eu 17 16,⟨some 18,.call 14 [(.t 17)],none,[17]⟩,⟨some 19,.dk [(.t 12),(.t 18)],none,[12,18]⟩,ah 3 19]))
 (.av [ah 10 4,e8 11 10,ah 4 11]))
def Bt:bD:=
 .seq (.av [ir 1 0,ev 2])
 (.seq (.av [ev 3])
 (.seq (.seq (.av [ev 4])
 (.block 0 (.loop GX)))
 (.seq (.av [ah 20 3,e8 21 20,ah 2 21])
 (.ret))))
theorem Po:cf Tryz.prog Tryz.f14.ntmps (Tryz.f14.body.getD .skip)=Bt:=by kernel_rfl
theorem Pp:cW Tryz.prog Tryz.f14.ntmps Tryz.f14.results.toList=[.t 2]:=by kernel_rfl
theorem Pn {args:List V} {h:ae} {K:V→ae→Prop} (aj:Nat.ble args.length 22=true) (H:b_ Tryz.prog Bt (aS.bk args) h fun e r aa=>e.ends∧∃ab,cH r aa [.t 2]=some ab∧K (oneOf ab) aa):bK Tryz.prog 14 args h K:=
 dv follows c_ Tryz.func14 (c:=Tryz.f14.body.getD .skip) (by kernel_rfl) (by kernel_rfl) (by kernel_rfl) aj Po Pp (by kernel_rfl) H
def Bv:bD:=
 .skip
def Bw:bD:=
 .block 1 (.av [bU 7 3,e8 8 7,⟨none,.st 1 (.t 3) (.t 8),none,[3,8]⟩])
def Bu:bD:=
 .seq (.av [ir 1 0,ev 2])
 (.seq (.av [⟨some 3,.new [(.int .i64 0)],none,[]⟩,⟨none,.st 1 (.t 3) (.c (.int .i64 0)),none,[3]⟩])
 (.seq (.seq (.av [eu 4 1,⟨some 5,.call 40 [(.t 4)],none,[4]⟩])
 (.block 0 (bD.range (.t 5) [6] 10 Bv Bw)))
 (.seq (.av [bU 9 3,ah 2 9])
 (.ret))))
theorem Pr:cf Tryz.prog Tryz.f15.ntmps (Tryz.f15.body.getD .skip)=Bu:=by kernel_rfl
theorem Ps:cW Tryz.prog Tryz.f15.ntmps Tryz.f15.results.toList=[.t 2]:=by kernel_rfl
theorem Pq {args:List V} {h:ae} {K:V→ae→Prop} (aj:Nat.ble args.length 10=true) (H:b_ Tryz.prog Bu (aS.bk args) h fun e r aa=>e.ends∧∃ad,pR (r d').list aa=some ad∧∃ab,cH r ad [.t 2]=some ab∧K (oneOf ab) ad):bK Tryz.prog 15 args h K:=
 RQ follows c_ Tryz.func15 (c:=Tryz.f15.body.getD .skip) (by kernel_rfl) (by kernel_rfl) (by kernel_rfl) aj Pr Ps H
def Pt:bD:=
 .seq (.seq (.av [ah 11 5,ah 12 0,ff 13 12,gG 14 11 13])
 (.cond (.t 14)
 (.skip)
 (.exit 0)))
 (.seq (.block 1 (.seq (.draw [ah 17 0,ah 18 5,jY 19 17 18,eu 20 19,ah 21 1,ah 22 5,jY 23 21 22,eu 24 23,⟨some 25,.call 20 [(.t 20),(.t 24)],none,[20,24]⟩,nK 26 25] [(3,[8]),(7,[8])])
 (.cond (.t 26)
 (.seq (.av [dF 4])
 (.ret))
 (.skip))))
 (.av [ah 15 5,e8 16 15,ah 5 16]))
def sA:bD:=
 .seq (.av [dF 4])
 (.seq (.seq (.av [ah 6 0,ff 7 6,ah 8 1,ff 9 8,⟨some 10,.bin (.int .neq) (.t 7) (.t 9),none,[7,9]⟩])
 (.cond (.t 10)
 (.seq (.av [dF 4])
 (.ret))
 (.skip)))
 (.seq (.seq (.av [ev 5])
 (.block 0 (.loop Pt)))
 (.seq (.av [se 4])
 (.ret))))
def Bx:bD:=
 .seq (.av [ev 4])
 (.seq (.seq (.av [ah 5 1,⟨some 6,.bin (.int .lss) (.t 5) (.c (.int .i64 1)),none,[5]⟩])
 (.cond (.t 6)
 (.seq (.av [ev 4])
 (.ret))
 (.skip)))
 (.seq (.av [ah 7 0,ah 8 1,⟨some 9,.bin (.int .rem) (.t 7) (.t 8),none,[7,8]⟩,ah 0 9])
 (.seq (.seq (.av [ah 10 0,⟨some 11,.bin (.int .lss) (.t 10) (.c (.int .i64 0)),none,[10]⟩])
 (.cond (.t 11)
 (.av [ah 12 0,ah 13 1,w9 14 12 13,ah 0 14])
 (.skip)))
 (.seq (.av [ah 15 0,ah 4 15])
 (.ret)))))
theorem Pw:cf Tryz.prog Tryz.f18.ntmps (Tryz.f18.body.getD .skip)=Bx:=by kernel_rfl
theorem Px:cW Tryz.prog Tryz.f18.ntmps Tryz.f18.results.toList=[.t 4]:=by kernel_rfl
theorem Pv {args:List V} {h:ae} {K:V→ae→Prop} (aj:Nat.ble args.length 16=true) (H:b_ Tryz.prog Bx (aS.bk args) h fun e r aa=>e.ends∧∃ab,cH r aa [.t 4]=some ab∧K (oneOf ab) aa):bK Tryz.prog 18 args h K:=
 dv follows c_ Tryz.func18 (c:=Tryz.f18.body.getD .skip) (by kernel_rfl) (by kernel_rfl) (by kernel_rfl) aj Pw Px (by kernel_rfl) H
def By:bD:=
 .seq (.av [ev 2])
 (.seq (.block 0 (.seq (.av [ah 4 0,AD 5 4,ah 6 5,da 7 0 6,⟨some 8,.bin (.int .leq) (.t 7) (.c (.int .i64 4)),(some (6,true)),[7,6]⟩,dC 9 6 8,ah 3 9])
 (.cond (.t 3)
 (.seq (.av [w6 2])
 (.ret))
 (.seq (.av [ah 11 0,⟨some 12,.bin (.int .geq) (.t 11) (.c (.int .i64 10)),none,[11]⟩,ah 13 12,da 14 0 13,⟨some 15,.bin (.int .leq) (.t 14) (.c (.int .i64 16)),(some (13,true)),[14,13]⟩,dC 16 13 15,ah 10 16])
 (.cond (.t 10)
 (.seq (.av [w8 2])
 (.ret))
 (.seq (.av [ah 18 0,⟨some 19,.bin (.int .geq) (.t 18) (.c (.int .i64 20)),none,[18]⟩,ah 20 19,da 21 0 20,⟨some 22,.bin (.int .leq) (.t 21) (.c (.int .i64 39)),(some (20,true)),[21,20]⟩,dC 23 20 22,ah 17 23])
 (.cond (.t 17)
 (.seq (.av [⟨some 2,.dc (.c (.int .i64 3)),none,[]⟩])
 (.ret))
 (.seq (.av [ah 25 0,AE 26 25,ah 24 26])
 (.cond (.t 24)
 (.seq (.av [⟨some 2,.dc (.c (.int .i64 4)),none,[]⟩])
 (.ret))
 (.seq (.av [ah 28 0,w' 29 28,ah 27 29])
 (.cond (.t 27)
 (.seq (.av [⟨some 2,.dc (.c (.int .i64 5)),none,[]⟩])
 (.ret))
 (.seq (.av [ah 31 0,w_ 32 31,ah 30 32])
 (.cond (.t 30)
 (.seq (.av [⟨some 2,.dc (.c (.int .i64 6)),none,[]⟩])
 (.ret))
 (.seq (.av [ah 34 0,⟨some 35,.bin (.int .geq) (.t 34) (.c (.int .i64 50)),none,[34]⟩,ah 36 35,da 37 0 36,⟨some 38,.bin (.int .leq) (.t 37) (.c (.int .i64 53)),(some (36,true)),[37,36]⟩,dC 39 36 38,ah 33 39])
 (.cond (.t 33)
 (.seq (.av [⟨some 2,.dc (.c (.int .i64 7)),none,[]⟩])
 (.ret))
 (.skip))))))))))))))))
 (.seq (.av [ev 2])
 (.ret)))
theorem Pz:cf Tryz.prog Tryz.f36.ntmps (Tryz.f36.body.getD .skip)=By:=by kernel_rfl
theorem PA:cW Tryz.prog Tryz.f36.ntmps Tryz.f36.results.toList=[.t 2]:=by kernel_rfl
theorem Py {args:List V} {h:ae} {K:V→ae→Prop} (aj:Nat.ble args.length 40=true) (H:b_ Tryz.prog By (aS.bk args) h fun e r aa=>e.ends∧∃ab,cH r aa [.t 2]=some ab∧K (oneOf ab) aa):bK Tryz.prog 36 args h K:=
 dv follows c_ Tryz.func36 (c:=Tryz.f36.body.getD .skip) (by kernel_rfl) (by kernel_rfl) (by kernel_rfl) aj Pz PA (by kernel_rfl) H
def GY:bD:=
 .seq (.av [gG 88 87 86])
 (.seq (.cond (.t 88)
 (.skip)
 (.exit 0))
 (.seq (.block 1 (.seq (.av [ah 89 87,jY 90 85 87,eu 91 90,o' 10,ah 9 89,⟨none,.st 5 (.t 10) (.t 91),none,[10,91]⟩])
 (.seq (.av [dO 92 5,bU 93 92,ah 11 93])
 (.seq (.block 2 (.seq (.av [ah 95 9,ah 96 7,ff 97 96,gG 98 95 97,ah 94 98])
 (.cond (.t 94)
 (.av [ah 99 7,ah 100 9,lR 101 99 100,bU 102 101,ah 11 102])
 (.seq (.av [ah 104 9,ah 105 7,ff 106 105,ah 107 8,w9 108 106 107,sf 109 104 108,ah 103 109])
 (.cond (.t 103)
 (.av [k6 110 5,bU 111 110,ah 112 9,ah 113 7,ff 114 113,uB 115 112 114,ah 116 8,uB 117 115 116,lR 118 111 117,bU 119 118,ah 11 119])
 (.skip))))))
 (.seq (.av [eu 120 10,ah 121 11,⟨some 122,.call 48 [(.t 120),(.t 121)],none,[120,121]⟩,nK 123 122,ah 124 123,fL 125 0 124,iS 126 10 124,⟨some 127,.call 37 [(.t 125),(.t 126)],(some (124,false)),[125,126,124]⟩,o_ 128 127 124,eG 129 124 128])
 (.cond (.t 129)
 (.seq (.av [dF 4])
 (.ret))
 (.skip)))))))
 (.av [e8 130 87,ah 87 130])))
def Bz:bD:=
 .seq (.av [ir 3 1,dF 4])
 (.seq (.av [ah 13 0,gq 14 3,bU 15 14,⟨some 16,.look .int (.agg [.cq,(.int .i64 0),(.int .i64 0),(.int .i64 0),.cq,(.int .i64 0),(.int .i64 0),(.int .i64 0)]) true (.t 13) (.t 15),none,[13,15]⟩,ah 12 16,pa 17 12,pb 18 12,⟨some 5,.new [.cq,(.int .i64 0),(.int .i64 0),(.int .i64 0),.cq,(.int .i64 0),(.int .i64 0),(.int .i64 0)],none,[]⟩,⟨none,.st 8 (.t 5) (.t 17),none,[5,17]⟩,ah 6 18])
 (.seq (.seq (.av [ah 19 6,nK 20 19,ah 21 20,⟨some 22,.fs 1 (.t 3),(some (21,false)),[3,21]⟩,kA 23 22 21,⟨some 24,.fs 5 (.t 5),(some (21,false)),[5,21]⟩,⟨some 25,.pJ 2 1 (.t 24) (.c (.int .i64 0)),(some (21,false)),[24,21]⟩,kA 26 25 21,⟨some 27,.bin (.int .lss) (.t 23) (.t 26),(some (21,false)),[23,26,21]⟩,eG 28 21 27,ah 29 28,⟨some 30,.fs 1 (.t 3),(some (29,false)),[3,29]⟩,kA 31 30 29,⟨some 32,.fs 5 (.t 5),(some (29,false)),[5,29]⟩,⟨some 33,.pJ 2 1 (.t 32) (.c (.int .i64 1)),(some (29,false)),[32,29]⟩,kA 34 33 29,AB 35 31 34 29,eG 36 29 35,ah 37 36,xa 38 3 37,kA 39 38 37,⟨some 40,.bin (.int .lss) (.t 39) (.c (.int .i64 0)),(some (37,false)),[39,37]⟩,eG 41 37 40,ah 42 41,xa 43 3 42,kA 44 43 42,⟨some 45,.bin (.int .gtr) (.t 44) (.c (.int .i64 65536)),(some (42,false)),[44,42]⟩,eG 46 42 45,ah 47 46,⟨some 48,.fs 7 (.t 5),(some (47,false)),[5,47]⟩,kA 49 48 47,⟨some 50,.fs 3 (.t 3),(some (47,false)),[3,47]⟩,kA 51 50 47,⟨some 52,.call 46 [(.t 49),(.t 51)],(some (47,false)),[49,51,47]⟩,o_ 53 52 47,eG 54 47 53])
 (.cond (.t 54)
 (.seq (.av [dF 4])
 (.ret))
 (.skip)))
 (.seq (.av [gq 55 5,bU 56 55,ah 7 56])
 (.seq (.seq (.av [gq 57 3,bU 58 57,xb 59 58])
 (.cond (.t 59)
 (.av [⟨some 60,.gP 1 1 [(.int .i64 0)] [(0,1,(.c (.int .i64 8)))],none,[]⟩,dO 61 3,bU 62 61,⟨some 63,.call 47 [(.t 60),(.t 62)],none,[60,62]⟩,ah 7 63])
 (.skip)))
 (.seq (.av [k6 64 3,bU 65 64,ff 66 65,ah 67 7,ff 68 67,uB 69 66 68,k6 70 5,bU 71 70,ff 72 71,uB 73 69 72,ah 8 73])
 (.seq (.seq (.av [ah 74 8,kB 75 5,bU 76 75,gG 77 74 76,ah 78 77,fL 79 8 78,⟨some 80,.fs 3 (.t 5),(some (78,false)),[5,78]⟩,kA 81 80 78,AB 82 79 81 78,eG 83 78 82])
 (.cond (.t 83)
 (.seq (.av [dF 4])
 (.ret))
 (.skip)))
 (.seq (.seq (.av [k6 84 3,bU 85 84,ff 86 85,ev 87])
 (.block 0 (.loop GY)))
 (.seq (.av [se 4])
 (.ret)))))))))
theorem PC:cf Tryz.prog Tryz.f37.ntmps (Tryz.f37.body.getD .skip)=Bz:=by kernel_rfl
theorem PD:cW Tryz.prog Tryz.f37.ntmps Tryz.f37.results.toList=[.t 4]:=by kernel_rfl
theorem PB {args:List V} {h:ae} {K:V→ae→Prop} (aj:Nat.ble args.length 131=true) (H:b_ Tryz.prog Bz (aS.bk args) h fun e r aa=>e.ends∧∃ab,cH r aa [.t 4]=some ab∧K (oneOf ab) aa):bK Tryz.prog 37 args h K:=
 dv follows c_ Tryz.func37 (c:=Tryz.f37.body.getD .skip) (by kernel_rfl) (by kernel_rfl) (by kernel_rfl) aj PC PD (by kernel_rfl) H
def BA:bD:=
 .seq (.av [ev 2])
 (.seq (.block 0 (.seq (.av [ah 4 0,AD 5 4,ah 6 5,da 7 0 6,⟨some 8,.bin (.int .leq) (.t 7) (.c (.int .i64 4)),(some (6,true)),[7,6]⟩,dC 9 6 8,ah 3 9])
 (.cond (.t 3)
 (.seq (.av [w6 2])
 (.ret))
 (.seq (.av [ah 11 0,⟨some 12,.bin (.int .geq) (.t 11) (.c (.int .i64 10)),none,[11]⟩,ah 13 12,da 14 0 13,⟨some 15,.bin (.int .leq) (.t 14) (.c (.int .i64 16)),(some (13,true)),[14,13]⟩,dC 16 13 15,ah 10 16])
 (.cond (.t 10)
 (.seq (.av [w8 2])
 (.ret))
 (.seq (.av [ah 18 0,⟨some 19,.bin (.int .geq) (.t 18) (.c (.int .i64 20)),none,[18]⟩,ah 20 19,da 21 0 20,⟨some 22,.bin (.int .leq) (.t 21) (.c (.int .i64 39)),(some (20,true)),[21,20]⟩,dC 23 20 22,ah 17 23])
 (.cond (.t 17)
 (.seq (.av [⟨some 2,.dc (.c (.int .i64 3)),none,[]⟩])
 (.ret))
 (.seq (.av [ah 25 0,AE 26 25,ah 24 26])
 (.cond (.t 24)
 (.seq (.av [⟨some 2,.dc (.c (.int .i64 4)),none,[]⟩])
 (.ret))
 (.seq (.av [ah 28 0,w' 29 28,ah 27 29])
 (.cond (.t 27)
 (.seq (.av [⟨some 2,.dc (.c (.int .i64 5)),none,[]⟩])
 (.ret))
 (.seq (.av [ah 31 0,w_ 32 31,ah 30 32])
 (.cond (.t 30)
 (.seq (.av [⟨some 2,.dc (.c (.int .i64 6)),none,[]⟩])
 (.ret))
 (.seq (.av [ah 34 0,⟨some 35,.bin (.int .geq) (.t 34) (.c (.int .i64 50)),none,[34]⟩,ah 36 35,da 37 0 36,⟨some 38,.bin (.int .leq) (.t 37) (.c (.int .i64 53)),(some (36,true)),[37,36]⟩,dC 39 36 38,ah 33 39])
 (.cond (.t 33)
 (.seq (.av [⟨some 2,.dc (.c (.int .i64 7)),none,[]⟩])
 (.ret))
 (.skip))))))))))))))))
 (.seq (.av [ev 2])
 (.ret)))
theorem PF:cf Tryz.prog Tryz.f38.ntmps (Tryz.f38.body.getD .skip)=BA:=by kernel_rfl
theorem PG:cW Tryz.prog Tryz.f38.ntmps Tryz.f38.results.toList=[.t 2]:=by kernel_rfl
theorem PE {args:List V} {h:ae} {K:V→ae→Prop} (aj:Nat.ble args.length 40=true) (H:b_ Tryz.prog BA (aS.bk args) h fun e r aa=>e.ends∧∃ab,cH r aa [.t 2]=some ab∧K (oneOf ab) aa):bK Tryz.prog 38 args h K:=
 dv follows c_ Tryz.func38 (c:=Tryz.f38.body.getD .skip) (by kernel_rfl) (by kernel_rfl) (by kernel_rfl) aj PF PG (by kernel_rfl) H
def GZ:bD:=
 .seq (.seq (.av [ah 38 5,k6 39 1,bU 40 39,ff 41 40,gG 42 38 41])
 (.cond (.t 42)
 (.skip)
 (.exit 0)))
 (.seq (.block 1 (.seq (.av [dF 6])
 (.seq (.seq (.av [ah 45 3,ah 46 5,lR 47 45 46,bU 48 47,⟨some 49,.bin (.int .eql) (.t 48) (.c (.int .i64 8)),none,[48]⟩])
 (.cond (.t 49)
 (.av [k6 50 1,bU 51 50,ah 52 5,jY 53 51 52,gq 54 53,bU 55 54,qu 56 55,ah 6 56])
 (.draw [k6 57 1,bU 58 57,ah 59 5,jY 60 58 59,gq 61 60,bU 62 61,ah 64 3,ah 65 5,lR 66 64 65,bU 67 66,⟨some 63,.call 38 [(.t 62)],none,[62]⟩,⟨some 68,.bin (.int .eql) (.t 63) (.t 67),none,[63,67]⟩,ah 6 68] [(1,[10]),(5,[10]),(9,[10,13])])))
 (.seq (.av [ah 69 6,nK 70 69,ah 71 70,⟨some 72,.fs 4 (.t 1),(some (71,false)),[1,71]⟩,kA 73 72 71,fL 74 5 71,w4 75 73 74 71,iS 76 75 71,⟨some 77,.call 39 [(.t 76)],(some (71,false)),[76,71]⟩,o_ 78 77 71,eG 79 71 78])
 (.cond (.t 79)
 (.seq (.av [dF 2])
 (.ret))
 (.skip))))))
 (.av [ah 43 5,e8 44 43,ah 5 44]))
def BB:bD:=
 .seq (.av [ir 1 0,dF 2])
 (.seq (.seq (.av [gq 7 1,bU 8 7,⟨some 9,.call 38 [(.t 8)],none,[8]⟩,qv 10 9,ah 11 10,iS 12 1 11,⟨some 13,.call 49 [(.t 12)],(some (11,false)),[12,11]⟩,o_ 14 13 11,eG 15 11 14,ah 16 15,iS 17 1 16,⟨some 18,.call 50 [(.t 17)],(some (16,false)),[17,16]⟩,o_ 19 18 16,eG 20 16 19,ah 21 20,xa 22 1 21,kA 23 22 21,⟨some 24,.bin (.int .lss) (.t 23) (.c (.int .i64 0)),(some (21,false)),[23,21]⟩,eG 25 21 24,ah 26 25,xa 27 1 26,kA 28 27 26,⟨some 29,.bin (.int .gtr) (.t 28) (.c (.int .i64 65536)),(some (26,false)),[28,26]⟩,eG 30 26 29])
 (.cond (.t 30)
 (.seq (.av [dF 2])
 (.ret))
 (.skip)))
 (.seq (.av [eu 32 1,⟨some 33,.call 51 [(.t 32)],none,[32]⟩,ah 31 33,pa 34 31,pb 35 31,ah 3 34,ah 4 35])
 (.seq (.seq (.av [ah 36 4,nK 37 36])
 (.cond (.t 37)
 (.seq (.av [dF 2])
 (.ret))
 (.skip)))
 (.seq (.seq (.av [ev 5])
 (.block 0 (.loop GZ)))
 (.seq (.av [se 2])
 (.ret))))))
theorem PI:cf Tryz.prog Tryz.f39.ntmps (Tryz.f39.body.getD .skip)=BB:=by kernel_rfl
theorem PJ:cW Tryz.prog Tryz.f39.ntmps Tryz.f39.results.toList=[.t 2]:=by kernel_rfl
theorem PH {args:List V} {h:ae} {K:V→ae→Prop} (aj:Nat.ble args.length 80=true) (H:b_ Tryz.prog BB (aS.bk args) h fun e r aa=>e.ends∧∃ab,cH r aa [.t 2]=some ab∧K (oneOf ab) aa):bK Tryz.prog 39 args h K:=
 dv follows c_ Tryz.func39 (c:=Tryz.f39.body.getD .skip) (by kernel_rfl) (by kernel_rfl) (by kernel_rfl) aj PI PJ (by kernel_rfl) H
def BC:bD:=
 .seq (.av [ir 1 0,⟨some 2,.dc (.c .iJ),none,[]⟩])
 (.seq (.av [⟨some 3,.fn 52 [(.t 1)],none,[1]⟩,ah 2 3])
 (.ret))
theorem PM:cf Tryz.prog Tryz.f40.ntmps (Tryz.f40.body.getD .skip)=BC:=by kernel_rfl
theorem PN:cW Tryz.prog Tryz.f40.ntmps Tryz.f40.results.toList=[.t 2]:=by kernel_rfl
theorem PL {args:List V} {h:ae} {K:V→ae→Prop} (aj:Nat.ble args.length 4=true) (H:b_ Tryz.prog BC (aS.bk args) h fun e r aa=>e.ends∧∃ab,cH r aa [.t 2]=some ab∧K (oneOf ab) aa):bK Tryz.prog 40 args h K:=
 dv follows c_ Tryz.func40 (c:=Tryz.f40.body.getD .skip) (by kernel_rfl) (by kernel_rfl) (by kernel_rfl) aj PM PN (by kernel_rfl) H
def BD:bD:=
 .seq (.av [dF 4])
 (.seq (.seq (.av [ah 5 0])
 (.block 0 (.seq (.av [qu 7 5,ah 6 7])
 (.cond (.t 6)
 (.seq (.av [ah 8 1,⟨some 9,.call 62 [(.c (.int .i64 3)),(.t 8)],none,[8]⟩,ah 4 9])
 (.ret))
 (.seq (.av [qw 11 5,ah 10 11])
 (.cond (.t 10)
 (.seq (.av [ah 12 1,⟨some 13,.call 62 [(.c (.int .i64 4)),(.t 12)],none,[12]⟩,ah 4 13])
 (.ret))
 (.seq (.av [sg 15 5,ah 14 15])
 (.cond (.t 14)
 (.seq (.av [ah 16 1,⟨some 17,.call 62 [(.c (.int .i64 5)),(.t 16)],none,[16]⟩,ah 4 17])
 (.ret))
 (.seq (.av [AF 19 5,ah 18 19])
 (.cond (.t 18)
 (.seq (.av [ah 20 1,iT 21 20,⟨some 22,.bin (.int .leq) (.t 21) (.c (.int .i64 4096)),none,[21]⟩,ah 4 22])
 (.ret))
 (.seq (.av [xc 24 5,ah 23 24])
 (.cond (.t 23)
 (.seq (.av [F4 25,ah 26 1,⟨some 27,.call 63 [(.t 25),(.t 26)],none,[25,26]⟩,ah 4 27])
 (.ret))
 (.skip)))))))))))))
 (.seq (.av [ah 28 1,AG 29 28,ah 4 29])
 (.ret)))
theorem PQ:cf Tryz.prog Tryz.f46.ntmps (Tryz.f46.body.getD .skip)=BD:=by kernel_rfl
theorem PR:cW Tryz.prog Tryz.f46.ntmps Tryz.f46.results.toList=[.t 4]:=by kernel_rfl
theorem PO {args:List V} {h:ae} {K:V→ae→Prop} (aj:Nat.ble args.length 30=true) (H:b_ Tryz.prog BD (aS.bk args) h fun e r aa=>e.ends∧∃ab,cH r aa [.t 4]=some ab∧K (oneOf ab) aa):bK Tryz.prog 46 args h K:=
 dv follows c_ Tryz.func46 (c:=Tryz.f46.body.getD .skip) (by kernel_rfl) (by kernel_rfl) (by kernel_rfl) aj PQ PR (by kernel_rfl) H
def G0:bD:=
 .seq (.seq (.av [ah 34 8,ah 35 7,ff 36 35,gG 37 34 36])
 (.cond (.t 37)
 (.skip)
 (.exit 0)))
 (.block 1 (.draw [ah 38 8,ah 39 7,ah 40 8,⟨some 41,.gD 1 (.t 39) (some (.t 40)) none none,none,[39,40]⟩,ah 42 7,ah 43 8,⟨some 44,.gD 1 (.t 42) none (some (.t 43)) none,none,[42,43]⟩,⟨some 45,.copy 1 (.t 41) (.t 44),none,[41,44]⟩,w9 46 38 45,ah 8 46] []))
def BE:bD:=
 .seq (.av [j0 4])
 (.seq (.seq (.av [ah 9 1,⟨some 10,.bin (.int .lss) (.t 9) (.c (.int .i64 0)),none,[9]⟩])
 (.cond (.t 10)
 (.av [⟨some 11,.oy 9 (.c (.str [99,97,110,110,111,116,32,98,101,32,110,101,103,97,116,105,118,101])),none,[]⟩,⟨none,.bad,none,[11]⟩])
 (.skip)))
 (.seq (.av [ah 13 0,ff 14 13,⟨some 15,.gQ (.int .u64) (.t 14),none,[14]⟩,ah 16 1,⟨some 17,.gQ (.int .u64) (.t 16),none,[16]⟩,⟨some 18,.call 64 [(.t 15),(.t 17)],none,[15,17]⟩,ah 12 18,pa 19 12,pb 20 12,ah 5 19,ah 6 20])
 (.seq (.seq (.av [ah 21 5,⟨some 22,.bin (.int .gtr) (.t 21) (.c (.int .u64 0)),none,[21]⟩,ah 23 22,fL 24 6 23,⟨some 25,.bin (.int .gtr) (.t 24) (.c (.int .u64 9223372036854775807)),(some (23,false)),[24,23]⟩,eG 26 23 25])
 (.cond (.t 26)
 (.av [⟨some 27,.oy 9 (.c (.str [116,104,101,32,114,101,115,117,108,116,32,111,102,32,40,108,101,110,40,120,41,32,42,32,99,111,117,110,116,41,32,111,118,101,114,102,108,111,119,115])),none,[]⟩,⟨none,.bad,none,[27]⟩])
 (.skip)))
 (.seq (.av [ah 28 6,⟨some 29,.gQ (.int .i64) (.t 28),none,[28]⟩,⟨some 30,.tE 1 [(.int .i64 0)] (.t 29) (.t 29),none,[29,29]⟩,ah 7 30])
 (.seq (.av [ah 31 7,ah 32 0,⟨some 33,.copy 1 (.t 31) (.t 32),none,[31,32]⟩,ah 8 33])
 (.seq (.block 0 (.loop G0))
 (.seq (.av [ah 47 7,ah 4 47])
 (.ret))))))))
theorem PT:cf Tryz.prog Tryz.f47.ntmps (Tryz.f47.body.getD .skip)=BE:=by kernel_rfl
theorem PU:cW Tryz.prog Tryz.f47.ntmps Tryz.f47.results.toList=[.t 4]:=by kernel_rfl
theorem PS {args:List V} {h:ae} {K:V→ae→Prop} (aj:Nat.ble args.length 48=true) (H:b_ Tryz.prog BE (aS.bk args) h fun e r aa=>e.ends∧∃ab,cH r aa [.t 4]=some ab∧K (oneOf ab) aa):bK Tryz.prog 47 args h K:=
 dv follows c_ Tryz.func47 (c:=Tryz.f47.body.getD .skip) (by kernel_rfl) (by kernel_rfl) (by kernel_rfl) aj PT PU (by kernel_rfl) H
def BF:bD:=
 .seq (.av [ir 2 0,dF 4])
 (.seq (.seq (.av [ah 5 1])
 (.block 0 (.seq (.av [⟨some 7,.bin (.int .eql) (.t 5) (.c (.int .i64 8)),none,[5]⟩,ah 6 7])
 (.cond (.t 6)
 (.seq (.av [gq 8 2,bU 9 8,qu 10 9,ah 4 10])
 (.ret))
 (.seq (.av [⟨some 12,.bin (.int .eql) (.t 5) (.c (.int .i64 9)),none,[5]⟩,ah 11 12])
 (.cond (.t 11)
 (.seq (.av [gq 13 2,bU 14 13,⟨some 15,.bin (.int .eql) (.t 14) (.c (.int .i64 27)),none,[14]⟩,ah 4 15])
 (.ret))
 (.skip)))))))
 (.seq (.av [gq 16 2,bU 17 16,⟨some 18,.call 36 [(.t 17)],none,[17]⟩,ah 19 1,⟨some 20,.bin (.int .eql) (.t 18) (.t 19),none,[18,19]⟩,ah 4 20])
 (.ret)))
theorem PW:cf Tryz.prog Tryz.f48.ntmps (Tryz.f48.body.getD .skip)=BF:=by kernel_rfl
theorem PX:cW Tryz.prog Tryz.f48.ntmps Tryz.f48.results.toList=[.t 4]:=by kernel_rfl
theorem PV {args:List V} {h:ae} {K:V→ae→Prop} (aj:Nat.ble args.length 21=true) (H:b_ Tryz.prog BF (aS.bk args) h fun e r aa=>e.ends∧∃ab,cH r aa [.t 4]=some ab∧K (oneOf ab) aa):bK Tryz.prog 48 args h K:=
 dv follows c_ Tryz.func48 (c:=Tryz.f48.body.getD .skip) (by kernel_rfl) (by kernel_rfl) (by kernel_rfl) aj PW PX (by kernel_rfl) H
def c49:bD:=
 .seq (.av [ir 1 0,dF 2])
 (.seq (.seq (.av [gq 3 1,bU 4 3])
 (.block 0 (.seq (.av [qu 6 4,ah 5 6])
 (.cond (.t 5)
 (.seq (.av [pc 7 1,bU 8 7,⟨some 9,.call 65 [(.c (.int .i64 5)),(.t 8)],none,[8]⟩,ah 2 9])
 (.ret))
 (.seq (.seq (.av [qw 11 4,ah 10 11])
 (.cond (.t 10)
 (.skip)
 (.seq (.av [⟨some 12,.bin (.int .eql) (.t 4) (.c (.int .i64 11)),none,[4]⟩,ah 10 12])
 (.cond (.t 10)
 (.skip)
 (.seq (.av [⟨some 13,.bin (.int .eql) (.t 4) (.c (.int .i64 24)),none,[4]⟩,ah 10 13])
 (.cond (.t 10)
 (.skip)
 (.seq (.av [w' 14 4,ah 10 14])
 (.cond (.t 10)
 (.skip)
 (.av [xb 15 4,ah 10 15])))))))))
 (.cond (.t 10)
 (.seq (.av [pc 16 1,bU 17 16,⟨some 18,.call 65 [(.c (.int .i64 3)),(.t 17)],none,[17]⟩,ah 2 18])
 (.ret))
 (.seq (.seq (.av [⟨some 20,.bin (.int .eql) (.t 4) (.c (.int .i64 16)),none,[4]⟩,ah 19 20])
 (.cond (.t 19)
 (.skip)
 (.seq (.av [⟨some 21,.bin (.int .eql) (.t 4) (.c (.int .i64 25)),none,[4]⟩,ah 19 21])
 (.cond (.t 19)
 (.skip)
 (.seq (.av [w_ 22 4,ah 19 22])
 (.cond (.t 19)
 (.skip)
 (.av [⟨some 23,.bin (.int .eql) (.t 4) (.c (.int .i64 51)),none,[4]⟩,ah 19 23])))))))
 (.cond (.t 19)
 (.seq (.av [pc 24 1,bU 25 24,⟨some 26,.call 65 [(.c (.int .i64 4)),(.t 25)],none,[25]⟩,ah 2 26])
 (.ret))
 (.seq (.av [⟨some 28,.bin (.int .eql) (.t 4) (.c (.int .i64 21)),none,[4]⟩,ah 27 28])
 (.cond (.t 27)
 (.seq (.av [pc 29 1,bU 30 29,iT 31 30,⟨some 32,.bin (.int .leq) (.t 31) (.c (.int .i64 4096)),none,[31]⟩,ah 2 32])
 (.ret))
 (.seq (.av [⟨some 34,.bin (.int .eql) (.t 4) (.c (.int .i64 38)),none,[4]⟩,ah 33 34])
 (.cond (.t 33)
 (.seq (.draw [pc 35 1,bU 36 35,⟨some 37,.call 66 [],none,[]⟩,⟨some 38,.call 59 [(.t 36),(.t 37)],none,[36,37]⟩,ah 2 38] [(1,[2,3])])
 (.ret))
 (.skip)))))))))))))
 (.seq (.av [pc 39 1,bU 40 39,AG 41 40,ah 2 41])
 (.ret)))
theorem PZ:cf Tryz.prog Tryz.f49.ntmps (Tryz.f49.body.getD .skip)=c49:=by kernel_rfl
theorem P0:cW Tryz.prog Tryz.f49.ntmps Tryz.f49.results.toList=[.t 2]:=by kernel_rfl
theorem PY {args:List V} {h:ae} {K:V→ae→Prop} (aj:Nat.ble args.length 42=true) (H:b_ Tryz.prog c49 (aS.bk args) h fun e r aa=>e.ends∧∃ab,cH r aa [.t 2]=some ab∧K (oneOf ab) aa):bK Tryz.prog 49 args h K:=
 dv follows c_ Tryz.func49 (c:=Tryz.f49.body.getD .skip) (by kernel_rfl) (by kernel_rfl) (by kernel_rfl) aj PZ P0 (by kernel_rfl) H
def BG:bD:=
 .seq (.av [ir 1 0,dF 2])
 (.seq (.seq (.av [gq 3 1,bU 4 3])
 (.block 0 (.seq (.seq (.av [⟨some 6,.bin (.int .eql) (.t 4) (.c (.int .i64 12)),none,[4]⟩,ah 5 6])
 (.cond (.t 5)
 (.skip)
 (.av [⟨some 7,.bin (.int .eql) (.t 4) (.c (.int .i64 20)),none,[4]⟩,ah 5 7])))
 (.cond (.t 5)
 (.seq (.av [dO 8 1,bU 9 8,⟨some 10,.bin (.int .geq) (.t 9) (.c (.int .i64 (-1073741824))),none,[9]⟩,ah 11 10,sh 12 1 11,jt 13 12 11,⟨some 14,.bin (.int .leq) (.t 13) (.c (.int .i64 1073741823)),(some (11,true)),[13,11]⟩,dC 15 11 14,ah 2 15])
 (.ret))
 (.seq (.seq (.av [⟨some 17,.bin (.int .eql) (.t 4) (.c (.int .i64 14)),none,[4]⟩,ah 16 17])
 (.cond (.t 16)
 (.skip)
 (.av [⟨some 18,.bin (.int .eql) (.t 4) (.c (.int .i64 23)),none,[4]⟩,ah 16 18])))
 (.cond (.t 16)
 (.seq (.av [dO 19 1,bU 20 19,qv 21 20,ah 22 21,⟨some 23,.fs 1 (.t 1),(some (22,false)),[1,22]⟩,kA 24 23 22,⟨some 25,.bin (.int .eql) (.t 24) (.c (.int .i64 1)),(some (22,false)),[24,22]⟩,eG 26 22 25,ah 2 26])
 (.ret))
 (.seq (.av [xb 28 4,ah 27 28])
 (.cond (.t 27)
 (.seq (.av [dO 29 1,bU 30 29,xd 31 30,ah 32 31,sh 33 1 32,jt 34 33 32,⟨some 35,.bin (.int .leq) (.t 34) (.c (.int .i64 64)),(some (32,true)),[34,32]⟩,dC 36 32 35,ah 37 36,sh 38 1 37,jt 39 38 37,⟨some 40,.fs 4 (.t 1),(some (37,true)),[1,37]⟩,jt 41 40 37,⟨some 42,.len .slice (.t 41),(some (37,true)),[41,37]⟩,⟨some 43,.bin (.int .lss) (.t 39) (.t 42),(some (37,true)),[39,42,37]⟩,dC 44 37 43,ah 2 44])
 (.ret))
 (.skip)))))))))
 (.seq (.av [dO 45 1,bU 46 45,qv 47 46,ah 2 47])
 (.ret)))
theorem P5:cf Tryz.prog Tryz.f50.ntmps (Tryz.f50.body.getD .skip)=BG:=by kernel_rfl
theorem P6:cW Tryz.prog Tryz.f50.ntmps Tryz.f50.results.toList=[.t 2]:=by kernel_rfl
theorem P4 {args:List V} {h:ae} {K:V→ae→Prop} (aj:Nat.ble args.length 48=true) (H:b_ Tryz.prog BG (aS.bk args) h fun e r aa=>e.ends∧∃ab,cH r aa [.t 2]=some ab∧K (oneOf ab) aa):bK Tryz.prog 50 args h K:=
 dv follows c_ Tryz.func50 (c:=Tryz.f50.body.getD .skip) (by kernel_rfl) (by kernel_rfl) (by kernel_rfl) aj P5 P6 (by kernel_rfl) H
def c51:bD:=
 .seq (.av [ir 1 0,j0 2,dF 3])
 (.seq (.av [k6 5 1,bU 6 5,ff 7 6,ah 4 7])
 (.seq (.seq (.av [gq 8 1,bU 9 8])
 (.block 0 (.seq (.av [qw 11 9,ah 10 11])
 (.cond (.t 10)
 (.seq (.av [ah 12 4,⟨some 13,.call 67 [(.c (.int .i64 1)),(.t 12)],none,[12]⟩,ah 14 4,⟨some 15,.bin (.int .leq) (.t 14) (.c (.int .i64 64)),none,[14]⟩,ah 2 13,ah 3 15])
 (.ret))
 (.seq (.seq (.av [sg 17 9,ah 16 17])
 (.cond (.t 16)
 (.skip)
 (.av [AF 18 9,ah 16 18])))
 (.cond (.t 16)
 (.seq (.av [⟨some 19,.call 67 [(.c (.int .i64 1)),(.c (.int .i64 2))],none,[]⟩,ah 20 4,qw 21 20,ah 2 19,ah 3 21])
 (.ret))
 (.seq (.av [⟨some 23,.bin (.int .eql) (.t 9) (.c (.int .i64 15)),none,[9]⟩,ah 22 23])
 (.cond (.t 22)
 (.seq (.av [⟨some 24,.call 67 [(.c (.int .i64 2)),(.c (.int .i64 2))],none,[]⟩,ah 25 4,qw 26 25,ah 2 24,ah 3 26])
 (.ret))
 (.seq (.av [⟨some 28,.bin (.int .eql) (.t 9) (.c (.int .i64 16)),none,[9]⟩,ah 27 28])
 (.cond (.t 27)
 (.seq (.av [ah 29 4,⟨some 30,.call 67 [(.c (.int .i64 2)),(.t 29)],none,[29]⟩,ah 31 4,AH 32 31,ah 2 30,ah 3 32])
 (.ret))
 (.seq (.av [⟨some 34,.bin (.int .eql) (.t 9) (.c (.int .i64 25)),none,[9]⟩,ah 33 34])
 (.cond (.t 33)
 (.seq (.av [ah 35 4,⟨some 36,.call 67 [(.c (.int .i64 3)),(.t 35)],none,[35]⟩,ah 37 4,AH 38 37,ah 2 36,ah 3 38])
 (.ret))
 (.seq (.seq (.av [⟨some 40,.bin (.int .eql) (.t 9) (.c (.int .i64 26)),none,[9]⟩,ah 39 40])
 (.cond (.t 39)
 (.skip)
 (.seq (.av [⟨some 41,.bin (.int .eql) (.t 9) (.c (.int .i64 28)),none,[9]⟩,ah 39 41])
 (.cond (.t 39)
 (.skip)
 (.seq (.av [⟨some 42,.bin (.int .eql) (.t 9) (.c (.int .i64 35)),none,[9]⟩,ah 39 42])
 (.cond (.t 39)
 (.skip)
 (.seq (.av [⟨some 43,.bin (.int .eql) (.t 9) (.c (.int .i64 37)),none,[9]⟩,ah 39 43])
 (.cond (.t 39)
 (.skip)
 (.av [⟨some 44,.bin (.int .eql) (.t 9) (.c (.int .i64 38)),none,[9]⟩,ah 39 44])))))))))
 (.cond (.t 39)
 (.seq (.av [⟨some 45,.call 67 [(.c (.int .i64 3)),(.c (.int .i64 2))],none,[]⟩,ah 46 4,qw 47 46,ah 2 45,ah 3 47])
 (.ret))
 (.seq (.seq (.av [⟨some 49,.bin (.int .eql) (.t 9) (.c (.int .i64 34)),none,[9]⟩,ah 48 49])
 (.cond (.t 48)
 (.skip)
 (.seq (.av [⟨some 50,.bin (.int .eql) (.t 9) (.c (.int .i64 36)),none,[9]⟩,ah 48 50])
 (.cond (.t 48)
 (.skip)
 (.av [⟨some 51,.bin (.int .eql) (.t 9) (.c (.int .i64 39)),none,[9]⟩,ah 48 51])))))
 (.cond (.t 48)
 (.seq (.av [⟨some 52,.call 67 [(.c (.int .i64 3)),(.c (.int .i64 1))],none,[]⟩,ah 53 4,qu 54 53,ah 2 52,ah 3 54])
 (.ret))
 (.seq (.av [⟨some 56,.bin (.int .eql) (.t 9) (.c (.int .i64 31)),none,[9]⟩,ah 55 56])
 (.cond (.t 55)
 (.seq (.av [⟨some 57,.call 67 [(.c (.int .i64 3)),(.c (.int .i64 3))],none,[]⟩,ah 58 4,sg 59 58,ah 2 57,ah 3 59])
 (.ret))
 (.seq (.seq (.av [⟨some 61,.bin (.int .eql) (.t 9) (.c (.int .i64 27)),none,[9]⟩,ah 60 61])
 (.cond (.t 60)
 (.skip)
 (.seq (.av [AE 62 9,ah 60 62])
 (.cond (.t 60)
 (.skip)
 (.av [⟨some 63,.bin (.int .eql) (.t 9) (.c (.int .i64 52)),none,[9]⟩,ah 60 63])))))
 (.cond (.t 60)
 (.seq (.av [⟨some 64,.gP 2 1 [(.int .i64 0)] [(0,1,(.c (.int .i64 2))),(1,1,(.c (.int .i64 3)))],none,[]⟩,ah 65 4,qw 66 65,ah 2 64,ah 3 66])
 (.ret))
 (.seq (.av [⟨some 68,.bin (.int .eql) (.t 9) (.c (.int .i64 29)),none,[9]⟩,ah 67 68])
 (.cond (.t 67)
 (.seq (.av [⟨some 69,.gP 3 1 [(.int .i64 0)] [(0,1,(.c (.int .i64 2))),(1,1,(.c (.int .i64 3))),(2,1,(.c (.int .i64 3)))],none,[]⟩,ah 70 4,sg 71 70,ah 2 69,ah 3 71])
 (.ret))
 (.seq (.av [⟨some 73,.bin (.int .eql) (.t 9) (.c (.int .i64 30)),none,[9]⟩,ah 72 73])
 (.cond (.t 72)
 (.seq (.av [ah 74 4,w7 75 74,⟨some 76,.call 67 [(.c (.int .i64 5)),(.t 75)],none,[75]⟩,⟨some 77,.gP 1 1 [(.int .i64 0)] [(0,1,(.c (.int .i64 3)))],none,[]⟩,si 78 76 77,ah 79 4,⟨some 80,.bin (.int .geq) (.t 79) (.c (.int .i64 2)),none,[79]⟩,ah 2 78,ah 3 80])
 (.ret))
 (.seq (.seq (.av [⟨some 82,.bin (.int .eql) (.t 9) (.c (.int .i64 32)),none,[9]⟩,ah 81 82])
 (.cond (.t 81)
 (.skip)
 (.av [⟨some 83,.bin (.int .eql) (.t 9) (.c (.int .i64 33)),none,[9]⟩,ah 81 83])))
 (.cond (.t 81)
 (.seq (.av [⟨some 84,.gP 1 1 [(.int .i64 0)] [(0,1,(.c (.int .i64 3)))],none,[]⟩,ah 85 4,w7 86 85,⟨some 87,.call 67 [(.c (.int .i64 4)),(.t 86)],none,[86]⟩,si 88 84 87,ah 89 4,⟨some 90,.bin (.int .geq) (.t 89) (.c (.int .i64 2)),none,[89]⟩,ah 2 88,ah 3 90])
 (.ret))
 (.seq (.av [w' 92 9,ah 91 92])
 (.cond (.t 91)
 (.seq (.draw [ah 94 4,qu 95 94,⟨some 93,.call 67 [(.c (.int .i64 3)),(.c (.int .i64 1))],none,[]⟩,ah 96 95,⟨some 97,.fs 4 (.t 1),(some (96,true)),[1,96]⟩,jt 98 97 96,sd 99 98 96,uC 100 99 96,jt 101 100 96,⟨some 102,.bin (.int .eql) (.t 101) (.c (.int .i64 27)),(some (96,true)),[101,96]⟩,dC 103 96 102,ah 2 93,ah 3 103] [(5,[13]),(8,[13])])
 (.ret))
 (.seq (.seq (.av [w_ 105 9,ah 104 105])
 (.cond (.t 104)
 (.skip)
 (.av [⟨some 106,.bin (.int .eql) (.t 9) (.c (.int .i64 51)),none,[9]⟩,ah 104 106])))
 (.cond (.t 104)
 (.seq (.av [ah 107 4,⟨some 108,.call 67 [(.c (.int .i64 1)),(.t 107)],none,[107]⟩,ah 109 4,AH 110 109,ah 2 108,ah 3 110])
 (.ret))
 (.seq (.av [xb 112 9,ah 111 112])
 (.cond (.t 111)
 (.seq (.draw [dO 113 1,bU 114 113,ah 116 4,dO 117 1,bU 118 117,uB 119 116 118,⟨some 115,.call 67 [(.c (.int .i64 8)),(.t 114)],none,[114]⟩,⟨some 120,.call 67 [(.c (.int .i64 6)),(.t 119)],none,[119]⟩,si 121 115 120,ah 2 121,se 3] [(1,[6]),(4,[6,7])])
 (.ret))
 (.seq (.av [⟨some 123,.bin (.int .eql) (.t 9) (.c (.int .i64 53)),none,[9]⟩,ah 122 123])
 (.cond (.t 122)
 (.seq (.av [ah 124 4,⟨some 125,.call 67 [(.c (.int .i64 5)),(.t 124)],none,[124]⟩,ah 126 4,AD 127 126,ah 2 125,ah 3 127])
 (.ret))
 (.skip)))))))))))))))))))))))))))))))))))
 (.seq (.av [ah 128 4,qv 129 128,j0 2,ah 3 129])
 (.ret))))
theorem P8:cf Tryz.prog Tryz.f51.ntmps (Tryz.f51.body.getD .skip)=c51:=by kernel_rfl
theorem P9:cW Tryz.prog Tryz.f51.ntmps Tryz.f51.results.toList=[.t 2,.t 3]:=by kernel_rfl
theorem P7 {args:List V} {h:ae} {K:V→ae→Prop} (aj:Nat.ble args.length 130=true) (H:b_ Tryz.prog c51 (aS.bk args) h fun e r aa=>e.ends∧∃ab,cH r aa [.t 2,.t 3]=some ab∧K (oneOf ab) aa):bK Tryz.prog 51 args h K:=
 dv follows c_ Tryz.func51 (c:=Tryz.f51.body.getD .skip) (by kernel_rfl) (by kernel_rfl) (by kernel_rfl) aj P8 P9 (by kernel_rfl) H
def BH:bD:=
 .seq (.av [ir 2 0])
 (.seq (.av [⟨some 3,.new [.iJ],none,[]⟩])
 (.seq (.av [⟨some 4,.fn 53 [(.t 2),(.t 3)],none,[2,3]⟩,⟨none,.st 1 (.t 3) (.t 4),none,[3,4]⟩])
 (.av [bU 5 3,eu 6 1,⟨some 7,.lf (.t 5) [(.t 6)],none,[5,6]⟩])))
theorem P_:cf Tryz.prog Tryz.f52.ntmps (Tryz.f52.body.getD .skip)=BH:=by kernel_rfl
theorem Qa:cW Tryz.prog Tryz.f52.ntmps Tryz.f52.results.toList=[]:=by kernel_rfl
theorem P' {args:List V} {h:ae} {K:V→ae→Prop} (aj:Nat.ble args.length 8=true) (H:b_ Tryz.prog BH (aS.bk args) h fun e r aa=>e.ends∧∃ab,cH r aa []=some ab∧K (oneOf ab) aa):bK Tryz.prog 52 args h K:=
 dv follows c_ Tryz.func52 (c:=Tryz.f52.body.getD .skip) (by kernel_rfl) (by kernel_rfl) (by kernel_rfl) aj P_ Qa (by kernel_rfl) H
def G2:bD:=
 .seq (.av [gG 15 14 13])
 (.seq (.cond (.t 15)
 (.skip)
 (.exit 0))
 (.seq (.block 1 (.seq (.av [jY 16 12 14,eu 17 16,o' 6,⟨none,.st 5 (.t 6) (.t 17),none,[6,17]⟩])
 (.seq (.av [bU 18 2,eu 19 6,⟨some 20,.lf (.t 18) [(.t 19)],none,[18,19]⟩,nK 21 20])
 (.cond (.t 21)
 (.seq (.av [dF 4])
 (.ret))
 (.skip)))))
 (.av [e8 22 14,ah 14 22])))
def BI:bD:=
 .seq (.av [ir 3 0,dF 4])
 (.seq (.seq (.av [bU 7 1,eu 8 3,⟨some 9,.lf (.t 7) [(.t 8)],none,[7,8]⟩,nK 10 9])
 (.cond (.t 10)
 (.seq (.av [dF 4])
 (.ret))
 (.skip)))
 (.seq (.seq (.av [k6 11 3,bU 12 11,ff 13 12,ev 14])
 (.block 0 (.loop G2)))
 (.seq (.av [se 4])
 (.ret))))
theorem Qc:cf Tryz.prog Tryz.f53.ntmps (Tryz.f53.body.getD .skip)=BI:=by kernel_rfl
theorem Qd:cW Tryz.prog Tryz.f53.ntmps Tryz.f53.results.toList=[.t 4]:=by kernel_rfl
theorem Qb {args:List V} {h:ae} {K:V→ae→Prop} (aj:Nat.ble args.length 23=true) (H:b_ Tryz.prog BI (aS.bk args) h fun e r aa=>e.ends∧∃ab,cH r aa [.t 4]=some ab∧K (oneOf ab) aa):bK Tryz.prog 53 args h K:=
 dv follows c_ Tryz.func53 (c:=Tryz.f53.body.getD .skip) (by kernel_rfl) (by kernel_rfl) (by kernel_rfl) aj Qc Qd (by kernel_rfl) H
def G3:bD:=
 .seq (.seq (.av [ah 6 5,ah 7 1,ff 8 7,gG 9 6 8])
 (.cond (.t 9)
 (.skip)
 (.exit 0)))
 (.seq (.block 1 (.seq (.av [ah 12 1,ah 13 5,lR 14 12 13,bU 15 14,ah 16 0,xe 17 15 16])
 (.cond (.t 17)
 (.seq (.av [se 4])
 (.ret))
 (.skip))))
 (.av [ah 10 5,e8 11 10,ah 5 11]))
def BJ:bD:=
 .seq (.av [dF 4])
 (.seq (.seq (.av [ev 5])
 (.block 0 (.loop G3)))
 (.seq (.av [dF 4])
 (.ret)))
theorem Qf:cf Tryz.prog Tryz.f59.ntmps (Tryz.f59.body.getD .skip)=BJ:=by kernel_rfl
theorem Qg:cW Tryz.prog Tryz.f59.ntmps Tryz.f59.results.toList=[.t 4]:=by kernel_rfl
theorem Qe {args:List V} {h:ae} {K:V→ae→Prop} (aj:Nat.ble args.length 18=true) (H:b_ Tryz.prog BJ (aS.bk args) h fun e r aa=>e.ends∧∃ab,cH r aa [.t 4]=some ab∧K (oneOf ab) aa):bK Tryz.prog 59 args h K:=
 dv follows c_ Tryz.func59 (c:=Tryz.f59.body.getD .skip) (by kernel_rfl) (by kernel_rfl) (by kernel_rfl) aj Qf Qg (by kernel_rfl) H
def BK:bD:=
 .seq (.av [dF 4])
 (.seq (.seq (.av [ah 7 1,iT 8 7,⟨some 9,.bin (.int .gtr) (.t 8) (.c (.int .i64 64)),none,[8]⟩,ah 10 9,fL 11 1 10,⟨some 12,.bin (.str .eql) (.t 11) (.c (.str [])),(some (10,false)),[11,10]⟩,eG 13 10 12])
 (.cond (.t 13)
 (.seq (.av [dF 4])
 (.ret))
 (.skip)))
 (.seq (.seq (.av [ah 14 0,xc 15 14])
 (.cond (.t 15)
 (.av [ah 16 1,⟨some 17,.bin (.str .add) (.c (.str [39])) (.t 16),none,[16]⟩,ah 1 17])
 (.skip)))
 (.seq (.av [ah 19 1,⟨some 20,.call 72 [(.t 19)],none,[19]⟩,ah 18 20,pa 21 18,pb 22 18,⟨some 6,.new [(.int .i64 0),(.int .i64 0)],none,[]⟩,ah 5 21,⟨none,.st 2 (.t 6) (.t 22),none,[6,22]⟩])
 (.seq (.av [gq 23 6,bU 24 23,qv 25 24,ah 26 25,da 27 5 26,⟨some 28,.len .slice (.t 27),(some (26,true)),[27,26]⟩,⟨some 29,.bin (.int .eql) (.t 28) (.c (.int .i64 1)),(some (26,true)),[28,26]⟩,dC 30 26 29,ah 31 30,da 32 5 31,xf 33 32 31,uC 34 33 31,jt 35 34 31,da 36 0 31,Az 37 35 36 31,dC 38 31 37,ah 39 38,da 40 5 39,xf 41 40 39,⟨some 42,.fs 2 (.t 41),(some (39,true)),[41,39]⟩,jt 43 42 39,⟨some 44,.bin (.int .eql) (.t 43) (.c (.int .i64 0)),(some (39,true)),[43,39]⟩,dC 45 39 44,ah 46 45,da 47 5 46,xf 48 47 46,⟨some 49,.fs 3 (.t 48),(some (46,true)),[48,46]⟩,jt 50 49 46,⟨some 51,.len .str (.t 50),(some (46,true)),[50,46]⟩,⟨some 52,.bin (.int .gtr) (.t 51) (.c (.int .i64 0)),(some (46,true)),[51,46]⟩,dC 53 46 52,ah 54 53,da 55 5 54,xf 56 55 54,⟨some 57,.hT 4 (.t 56),(some (54,true)),[56,54]⟩,da 58 1 54,⟨some 59,.call 73 [(.t 57),(.t 58)],(some (54,true)),[57,58,54]⟩,dC 60 54 59,ah 4 60])
 (.ret)))))
theorem Qi:cf Tryz.prog Tryz.f62.ntmps (Tryz.f62.body.getD .skip)=BK:=by kernel_rfl
theorem Qj:cW Tryz.prog Tryz.f62.ntmps Tryz.f62.results.toList=[.t 4]:=by kernel_rfl
theorem Qh {args:List V} {h:ae} {K:V→ae→Prop} (aj:Nat.ble args.length 61=true) (H:b_ Tryz.prog BK (aS.bk args) h fun e r aa=>e.ends∧∃ab,cH r aa [.t 4]=some ab∧K (oneOf ab) aa):bK Tryz.prog 62 args h K:=
 dv follows c_ Tryz.func62 (c:=Tryz.f62.body.getD .skip) (by kernel_rfl) (by kernel_rfl) (by kernel_rfl) aj Qi Qj (by kernel_rfl) H
def BL:bD:=
 .seq (.av [dF 4])
 (.seq (.av [ah 5 0,ah 6 1,⟨some 7,.call 74 [(.t 5),(.t 6)],none,[5,6]⟩,xd 8 7,ah 4 8])
 (.ret))
theorem Ql:cf Tryz.prog Tryz.f63.ntmps (Tryz.f63.body.getD .skip)=BL:=by kernel_rfl
theorem Qm:cW Tryz.prog Tryz.f63.ntmps Tryz.f63.results.toList=[.t 4]:=by kernel_rfl
theorem Qk {args:List V} {h:ae} {K:V→ae→Prop} (aj:Nat.ble args.length 9=true) (H:b_ Tryz.prog BL (aS.bk args) h fun e r aa=>e.ends∧∃ab,cH r aa [.t 4]=some ab∧K (oneOf ab) aa):bK Tryz.prog 63 args h K:=
 dv follows c_ Tryz.func63 (c:=Tryz.f63.body.getD .skip) (by kernel_rfl) (by kernel_rfl) (by kernel_rfl) aj Ql Qm (by kernel_rfl) H
def G4:bD:=
 .seq (.seq (.av [ah 13 5,ah 14 1,iT 15 14,gG 16 13 15])
 (.cond (.t 16)
 (.skip)
 (.exit 0)))
 (.seq (.block 1 (.seq (.av [ah 19 1,ah 20 5,xg 21 19 20,⟨some 22,.call 77 [(.t 21)],none,[21]⟩,nK 23 22])
 (.cond (.t 23)
 (.seq (.av [dF 4])
 (.ret))
 (.skip))))
 (.av [ah 17 5,e8 18 17,ah 5 18]))
def BM:bD:=
 .seq (.av [dF 4])
 (.seq (.seq (.av [ah 6 1,AG 7 6,ah 8 7,fL 9 1 8,⟨some 10,.len .str (.t 9),(some (8,false)),[9,8]⟩,⟨some 11,.bin (.int .gtr) (.t 10) (.c (.int .i64 64)),(some (8,false)),[10,8]⟩,eG 12 8 11])
 (.cond (.t 12)
 (.seq (.av [dF 4])
 (.ret))
 (.skip)))
 (.seq (.seq (.av [ev 5])
 (.block 0 (.loop G4)))
 (.seq (.seq (.av [ah 24 0])
 (.block 2 (.seq (.av [AF 26 24,ah 25 26])
 (.cond (.t 25)
 (.seq (.av [ah 27 1,xh 28 27,⟨some 29,.call 78 [(.t 28),(.c (.int .u8 65)),(.c (.int .u8 90))],none,[28]⟩,ah 4 29])
 (.ret))
 (.seq (.av [xc 31 24,ah 30 31])
 (.cond (.t 30)
 (.seq (.av [ah 32 1,xh 33 32,AI 34 33,ah 4 34])
 (.ret))
 (.skip)))))))
 (.seq (.av [ah 35 1,xh 36 35,AI 37 36,ah 38 37,fL 39 1 38,⟨some 40,.jP (.t 39) (.c (.int .i64 0)),(some (38,false)),[39,38]⟩,xi 41 40 38,eG 42 38 41,ah 43 42,da 44 1 43,⟨some 45,.bin (.str .neq) (.t 44) (.c (.str [95])),(some (43,true)),[44,43]⟩,dC 46 43 45,ah 47 46,da 48 1 47,⟨some 49,.call 79 [],(some (47,true)),[47]⟩,⟨some 50,.call 59 [(.t 48),(.t 49)],(some (47,true)),[48,49,47]⟩,⟨some 51,.un .not (.t 50),(some (47,true)),[50,47]⟩,dC 52 47 51,ah 4 52])
 (.ret)))))
theorem Qo:cf Tryz.prog Tryz.f65.ntmps (Tryz.f65.body.getD .skip)=BM:=by kernel_rfl
theorem Qp:cW Tryz.prog Tryz.f65.ntmps Tryz.f65.results.toList=[.t 4]:=by kernel_rfl
theorem Qn {args:List V} {h:ae} {K:V→ae→Prop} (aj:Nat.ble args.length 53=true) (H:b_ Tryz.prog BM (aS.bk args) h fun e r aa=>e.ends∧∃ab,cH r aa [.t 4]=some ab∧K (oneOf ab) aa):bK Tryz.prog 65 args h K:=
 dv follows c_ Tryz.func65 (c:=Tryz.f65.body.getD .skip) (by kernel_rfl) (by kernel_rfl) (by kernel_rfl) aj Qo Qp (by kernel_rfl) H
def BN:bD:=
 .seq (.av [j0 0])
 (.seq (.av [F4 1,ah 0 1])
 (.ret))
theorem Qr:cf Tryz.prog Tryz.f66.ntmps (Tryz.f66.body.getD .skip)=BN:=by kernel_rfl
theorem Qs:cW Tryz.prog Tryz.f66.ntmps Tryz.f66.results.toList=[.t 0]:=by kernel_rfl
theorem Qq {args:List V} {h:ae} {K:V→ae→Prop} (aj:Nat.ble args.length 2=true) (H:b_ Tryz.prog BN (aS.bk args) h fun e r aa=>e.ends∧∃ab,cH r aa [.t 0]=some ab∧K (oneOf ab) aa):bK Tryz.prog 66 args h K:=
 dv follows c_ Tryz.func66 (c:=Tryz.f66.body.getD .skip) (by kernel_rfl) (by kernel_rfl) (by kernel_rfl) aj Qr Qs (by kernel_rfl) H
def G5:bD:=
 .seq (.seq (.av [ah 7 6,ah 8 1,gG 9 7 8])
 (.cond (.t 9)
 (.skip)
 (.exit 0)))
 (.seq (.block 1 (.av [ah 12 5,ah 13 0,⟨some 14,.gP 1 1 [(.int .i64 0)] [(0,1,(.t 13))],none,[13]⟩,si 15 12 14,ah 5 15]))
 (.av [ah 10 6,e8 11 10,ah 6 11]))
def BO:bD:=
 .seq (.av [j0 4])
 (.seq (.av [j0 5])
 (.seq (.seq (.av [ev 6])
 (.block 0 (.loop G5)))
 (.seq (.av [ah 16 5,ah 4 16])
 (.ret))))
theorem Qu:cf Tryz.prog Tryz.f67.ntmps (Tryz.f67.body.getD .skip)=BO:=by kernel_rfl
theorem Qv:cW Tryz.prog Tryz.f67.ntmps Tryz.f67.results.toList=[.t 4]:=by kernel_rfl
theorem Qt {args:List V} {h:ae} {K:V→ae→Prop} (aj:Nat.ble args.length 17=true) (H:b_ Tryz.prog BO (aS.bk args) h fun e r aa=>e.ends∧∃ab,cH r aa [.t 4]=some ab∧K (oneOf ab) aa):bK Tryz.prog 67 args h K:=
 dv follows c_ Tryz.func67 (c:=Tryz.f67.body.getD .skip) (by kernel_rfl) (by kernel_rfl) (by kernel_rfl) aj Qu Qv (by kernel_rfl) H
def BR:bD:=
 .seq (.av [ir 2 0,dF 4])
 (.seq (.seq (.av [gq 5 2,bU 6 5,xc 7 6])
 (.cond (.t 7)
 (.seq (.av [ah 8 1,pc 9 2,bU 10 9,⟨some 11,.bin (.str .add) (.c (.str [39])) (.t 10),none,[10]⟩,xe 12 8 11,ah 4 12])
 (.ret))
 (.skip)))
 (.seq (.av [ah 13 1,pc 14 2,bU 15 14,xe 16 13 15,ah 4 16])
 (.ret)))
theorem QA:cf Tryz.prog Tryz.f73.ntmps (Tryz.f73.body.getD .skip)=BR:=by kernel_rfl
theorem QB:cW Tryz.prog Tryz.f73.ntmps Tryz.f73.results.toList=[.t 4]:=by kernel_rfl
theorem Qz {args:List V} {h:ae} {K:V→ae→Prop} (aj:Nat.ble args.length 17=true) (H:b_ Tryz.prog BR (aS.bk args) h fun e r aa=>e.ends∧∃ab,cH r aa [.t 4]=some ab∧K (oneOf ab) aa):bK Tryz.prog 73 args h K:=
 dv follows c_ Tryz.func73 (c:=Tryz.f73.body.getD .skip) (by kernel_rfl) (by kernel_rfl) (by kernel_rfl) aj QA QB (by kernel_rfl) H
def G7:bD:=
 .seq (.av [gG 9 8 7])
 (.seq (.cond (.t 9)
 (.skip)
 (.exit 0))
 (.seq (.block 1 (.seq (.av [ah 10 8,ah 5 10])
 (.seq (.av [ah 11 1,ah 12 0,ah 13 5,lR 14 12 13,bU 15 14,xe 16 11 15])
 (.cond (.t 16)
 (.seq (.av [ah 17 5,ah 4 17])
 (.ret))
 (.skip)))))
 (.av [e8 18 8,ah 8 18])))
def BS:bD:=
 .seq (.av [ev 4])
 (.seq (.seq (.av [ah 6 0,ff 7 6,ev 8])
 (.block 0 (.loop G7)))
 (.seq (.av [⟨some 4,.dc (.c (.int .i64 (-1))),none,[]⟩])
 (.ret)))
theorem QD:cf Tryz.prog Tryz.f74.ntmps (Tryz.f74.body.getD .skip)=BS:=by kernel_rfl
theorem QE:cW Tryz.prog Tryz.f74.ntmps Tryz.f74.results.toList=[.t 4]:=by kernel_rfl
theorem QC {args:List V} {h:ae} {K:V→ae→Prop} (aj:Nat.ble args.length 19=true) (H:b_ Tryz.prog BS (aS.bk args) h fun e r aa=>e.ends∧∃ab,cH r aa [.t 4]=some ab∧K (oneOf ab) aa):bK Tryz.prog 74 args h K:=
 dv follows c_ Tryz.func74 (c:=Tryz.f74.body.getD .skip) (by kernel_rfl) (by kernel_rfl) (by kernel_rfl) aj QD QE (by kernel_rfl) H
def BT:bD:=
 .seq (.av [dF 2])
 (.seq (.av [ah 3 0,AI 4 3,ah 5 4,fL 6 0 5,⟨some 7,.call 78 [(.t 6),(.c (.int .u8 65)),(.c (.int .u8 90))],(some (5,false)),[6,5]⟩,eG 8 5 7,ah 9 8,fL 10 0 9,⟨some 11,.call 78 [(.t 10),(.c (.int .u8 48)),(.c (.int .u8 57))],(some (9,false)),[10,9]⟩,eG 12 9 11,ah 13 12,fL 14 0 13,xi 15 14 13,eG 16 13 15,ah 17 16,fL 18 0 17,⟨some 19,.bin (.int .eql) (.t 18) (.c (.int .u8 39)),(some (17,false)),[18,17]⟩,eG 20 17 19,ah 2 20])
 (.ret))
theorem QG:cf Tryz.prog Tryz.f77.ntmps (Tryz.f77.body.getD .skip)=BT:=by kernel_rfl
theorem QH:cW Tryz.prog Tryz.f77.ntmps Tryz.f77.results.toList=[.t 2]:=by kernel_rfl
theorem QF {args:List V} {h:ae} {K:V→ae→Prop} (aj:Nat.ble args.length 21=true) (H:b_ Tryz.prog BT (aS.bk args) h fun e r aa=>e.ends∧∃ab,cH r aa [.t 2]=some ab∧K (oneOf ab) aa):bK Tryz.prog 77 args h K:=
 dv follows c_ Tryz.func77 (c:=Tryz.f77.body.getD .skip) (by kernel_rfl) (by kernel_rfl) (by kernel_rfl) aj QG QH (by kernel_rfl) H
def BU:bD:=
 .seq (.av [dF 6])
 (.seq (.av [ah 7 0,ah 8 1,sf 9 7 8,ah 10 9,da 11 0 10,da 12 2 10,⟨some 13,.bin (.int .leq) (.t 11) (.t 12),(some (10,true)),[11,12,10]⟩,dC 14 10 13,ah 6 14])
 (.ret))
theorem QJ:cf Tryz.prog Tryz.f78.ntmps (Tryz.f78.body.getD .skip)=BU:=by kernel_rfl
theorem QK:cW Tryz.prog Tryz.f78.ntmps Tryz.f78.results.toList=[.t 6]:=by kernel_rfl
theorem QI {args:List V} {h:ae} {K:V→ae→Prop} (aj:Nat.ble args.length 15=true) (H:b_ Tryz.prog BU (aS.bk args) h fun e r aa=>e.ends∧∃ab,cH r aa [.t 6]=some ab∧K (oneOf ab) aa):bK Tryz.prog 78 args h K:=
 dv follows c_ Tryz.func78 (c:=Tryz.f78.body.getD .skip) (by kernel_rfl) (by kernel_rfl) (by kernel_rfl) aj QJ QK (by kernel_rfl) H
def BV:bD:=
 .seq (.av [j0 0])
 (.seq (.av [⟨some 1,.gP 20 1 [(.str [])] [(0,1,(.c (.str [97,110,100]))),(1,1,(.c (.str [98,101,103,105,110]))),(2,1,(.c (.str [101,108,115,101]))),(3,1,(.c (.str [101,110,100]))),(4,1,(.c (.str [101,120,99,101,112,116,105,111,110]))),(5,1,(.c (.str [102,97,108,115,101]))),(6,1,(.c (.str [102,117,110]))),(7,1,(.c (.str [105,102]))),(8,1,(.c (.str [105,110]))),(9,1,(.c (.str [108,101,116]))),(10,1,(.c (.str [109,97,116,99,104]))),(11,1,(.c (.str [109,111,100]))),(12,1,(.c (.str [111,102]))),(13,1,(.c (.str [114,97,105,115,101]))),(14,1,(.c (.str [114,101,99]))),(15,1,(.c (.str [116,104,101,110]))),(16,1,(.c (.str [116,114,117,101]))),(17,1,(.c (.str [116,114,121]))),(18,1,(.c (.str [116,121,112,101]))),(19,1,(.c (.str [119,105,116,104])))],none,[]⟩,ah 0 1])
 (.ret))
theorem QM:cf Tryz.prog Tryz.f79.ntmps (Tryz.f79.body.getD .skip)=BV:=by kernel_rfl
theorem QN:cW Tryz.prog Tryz.f79.ntmps Tryz.f79.results.toList=[.t 0]:=by kernel_rfl
theorem QL {args:List V} {h:ae} {K:V→ae→Prop} (aj:Nat.ble args.length 2=true) (H:b_ Tryz.prog BV (aS.bk args) h fun e r aa=>e.ends∧∃ab,cH r aa [.t 0]=some ab∧K (oneOf ab) aa):bK Tryz.prog 79 args h K:=
 dv follows c_ Tryz.func79 (c:=Tryz.f79.body.getD .skip) (by kernel_rfl) (by kernel_rfl) (by kernel_rfl) aj QM QN (by kernel_rfl) H
def G6:bD:=
 .block 1 (.seq (.av [ah 24 5,c6 25 24,dO 26 25,bU 27 26,ah 7 27])
 (.seq (.block 2 (.seq (.av [ah 37 7,ah 38 0,iT 39 38,sf 40 37 39,ah 36 40])
 (.cond (.t 36)
 (.exit 0)
 (.seq (.av [ah 42 0,ah 43 7,xg 44 42 43,⟨some 45,.call 92 [(.c (.str [9,10,13,32])),(.t 44)],none,[44]⟩,xd 46 45,ah 41 46])
 (.cond (.t 41)
 (.av [ah 47 5,c6 48 47,dO 49 48,bU 50 49,e8 51 50,c6 52 47,dO 53 52,⟨none,.st 1 (.t 53) (.t 51),none,[53,51]⟩])
 (.seq (.av [ah 55 5,⟨some 56,.call 93 [(.t 55),(.c (.str [40,42]))],none,[55]⟩,ah 54 56])
 (.cond (.t 54)
 (.av [ah 57 5,⟨some 58,.call 94 [(.t 57)],none,[57]⟩])
 (.seq (.av [ah 28 5,⟨some 29,.call 95 [(.t 28)],none,[28]⟩,uD 8,⟨none,.st 4 (.t 8) (.t 29),none,[8,29]⟩])
 (.seq (.av [ah 30 7,kB 31 8,⟨none,.st 1 (.t 31) (.t 30),none,[31,30]⟩])
 (.av [ah 32 6,⟨some 33,.hT 4 (.t 8),none,[8]⟩,⟨some 34,.gP 1 4 [(.int .i64 0),(.int .i64 0),(.int .i64 0),(.str [])] [(0,4,(.t 33))],none,[33]⟩,⟨some 35,.app 4 (.t 32) (.t 34),none,[32,34]⟩,ah 6 35]))))))))))
 (.seq (.av [ah 59 5,c6 60 59,kB 61 60,bU 62 61,⟨some 63,.bin (.int .neq) (.t 62) (.c (.int .i64 0)),none,[62]⟩])
 (.cond (.t 63)
 (.seq (.draw [ah 64 5,c6 65 64,kB 66 65,bU 67 66,ah 68 7,⟨some 69,.build [(.int .i64 0),(.int .i64 0)] [(0,1,(.t 67)),(1,1,(.t 68))],none,[67,68]⟩,j0 2,⟨none,.st 2 (.t 3) (.t 69),none,[3,69]⟩] [(3,[7])])
 (.ret))
 (.skip)))))
def BQ:bD:=
 .seq (.av [j0 2,⟨some 3,.new [(.int .i64 0),(.int .i64 0)],none,[]⟩])
 (.seq (.seq (.av [ah 9 0,iT 10 9,⟨some 11,.bin (.int .gtr) (.t 10) (.c (.int .i64 65536)),none,[10]⟩])
 (.cond (.t 11)
 (.seq (.av [⟨some 12,.build [(.int .i64 0),(.int .i64 0)] [(0,1,(.c (.int .i64 3)))],none,[]⟩,j0 2,⟨none,.st 2 (.t 3) (.t 12),none,[3,12]⟩])
 (.ret))
 (.skip)))
 (.seq (.seq (.av [ah 13 0,⟨some 14,.call 91 [(.t 13)],none,[13]⟩,ah 4 14])
 (.seq (.av [ah 15 4,ah 16 0,iT 17 16,gG 18 15 17])
 (.cond (.t 18)
 (.seq (.av [ah 19 4,⟨some 20,.build [(.int .i64 0),(.int .i64 0)] [(0,1,(.c (.int .i64 250))),(1,1,(.t 19))],none,[19]⟩,j0 2,⟨none,.st 2 (.t 3) (.t 20),none,[3,20]⟩])
 (.ret))
 (.skip))))
 (.seq (.av [ah 21 0,⟨some 22,.build [(.str []),(.int .i64 0),(.int .i64 0)] [(0,1,(.t 21))],none,[21]⟩,ir 23 22,ah 5 23])
 (.seq (.av [j0 6])
 (.seq (.skip)
 (.seq (.block 0 (.loop G6))
 (.seq (.av [ah 70 6,⟨some 71,.build [(.int .i64 0),(.int .i64 0)] [],none,[]⟩,ah 2 70,⟨none,.st 2 (.t 3) (.t 71),none,[3,71]⟩])
 (.ret))))))))
theorem Qx:cf Tryz.prog Tryz.f72.ntmps (Tryz.f72.body.getD .skip)=BQ:=by kernel_rfl
theorem Qy:cW Tryz.prog Tryz.f72.ntmps Tryz.f72.results.toList=[.t 2,.lg 3 2]:=by kernel_rfl
theorem Qw {args:List V} {h:ae} {K:V→ae→Prop} (aj:Nat.ble args.length 72=true) (H:b_ Tryz.prog BQ (aS.bk args) h fun e r aa=>e.ends∧∃ab,cH r aa [.t 2,.lg 3 2]=some ab∧K (oneOf ab) aa):bK Tryz.prog 72 args h K:=
 dv follows c_ Tryz.func72 (c:=Tryz.f72.body.getD .skip) (by kernel_rfl) (by kernel_rfl) (by kernel_rfl) aj Qx Qy (by kernel_rfl) H
def G8:bD:=
 .seq (.av [⟨some 9,.tL (.t 8),none,[8]⟩,pa 10 9])
 (.seq (.cond (.t 10)
 (.skip)
 (.exit 0))
 (.block 1 (.seq (.av [pb 11 9,⟨some 12,.ext (.t 9) 2,none,[9]⟩,ah 3 11,ah 4 12])
 (.seq (.av [ah 13 4,⟨some 14,.bin (.int .eql) (.t 13) (.c (.int .i32 65533)),none,[13]⟩])
 (.cond (.t 14)
 (.seq (.av [ah 16 0,ah 17 3,AJ 18 16 17,⟨some 19,.call 102 [(.t 18)],none,[18]⟩,ah 15 19,pa 20 15,pb 21 15,ah 5 20,ah 6 21])
 (.seq (.av [ah 22 6,qu 23 22])
 (.cond (.t 23)
 (.seq (.av [ah 24 3,ah 2 24])
 (.ret))
 (.skip))))
 (.skip))))))
def BW:bD:=
 .seq (.av [ev 2])
 (.seq (.seq (.av [ah 7 0,⟨some 8,.t' (.t 7),none,[7]⟩])
 (.block 0 (.loop G8)))
 (.seq (.av [ah 25 0,iT 26 25,ah 2 26])
 (.ret)))
theorem QQ:cf Tryz.prog Tryz.f91.ntmps (Tryz.f91.body.getD .skip)=BW:=by kernel_rfl
theorem QR:cW Tryz.prog Tryz.f91.ntmps Tryz.f91.results.toList=[.t 2]:=by kernel_rfl
theorem QP {args:List V} {h:ae} {K:V→ae→Prop} (aj:Nat.ble args.length 27=true) (H:b_ Tryz.prog BW (aS.bk args) h fun e r aa=>e.ends∧∃ab,cH r aa [.t 2]=some ab∧K (oneOf ab) aa):bK Tryz.prog 91 args h K:=
 dv follows c_ Tryz.func91 (c:=Tryz.f91.body.getD .skip) (by kernel_rfl) (by kernel_rfl) (by kernel_rfl) aj QQ QR (by kernel_rfl) H
def BX:bD:=
 .seq (.av [ev 4])
 (.seq (.av [ah 5 0,ah 6 1,⟨some 7,.call 103 [(.t 5),(.t 6)],none,[5,6]⟩,ah 4 7])
 (.ret))
theorem QT:cf Tryz.prog Tryz.f92.ntmps (Tryz.f92.body.getD .skip)=BX:=by kernel_rfl
theorem QU:cW Tryz.prog Tryz.f92.ntmps Tryz.f92.results.toList=[.t 4]:=by kernel_rfl
theorem QS {args:List V} {h:ae} {K:V→ae→Prop} (aj:Nat.ble args.length 8=true) (H:b_ Tryz.prog BX (aS.bk args) h fun e r aa=>e.ends∧∃ab,cH r aa [.t 4]=some ab∧K (oneOf ab) aa):bK Tryz.prog 92 args h K:=
 dv follows c_ Tryz.func92 (c:=Tryz.f92.body.getD .skip) (by kernel_rfl) (by kernel_rfl) (by kernel_rfl) aj QT QU (by kernel_rfl) H
def BY:bD:=
 .seq (.av [dF 4])
 (.seq (.draw [ah 5 0,c6 6 5,gq 7 6,bU 8 7,ah 9 0,c6 10 9,dO 11 10,bU 12 11,AJ 13 8 12,ah 14 1,⟨some 15,.call 104 [(.t 13),(.t 14)],none,[13,14]⟩,ah 4 15] [(3,[10]),(7,[10])])
 (.ret))
theorem QW:cf Tryz.prog Tryz.f93.ntmps (Tryz.f93.body.getD .skip)=BY:=by kernel_rfl
theorem QX:cW Tryz.prog Tryz.f93.ntmps Tryz.f93.results.toList=[.t 4]:=by kernel_rfl
theorem QV {args:List V} {h:ae} {K:V→ae→Prop} (aj:Nat.ble args.length 16=true) (H:b_ Tryz.prog BY (aS.bk args) h fun e r aa=>e.ends∧∃ab,cH r aa [.t 4]=some ab∧K (oneOf ab) aa):bK Tryz.prog 93 args h K:=
 dv follows c_ Tryz.func93 (c:=Tryz.f93.body.getD .skip) (by kernel_rfl) (by kernel_rfl) (by kernel_rfl) aj QW QX (by kernel_rfl) H
def G9:bD:=
 .block 1 (.block 2 (.seq (.draw [ah 11 0,c6 12 11,dO 13 12,bU 14 13,ah 15 0,c6 16 15,gq 17 16,bU 18 17,iT 19 18,sf 20 14 19,ah 10 20] [])
 (.cond (.t 10)
 (.seq (.av [ah 21 0,c6 22 21,kB 23 22,⟨none,.st 1 (.t 23) (.c (.int .i64 253)),none,[23]⟩])
 (.ret))
 (.seq (.av [ah 25 0,⟨some 26,.call 93 [(.t 25),(.c (.str [40,42]))],none,[25]⟩,ah 24 26])
 (.cond (.t 24)
 (.seq (.av [ah 27 2,e8 28 27,ah 2 28])
 (.av [ah 29 0,c6 30 29,dO 31 30,bU 32 31,⟨some 33,.bin (.int .add) (.t 32) (.c (.int .i64 2)),none,[32]⟩,c6 34 29,dO 35 34,⟨none,.st 1 (.t 35) (.t 33),none,[35,33]⟩]))
 (.seq (.av [ah 37 0,⟨some 38,.call 93 [(.t 37),(.c (.str [42,41]))],none,[37]⟩,ah 36 38])
 (.cond (.t 36)
 (.seq (.av [ah 39 2,w7 40 39,ah 2 40])
 (.seq (.av [ah 41 0,c6 42 41,dO 43 42,bU 44 43,⟨some 45,.bin (.int .add) (.t 44) (.c (.int .i64 2)),none,[44]⟩,c6 46 41,dO 47 46,⟨none,.st 1 (.t 47) (.t 45),none,[47,45]⟩])
 (.seq (.av [ah 48 2,qv 49 48])
 (.cond (.t 49)
 (.ret)
 (.skip)))))
 (.av [ah 3 0,c6 4 3,dO 5 4,bU 6 5,e8 7 6,c6 8 3,dO 9 8,⟨none,.st 1 (.t 9) (.t 7),none,[9,7]⟩]))))))))
def BZ:bD:=
 .seq (.av [ev 2])
 (.block 0 (.loop G9))
theorem QZ:cf Tryz.prog Tryz.f94.ntmps (Tryz.f94.body.getD .skip)=BZ:=by kernel_rfl
theorem Q0:cW Tryz.prog Tryz.f94.ntmps Tryz.f94.results.toList=[]:=by kernel_rfl
theorem QY {args:List V} {h:ae} {K:V→ae→Prop} (aj:Nat.ble args.length 50=true) (H:b_ Tryz.prog BZ (aS.bk args) h fun e r aa=>e.ends∧∃ab,cH r aa []=some ab∧K (oneOf ab) aa):bK Tryz.prog 94 args h K:=
 dv follows c_ Tryz.func94 (c:=Tryz.f94.body.getD .skip) (by kernel_rfl) (by kernel_rfl) (by kernel_rfl) aj QZ Q0 (by kernel_rfl) H
def G':bD:=
 .seq (.av [gG 80 79 78])
 (.seq (.cond (.t 80)
 (.skip)
 (.exit 1))
 (.seq (.block 2 (.seq (.av [lR 81 77 79,bU 82 81,ah 5 82])
 (.seq (.av [ah 83 0,ah 84 5,⟨some 85,.call 93 [(.t 83),(.t 84)],none,[83,84]⟩])
 (.cond (.t 85)
 (.seq (.av [ah 86 0,c6 87 86,dO 88 87,bU 89 88,ah 90 5,iT 91 90,w9 92 89 91,c6 93 86,dO 94 93,⟨none,.st 1 (.t 94) (.t 92),none,[94,92]⟩])
 (.seq (.av [ah 95 5,F5 96 95,⟨none,.st 4 (.t 2) (.t 96),none,[2,96]⟩])
 (.ret)))
 (.skip)))))
 (.av [e8 97 79,ah 79 97])))
def B0:bD:=
 .seq (.av [uD 2])
 (.seq (.draw [ah 6 0,c6 7 6,gq 8 7,bU 9 8,ah 10 0,c6 11 10,dO 12 11,bU 13 12,xg 14 9 13,ah 3 14] [])
 (.seq (.block 0 (.seq (.av [ah 16 3,⟨some 17,.call 105 [(.t 16)],none,[16]⟩,ah 15 17])
 (.cond (.t 15)
 (.seq (.av [ah 18 0,⟨some 19,.call 106 [(.t 18)],none,[18]⟩,⟨none,.st 4 (.t 2) (.t 19),none,[2,19]⟩])
 (.ret))
 (.seq (.av [ah 21 3,⟨some 22,.bin (.int .eql) (.t 21) (.c (.int .u8 34)),none,[21]⟩,ah 20 22])
 (.cond (.t 20)
 (.seq (.av [ah 23 0,⟨some 24,.call 107 [(.t 23)],none,[23]⟩,⟨none,.st 4 (.t 2) (.t 24),none,[2,24]⟩])
 (.ret))
 (.seq (.av [ah 26 3,⟨some 27,.call 108 [(.t 26)],none,[26]⟩,ah 28 27,fL 29 3 28,xi 30 29 28,eG 31 28 30,ah 25 31])
 (.cond (.t 25)
 (.seq (.av [ah 32 0,⟨some 33,.call 109 [(.t 32),(.c (.int .i64 3))],none,[32]⟩,⟨none,.st 4 (.t 2) (.t 33),none,[2,33]⟩])
 (.ret))
 (.seq (.av [ah 35 3,⟨some 36,.call 110 [(.t 35)],none,[35]⟩,ah 34 36])
 (.cond (.t 34)
 (.seq (.av [ah 37 0,⟨some 38,.call 109 [(.t 37),(.c (.int .i64 4))],none,[37]⟩,⟨none,.st 4 (.t 2) (.t 38),none,[2,38]⟩])
 (.ret))
 (.seq (.draw [ah 40 3,⟨some 41,.bin (.int .eql) (.t 40) (.c (.int .u8 39)),none,[40]⟩,ah 42 41,da 43 0 42,sj 44 43 42,sh 45 44 42,jt 46 45 42,Ay 47 46 42,da 48 0 42,sj 49 48 42,uC 50 49 42,jt 51 50 42,⟨some 52,.len .str (.t 51),(some (42,true)),[51,42]⟩,⟨some 53,.bin (.int .lss) (.t 47) (.t 52),(some (42,true)),[47,52,42]⟩,dC 54 42 53,ah 55 54,da 56 0 55,sj 57 56 55,uC 58 57 55,jt 59 58 55,da 60 0 55,sj 61 60 55,sh 62 61 55,jt 63 62 55,Ay 64 63 55,⟨some 65,.jP (.t 59) (.t 64),(some (55,true)),[59,64,55]⟩,⟨some 66,.call 108 [(.t 65)],(some (55,true)),[65,55]⟩,dC 67 55 66,ah 39 67] [(6,[26]),(11,[26]),(19,[26]),(23,[26])])
 (.cond (.t 39)
 (.seq (.av [ah 68 0,c6 69 68,dO 70 69,bU 71 70,e8 72 71,c6 73 68,dO 74 73,⟨none,.st 1 (.t 74) (.t 72),none,[74,72]⟩])
 (.seq (.av [ah 75 0,⟨some 76,.call 109 [(.t 75),(.c (.int .i64 5))],none,[75]⟩,⟨none,.st 4 (.t 2) (.t 76),none,[2,76]⟩])
 (.ret)))
 (.skip))))))))))))
 (.seq (.seq (.av [⟨some 77,.call 111 [],none,[]⟩,ff 78 77,ev 79])
 (.block 1 (.loop G')))
 (.seq (.av [ah 98 0,c6 99 98,kB 100 99,⟨none,.st 1 (.t 100) (.c (.int .i64 251)),none,[100]⟩])
 (.seq (.av [AK 101,⟨none,.st 4 (.t 2) (.t 101),none,[2,101]⟩])
 (.ret))))))
theorem Q2:cf Tryz.prog Tryz.f95.ntmps (Tryz.f95.body.getD .skip)=B0:=by kernel_rfl
theorem Q3:cW Tryz.prog Tryz.f95.ntmps Tryz.f95.results.toList=[.lg 2 4]:=by kernel_rfl
theorem Q1 {args:List V} {h:ae} {K:V→ae→Prop} (aj:Nat.ble args.length 102=true) (H:b_ Tryz.prog B0 (aS.bk args) h fun e r aa=>e.ends∧∃ab,cH r aa [.lg 2 4]=some ab∧K (oneOf ab) aa):bK Tryz.prog 95 args h K:=
 dv follows c_ Tryz.func95 (c:=Tryz.f95.body.getD .skip) (by kernel_rfl) (by kernel_rfl) (by kernel_rfl) aj Q2 Q3 (by kernel_rfl) H
def Be:bD:=
 .seq (.av [ev 4])
 (.seq (.av [ah 5 0,ah 6 1,⟨some 7,.call 114 [(.t 5),(.t 6)],none,[5,6]⟩,ah 4 7])
 (.ret))
theorem OD:cf Tryz.prog Tryz.f103.ntmps (Tryz.f103.body.getD .skip)=Be:=by kernel_rfl
theorem OE:cW Tryz.prog Tryz.f103.ntmps Tryz.f103.results.toList=[.t 4]:=by kernel_rfl
theorem OC {args:List V} {h:ae} {K:V→ae→Prop} (aj:Nat.ble args.length 8=true) (H:b_ Tryz.prog Be (aS.bk args) h fun e r aa=>e.ends∧∃ab,cH r aa [.t 4]=some ab∧K (oneOf ab) aa):bK Tryz.prog 103 args h K:=
 dv follows c_ Tryz.func103 (c:=Tryz.f103.body.getD .skip) (by kernel_rfl) (by kernel_rfl) (by kernel_rfl) aj OD OE (by kernel_rfl) H
def Bf:bD:=
 .seq (.av [dF 4])
 (.seq (.av [ah 5 0,ah 6 1,⟨some 7,.call 115 [(.t 5),(.t 6)],none,[5,6]⟩,ah 4 7])
 (.ret))
theorem OG:cf Tryz.prog Tryz.f104.ntmps (Tryz.f104.body.getD .skip)=Bf:=by kernel_rfl
theorem OH:cW Tryz.prog Tryz.f104.ntmps Tryz.f104.results.toList=[.t 4]:=by kernel_rfl
theorem OF {args:List V} {h:ae} {K:V→ae→Prop} (aj:Nat.ble args.length 8=true) (H:b_ Tryz.prog Bf (aS.bk args) h fun e r aa=>e.ends∧∃ab,cH r aa [.t 4]=some ab∧K (oneOf ab) aa):bK Tryz.prog 104 args h K:=
 dv follows c_ Tryz.func104 (c:=Tryz.f104.body.getD .skip) (by kernel_rfl) (by kernel_rfl) (by kernel_rfl) aj OG OH (by kernel_rfl) H
def Bg:bD:=
 .seq (.av [dF 2])
 (.seq (.av [ah 3 0,⟨some 4,.bin (.int .geq) (.t 3) (.c (.int .u8 48)),none,[3]⟩,ah 5 4,da 6 0 5,⟨some 7,.bin (.int .leq) (.t 6) (.c (.int .u8 57)),(some (5,true)),[6,5]⟩,dC 8 5 7,ah 2 8])
 (.ret))
theorem OJ:cf Tryz.prog Tryz.f105.ntmps (Tryz.f105.body.getD .skip)=Bg:=by kernel_rfl
theorem OK:cW Tryz.prog Tryz.f105.ntmps Tryz.f105.results.toList=[.t 2]:=by kernel_rfl
theorem OI {args:List V} {h:ae} {K:V→ae→Prop} (aj:Nat.ble args.length 9=true) (H:b_ Tryz.prog Bg (aS.bk args) h fun e r aa=>e.ends∧∃ab,cH r aa [.t 2]=some ab∧K (oneOf ab) aa):bK Tryz.prog 105 args h K:=
 dv follows c_ Tryz.func105 (c:=Tryz.f105.body.getD .skip) (by kernel_rfl) (by kernel_rfl) (by kernel_rfl) aj OJ OK (by kernel_rfl) H
def Bh:bD:=
 .seq (.av [uD 2])
 (.seq (.av [ah 7 0,⟨some 8,.call 117 [(.t 7),(.c (.func 105 []))],none,[7]⟩,⟨some 9,.call 116 [(.t 8),(.c (.int .i64 10)),(.c (.int .i64 64))],none,[8]⟩,ah 6 9,pa 10 6,pb 11 6,ah 3 10,ah 4 11])
 (.seq (.seq (.av [ah 12 4,⟨some 13,.bin (.iy true 5) (.t 12) (.c .nilIface),none,[12]⟩,ah 14 13,fL 15 3 14,⟨some 16,.bin (.int .gtr) (.t 15) (.c (.int .u64 2147483647)),(some (14,false)),[15,14]⟩,eG 17 14 16])
 (.cond (.t 17)
 (.seq (.av [ah 18 0,c6 19 18,kB 20 19,⟨none,.st 1 (.t 20) (.c (.int .i64 254)),none,[20]⟩])
 (.seq (.av [AK 21,⟨none,.st 4 (.t 2) (.t 21),none,[2,21]⟩])
 (.ret)))
 (.skip)))
 (.seq (.av [ah 22 3,⟨some 23,.gQ (.int .i64) (.t 22),none,[22]⟩,ah 5 23])
 (.seq (.seq (.av [ah 24 5,⟨some 25,.bin (.int .gtr) (.t 24) (.c (.int .i64 1073741823)),none,[24]⟩])
 (.cond (.t 25)
 (.av [ah 26 5,⟨some 27,.bin (.int .sub) (.t 26) (.c (.int .i64 2147483648)),none,[26]⟩,ah 5 27])
 (.skip)))
 (.seq (.av [ah 28 5,⟨some 29,.build [(.int .i64 0),(.int .i64 0),(.int .i64 0),(.str [])] [(0,1,(.c (.int .i64 1))),(1,1,(.t 28))],none,[28]⟩,⟨none,.st 4 (.t 2) (.t 29),none,[2,29]⟩])
 (.ret))))))
theorem OM:cf Tryz.prog Tryz.f106.ntmps (Tryz.f106.body.getD .skip)=Bh:=by kernel_rfl
theorem ON:cW Tryz.prog Tryz.f106.ntmps Tryz.f106.results.toList=[.lg 2 4]:=by kernel_rfl
theorem OL {args:List V} {h:ae} {K:V→ae→Prop} (aj:Nat.ble args.length 30=true) (H:b_ Tryz.prog Bh (aS.bk args) h fun e r aa=>e.ends∧∃ab,cH r aa [.lg 2 4]=some ab∧K (oneOf ab) aa):bK Tryz.prog 106 args h K:=
 dv follows c_ Tryz.func106 (c:=Tryz.f106.body.getD .skip) (by kernel_rfl) (by kernel_rfl) (by kernel_rfl) aj OM ON (by kernel_rfl) H
def GP:bD:=
 .seq (.seq (.av [ah 12 0,c6 13 12,kB 14 13,bU 15 14,qv 16 15])
 (.cond (.t 16)
 (.skip)
 (.exit 0)))
 (.block 1 (.seq (.seq (.draw [ah 17 0,c6 18 17,dO 19 18,bU 20 19,ah 21 0,c6 22 21,gq 23 22,bU 24 23,iT 25 24,sf 26 20 25] [])
 (.cond (.t 26)
 (.seq (.av [ah 27 0,c6 28 27,kB 29 28,⟨none,.st 1 (.t 29) (.c (.int .i64 252)),none,[29]⟩])
 (.exit 0))
 (.skip)))
 (.seq (.draw [ah 30 0,c6 31 30,gq 32 31,bU 33 32,ah 34 0,c6 35 34,dO 36 35,bU 37 36,xg 38 33 37,ah 4 38] [])
 (.block 2 (.seq (.av [ah 51 4,⟨some 52,.bin (.int .eql) (.t 51) (.c (.int .u8 34)),none,[51]⟩,ah 50 52])
 (.cond (.t 50)
 (.seq (.av [ah 53 0,c6 54 53,dO 55 54,bU 56 55,e8 57 56,c6 58 53,dO 59 58,⟨none,.st 1 (.t 59) (.t 57),none,[59,57]⟩])
 (.seq (.seq (.av [ah 60 3,ff 61 60,⟨some 62,.bin (.int .gtr) (.t 61) (.c (.int .i64 4096)),none,[61]⟩])
 (.cond (.t 62)
 (.av [ah 63 0,c6 64 63,kB 65 64,⟨none,.st 1 (.t 65) (.c (.int .i64 255)),none,[65]⟩])
 (.skip)))
 (.seq (.av [ah 66 3,⟨some 67,.gQ .str (.t 66),none,[66]⟩,⟨some 68,.build [(.int .i64 0),(.int .i64 0),(.int .i64 0),(.str [])] [(0,1,(.c (.int .i64 2))),(3,1,(.t 67))],none,[67]⟩,⟨none,.st 4 (.t 2) (.t 68),none,[2,68]⟩])
 (.ret))))
 (.seq (.av [ah 70 4,⟨some 71,.bin (.int .eql) (.t 70) (.c (.int .u8 92)),none,[70]⟩,ah 69 71])
 (.cond (.t 69)
 (.av [ah 72 3,ah 73 0,⟨some 74,.call 118 [(.t 73)],none,[73]⟩,⟨some 75,.gP 1 1 [(.int .u8 0)] [(0,1,(.t 74))],none,[74]⟩,si 76 72 75,ah 3 76])
 (.seq (.av [ah 78 4,⟨some 79,.bin (.int .lss) (.t 78) (.c (.int .u8 32)),none,[78]⟩,ah 80 79,fL 81 4 80,⟨some 82,.bin (.int .eql) (.t 81) (.c (.int .u8 127)),(some (80,false)),[81,80]⟩,eG 83 80 82,ah 77 83])
 (.cond (.t 77)
 (.av [ah 84 0,c6 85 84,kB 86 85,⟨none,.st 1 (.t 86) (.c (.int .i64 252)),none,[86]⟩])
 (.seq (.av [ah 39 0,c6 40 39,dO 41 40,bU 42 41,e8 43 42,c6 44 39,dO 45 44,⟨none,.st 1 (.t 45) (.t 43),none,[45,43]⟩])
 (.av [ah 46 3,ah 47 4,⟨some 48,.gP 1 1 [(.int .u8 0)] [(0,1,(.t 47))],none,[47]⟩,si 49 46 48,ah 3 49]))))))))))))
def Bi:bD:=
 .seq (.av [uD 2])
 (.seq (.av [ah 5 0,c6 6 5,dO 7 6,bU 8 7,e8 9 8,c6 10 5,dO 11 10,⟨none,.st 1 (.t 11) (.t 9),none,[11,9]⟩])
 (.seq (.av [j0 3])
 (.seq (.block 0 (.loop GP))
 (.seq (.av [AK 87,⟨none,.st 4 (.t 2) (.t 87),none,[2,87]⟩])
 (.ret)))))
theorem OP:cf Tryz.prog Tryz.f107.ntmps (Tryz.f107.body.getD .skip)=Bi:=by kernel_rfl
theorem OQ:cW Tryz.prog Tryz.f107.ntmps Tryz.f107.results.toList=[.lg 2 4]:=by kernel_rfl
theorem OO {args:List V} {h:ae} {K:V→ae→Prop} (aj:Nat.ble args.length 88=true) (H:b_ Tryz.prog Bi (aS.bk args) h fun e r aa=>e.ends∧∃ab,cH r aa [.lg 2 4]=some ab∧K (oneOf ab) aa):bK Tryz.prog 107 args h K:=
 dv follows c_ Tryz.func107 (c:=Tryz.f107.body.getD .skip) (by kernel_rfl) (by kernel_rfl) (by kernel_rfl) aj OP OQ (by kernel_rfl) H
def Bj:bD:=
 .seq (.av [dF 2])
 (.seq (.av [ah 3 0,⟨some 4,.bin (.int .geq) (.t 3) (.c (.int .u8 97)),none,[3]⟩,ah 5 4,da 6 0 5,⟨some 7,.bin (.int .leq) (.t 6) (.c (.int .u8 122)),(some (5,true)),[6,5]⟩,dC 8 5 7,ah 2 8])
 (.ret))
theorem OS:cf Tryz.prog Tryz.f108.ntmps (Tryz.f108.body.getD .skip)=Bj:=by kernel_rfl
theorem OT:cW Tryz.prog Tryz.f108.ntmps Tryz.f108.results.toList=[.t 2]:=by kernel_rfl
theorem OR {args:List V} {h:ae} {K:V→ae→Prop} (aj:Nat.ble args.length 9=true) (H:b_ Tryz.prog Bj (aS.bk args) h fun e r aa=>e.ends∧∃ab,cH r aa [.t 2]=some ab∧K (oneOf ab) aa):bK Tryz.prog 108 args h K:=
 dv follows c_ Tryz.func108 (c:=Tryz.f108.body.getD .skip) (by kernel_rfl) (by kernel_rfl) (by kernel_rfl) aj OS OT (by kernel_rfl) H
def Bk:bD:=
 .seq (.av [uD 4])
 (.seq (.av [ah 6 0,⟨some 7,.call 117 [(.t 6),(.c (.func 119 []))],none,[6]⟩,ah 5 7])
 (.seq (.block 0 (.seq (.av [ah 9 1,sg 10 9,ah 11 10,da 12 5 11,⟨some 13,.bin (.str .eql) (.t 12) (.c (.str [95])),(some (11,true)),[12,11]⟩,dC 14 11 13,ah 8 14])
 (.cond (.t 8)
 (.seq (.av [ah 15 5,F5 16 15,⟨none,.st 4 (.t 4) (.t 16),none,[4,16]⟩])
 (.ret))
 (.seq (.av [ah 18 1,sg 19 18,ah 20 19,da 21 5 20,⟨some 22,.bin (.str .add) (.c (.str [32])) (.t 21),(some (20,true)),[21,20]⟩,⟨some 23,.bin (.str .add) (.t 22) (.c (.str [32])),(some (20,true)),[22,20]⟩,⟨some 24,.call 120 [(.c (.str [32,97,110,100,32,98,101,103,105,110,32,101,108,115,101,32,101,110,100,32,101,120,99,101,112,116,105,111,110,32,102,97,108,115,101,32,102,117,110,32,105,102,32,105,110,32,108,101,116,32,109,97,116,99,104,32,109,111,100,32,111,102,32,114,97,105,115,101,32,114,101,99,32,116,104,101,110,32,116,114,117,101,32,116,114,121,32,116,121,112,101,32,119,105,116,104,32])),(.t 23)],(some (20,true)),[23,20]⟩,dC 25 20 24,ah 17 25])
 (.cond (.t 17)
 (.seq (.av [ah 26 5,⟨some 27,.build [(.int .i64 0),(.int .i64 0),(.int .i64 0),(.str [])] [(0,1,(.c (.int .i64 6))),(3,1,(.t 26))],none,[26]⟩,⟨none,.st 4 (.t 4) (.t 27),none,[4,27]⟩])
 (.ret))
 (.seq (.av [ah 29 5,iT 30 29,⟨some 31,.bin (.int .gtr) (.t 30) (.c (.int .i64 64)),none,[30]⟩,ah 28 31])
 (.cond (.t 28)
 (.av [ah 32 0,c6 33 32,kB 34 33,⟨none,.st 1 (.t 34) (.c (.int .i64 255)),none,[34]⟩])
 (.skip))))))))
 (.seq (.av [ah 35 1,ah 36 5,⟨some 37,.build [(.int .i64 0),(.int .i64 0),(.int .i64 0),(.str [])] [(0,1,(.t 35)),(3,1,(.t 36))],none,[35,36]⟩,⟨none,.st 4 (.t 4) (.t 37),none,[4,37]⟩])
 (.ret))))
theorem OV:cf Tryz.prog Tryz.f109.ntmps (Tryz.f109.body.getD .skip)=Bk:=by kernel_rfl
theorem OW:cW Tryz.prog Tryz.f109.ntmps Tryz.f109.results.toList=[.lg 4 4]:=by kernel_rfl
theorem OU {args:List V} {h:ae} {K:V→ae→Prop} (aj:Nat.ble args.length 38=true) (H:b_ Tryz.prog Bk (aS.bk args) h fun e r aa=>e.ends∧∃ab,cH r aa [.lg 4 4]=some ab∧K (oneOf ab) aa):bK Tryz.prog 109 args h K:=
 dv follows c_ Tryz.func109 (c:=Tryz.f109.body.getD .skip) (by kernel_rfl) (by kernel_rfl) (by kernel_rfl) aj OV OW (by kernel_rfl) H
def Bm:bD:=
 .seq (.av [dF 2])
 (.seq (.av [ah 3 0,⟨some 4,.bin (.int .geq) (.t 3) (.c (.int .u8 65)),none,[3]⟩,ah 5 4,da 6 0 5,⟨some 7,.bin (.int .leq) (.t 6) (.c (.int .u8 90)),(some (5,true)),[6,5]⟩,dC 8 5 7,ah 2 8])
 (.ret))
theorem OY:cf Tryz.prog Tryz.f110.ntmps (Tryz.f110.body.getD .skip)=Bm:=by kernel_rfl
theorem OZ:cW Tryz.prog Tryz.f110.ntmps Tryz.f110.results.toList=[.t 2]:=by kernel_rfl
theorem OX {args:List V} {h:ae} {K:V→ae→Prop} (aj:Nat.ble args.length 9=true) (H:b_ Tryz.prog Bm (aS.bk args) h fun e r aa=>e.ends∧∃ab,cH r aa [.t 2]=some ab∧K (oneOf ab) aa):bK Tryz.prog 110 args h K:=
 dv follows c_ Tryz.func110 (c:=Tryz.f110.body.getD .skip) (by kernel_rfl) (by kernel_rfl) (by kernel_rfl) aj OY OZ (by kernel_rfl) H
def Bn:bD:=
 .seq (.av [j0 0])
 (.seq (.av [⟨some 1,.gP 17 1 [(.str [])] [(0,1,(.c (.str [59,59]))),(1,1,(.c (.str [58,61]))),(2,1,(.c (.str [45,62]))),(3,1,(.c (.str [60,61]))),(4,1,(.c (.str [59]))),(5,1,(.c (.str [40]))),(6,1,(.c (.str [41]))),(7,1,(.c (.str [44]))),(8,1,(.c (.str [61]))),(9,1,(.c (.str [60]))),(10,1,(.c (.str [43]))),(11,1,(.c (.str [45]))),(12,1,(.c (.str [42]))),(13,1,(.c (.str [47]))),(14,1,(.c (.str [124]))),(15,1,(.c (.str [33]))),(16,1,(.c (.str [95])))],none,[]⟩,ah 0 1])
 (.ret))
theorem O1:cf Tryz.prog Tryz.f111.ntmps (Tryz.f111.body.getD .skip)=Bn:=by kernel_rfl
theorem O2:cW Tryz.prog Tryz.f111.ntmps Tryz.f111.results.toList=[.t 0]:=by kernel_rfl
theorem O0 {args:List V} {h:ae} {K:V→ae→Prop} (aj:Nat.ble args.length 2=true) (H:b_ Tryz.prog Bn (aS.bk args) h fun e r aa=>e.ends∧∃ab,cH r aa [.t 0]=some ab∧K (oneOf ab) aa):bK Tryz.prog 111 args h K:=
 dv follows c_ Tryz.func111 (c:=Tryz.f111.body.getD .skip) (by kernel_rfl) (by kernel_rfl) (by kernel_rfl) aj O1 O2 (by kernel_rfl) H
def Bo:bD:=
 .seq (.av [dF 4])
 (.seq (.av [ah 5 0,iT 6 5,ah 7 1,iT 8 7,sf 9 6 8,ah 10 9,da 11 0 10,da 12 1 10,⟨some 13,.len .str (.t 12),(some (10,true)),[12,10]⟩,⟨some 14,.nA (.t 11) none (some (.t 13)) none,(some (10,true)),[11,13,10]⟩,da 15 1 10,⟨some 16,.bin (.str .eql) (.t 14) (.t 15),(some (10,true)),[14,15,10]⟩,dC 17 10 16,ah 4 17])
 (.ret))
theorem O4:cf Tryz.prog Tryz.f115.ntmps (Tryz.f115.body.getD .skip)=Bo:=by kernel_rfl
theorem O5:cW Tryz.prog Tryz.f115.ntmps Tryz.f115.results.toList=[.t 4]:=by kernel_rfl
theorem O3 {args:List V} {h:ae} {K:V→ae→Prop} (aj:Nat.ble args.length 18=true) (H:b_ Tryz.prog Bo (aS.bk args) h fun e r aa=>e.ends∧∃ab,cH r aa [.t 4]=some ab∧K (oneOf ab) aa):bK Tryz.prog 115 args h K:=
 dv follows c_ Tryz.func115 (c:=Tryz.f115.body.getD .skip) (by kernel_rfl) (by kernel_rfl) (by kernel_rfl) aj O4 O5 (by kernel_rfl) H
def GQ:bD:=
 .seq (.seq (.draw [ah 10 0,c6 11 10,dO 12 11,bU 13 12,ah 14 0,c6 15 14,gq 16 15,bU 17 16,iT 18 17,gG 19 13 18,ah 20 19,da 21 1 20,da 22 0 20,sj 23 22 20,uC 24 23 20,jt 25 24 20,da 26 0 20,sj 27 26 20,sh 28 27 20,jt 29 28 20,⟨some 30,.jP (.t 25) (.t 29),(some (20,true)),[25,29,20]⟩,⟨some 31,.lf (.t 21) [(.t 30)],(some (20,true)),[21,30,20]⟩,dC 32 20 31] [(3,[21]),(7,[21]),(15,[21]),(19,[21])])
 (.cond (.t 32)
 (.skip)
 (.exit 0)))
 (.block 1 (.av [ah 33 0,c6 34 33,dO 35 34,bU 36 35,e8 37 36,c6 38 33,dO 39 38,⟨none,.st 1 (.t 39) (.t 37),none,[39,37]⟩]))
def Bp:bD:=
 .seq (.av [⟨some 4,.dc (.c (.str [])),none,[]⟩])
 (.seq (.av [ah 6 0,c6 7 6,dO 8 7,bU 9 8,ah 5 9])
 (.seq (.block 0 (.loop GQ))
 (.seq (.draw [ah 40 0,c6 41 40,gq 42 41,bU 43 42,ah 44 5,ah 45 0,c6 46 45,dO 47 46,bU 48 47,⟨some 49,.nA (.t 43) (some (.t 44)) (some (.t 48)) none,none,[43,44,48]⟩,ah 4 49] [])
 (.ret))))
theorem O7:cf Tryz.prog Tryz.f117.ntmps (Tryz.f117.body.getD .skip)=Bp:=by kernel_rfl
theorem O8:cW Tryz.prog Tryz.f117.ntmps Tryz.f117.results.toList=[.t 4]:=by kernel_rfl
theorem O6 {args:List V} {h:ae} {K:V→ae→Prop} (aj:Nat.ble args.length 50=true) (H:b_ Tryz.prog Bp (aS.bk args) h fun e r aa=>e.ends∧∃ab,cH r aa [.t 4]=some ab∧K (oneOf ab) aa):bK Tryz.prog 117 args h K:=
 dv follows c_ Tryz.func117 (c:=Tryz.f117.body.getD .skip) (by kernel_rfl) (by kernel_rfl) (by kernel_rfl) aj O7 O8 (by kernel_rfl) H
def Bq:bD:=
 .seq (.av [⟨some 2,.dc (.c (.int .u8 0)),none,[]⟩])
 (.seq (.av [ah 7 0,c6 8 7,dO 9 8,bU 10 9,e8 11 10,c6 12 7,dO 13 12,⟨none,.st 1 (.t 13) (.t 11),none,[13,11]⟩])
 (.seq (.draw [ah 14 0,c6 15 14,gq 16 15,bU 17 16,ah 18 0,c6 19 18,dO 20 19,bU 21 20,AJ 22 17 21,ah 3 22] [])
 (.seq (.seq (.av [ah 23 3,⟨some 24,.bin (.str .neq) (.t 23) (.c (.str [])),none,[23]⟩])
 (.cond (.t 24)
 (.seq (.av [ah 25 3,xh 26 25,⟨some 27,.call 92 [(.c (.str [110,116,34,92])),(.t 26)],none,[26]⟩,ah 4 27])
 (.seq (.av [ah 28 4,xd 29 28])
 (.cond (.t 29)
 (.seq (.av [ah 30 0,c6 31 30,dO 32 31,bU 33 32,e8 34 33,c6 35 30,dO 36 35,⟨none,.st 1 (.t 36) (.t 34),none,[36,34]⟩])
 (.seq (.av [ah 37 4,⟨some 38,.jP (.c (.str [10,9,34,92])) (.t 37),none,[37]⟩,ah 2 38])
 (.ret)))
 (.skip))))
 (.skip)))
 (.seq (.seq (.av [ah 39 3,iT 40 39,⟨some 41,.bin (.int .geq) (.t 40) (.c (.int .i64 3)),none,[40]⟩,ah 42 41,da 43 3 42,⟨some 44,.jP (.t 43) (.c (.int .i64 0)),(some (42,true)),[43,42]⟩,⟨some 45,.call 105 [(.t 44)],(some (42,true)),[44,42]⟩,dC 46 42 45,ah 47 46,da 48 3 47,⟨some 49,.jP (.t 48) (.c (.int .i64 1)),(some (47,true)),[48,47]⟩,⟨some 50,.call 105 [(.t 49)],(some (47,true)),[49,47]⟩,dC 51 47 50,ah 52 51,da 53 3 52,⟨some 54,.jP (.t 53) (.c (.int .i64 2)),(some (52,true)),[53,52]⟩,⟨some 55,.call 105 [(.t 54)],(some (52,true)),[54,52]⟩,dC 56 52 55])
 (.cond (.t 56)
 (.seq (.av [ah 58 3,⟨some 59,.nA (.t 58) none (some (.c (.int .i64 3))) none,none,[58]⟩,⟨some 60,.call 123 [(.t 59)],none,[59]⟩,ah 57 60,pa 61 57,pb 62 57,ah 5 61,ah 6 62])
 (.seq (.av [ah 63 5,⟨some 64,.bin (.int .lss) (.t 63) (.c (.int .i64 256)),none,[63]⟩])
 (.cond (.t 64)
 (.seq (.av [ah 65 0,c6 66 65,dO 67 66,bU 68 67,⟨some 69,.bin (.int .add) (.t 68) (.c (.int .i64 3)),none,[68]⟩,c6 70 65,dO 71 70,⟨none,.st 1 (.t 71) (.t 69),none,[71,69]⟩])
 (.seq (.av [ah 72 5,⟨some 73,.gQ (.int .u8) (.t 72),none,[72]⟩,ah 2 73])
 (.ret)))
 (.skip))))
 (.skip)))
 (.seq (.av [ah 74 0,c6 75 74,kB 76 75,⟨none,.st 1 (.t 76) (.c (.int .i64 252)),none,[76]⟩])
 (.seq (.av [⟨some 2,.dc (.c (.int .u8 0)),none,[]⟩])
 (.ret)))))))
theorem O':cf Tryz.prog Tryz.f118.ntmps (Tryz.f118.body.getD .skip)=Bq:=by kernel_rfl
theorem O_:cW Tryz.prog Tryz.f118.ntmps Tryz.f118.results.toList=[.t 2]:=by kernel_rfl
theorem O9 {args:List V} {h:ae} {K:V→ae→Prop} (aj:Nat.ble args.length 77=true) (H:b_ Tryz.prog Bq (aS.bk args) h fun e r aa=>e.ends∧∃ab,cH r aa [.t 2]=some ab∧K (oneOf ab) aa):bK Tryz.prog 118 args h K:=
 dv follows c_ Tryz.func118 (c:=Tryz.f118.body.getD .skip) (by kernel_rfl) (by kernel_rfl) (by kernel_rfl) aj O' O_ (by kernel_rfl) H
def c119:bD:=
 .seq (.av [dF 2])
 (.seq (.av [ah 3 0,⟨some 4,.call 105 [(.t 3)],none,[3]⟩,ah 5 4,fL 6 0 5,⟨some 7,.call 108 [(.t 6)],(some (5,false)),[6,5]⟩,eG 8 5 7,ah 9 8,fL 10 0 9,⟨some 11,.call 110 [(.t 10)],(some (9,false)),[10,9]⟩,eG 12 9 11,ah 13 12,fL 14 0 13,xi 15 14 13,eG 16 13 15,ah 17 16,fL 18 0 17,⟨some 19,.bin (.int .eql) (.t 18) (.c (.int .u8 39)),(some (17,false)),[18,17]⟩,eG 20 17 19,ah 2 20])
 (.ret))
theorem Pb:cf Tryz.prog Tryz.f119.ntmps (Tryz.f119.body.getD .skip)=c119:=by kernel_rfl
theorem Pc:cW Tryz.prog Tryz.f119.ntmps Tryz.f119.results.toList=[.t 2]:=by kernel_rfl
theorem Pa {args:List V} {h:ae} {K:V→ae→Prop} (aj:Nat.ble args.length 21=true) (H:b_ Tryz.prog c119 (aS.bk args) h fun e r aa=>e.ends∧∃ab,cH r aa [.t 2]=some ab∧K (oneOf ab) aa):bK Tryz.prog 119 args h K:=
 dv follows c_ Tryz.func119 (c:=Tryz.f119.body.getD .skip) (by kernel_rfl) (by kernel_rfl) (by kernel_rfl) aj Pb Pc (by kernel_rfl) H
theorem k0 {f:FuncId} {args:List V} {h:ae} {v:V} (c:bK Tryz.prog f args h fun x aa=>x=v∧aa=h):eh Tryz.prog f args h v h:=by
 obtain ⟨x,aa,q,rfl,rfl⟩:=c
 exact q
def j8 (c:Int):Bool:=decide (48≤c)&&decide (c≤57)
def fz (c:Int):Bool:=decide (97≤c)&&decide (c≤122)
def ka (c:Int):Bool:=decide (65≤c)&&decide (c≤90)
def pS (c:Int):Bool:=j8 c||fz c||ka c||decide (c=95)||decide (c=39)
def kx (c a b:Int):Bool:=decide (a≤c)&&decide (c≤b)
theorem sD (c:Int) (h:ae):eh Tryz.prog 105 [.int .u8 c] h (.bool (j8 c)) h:=by
 refine k0 (OI rfl (dn ?_))
 unfold Bg
 simp +contextual only [↓al,aw,simprocAttr]
 rfl
theorem z7 (c:Int) (h:ae):eh Tryz.prog 108 [.int .u8 c] h (.bool (fz c)) h:=by
 refine k0 (OR rfl (dn ?_))
 unfold Bj
 simp +contextual only [↓al,aw,simprocAttr]
 rfl
theorem Im (c:Int) (h:ae):eh Tryz.prog 110 [.int .u8 c] h (.bool (ka c)) h:=by
 refine k0 (OX rfl (dn ?_))
 unfold Bm
 simp +contextual only [↓al,aw,simprocAttr]
 rfl
theorem uk (c a b:Int) (h:ae):eh Tryz.prog 78 [.int .u8 c,.int .u8 a,.int .u8 b] h (.bool (kx c a b)) h:=by
 refine k0 (QI rfl (dn ?_))
 unfold BU
 simp +contextual only [↓al,aw,simprocAttr]
 rfl
theorem TR (s p:List UInt8) (h:ae):eh Tryz.prog 115 [.str s,.str p] h (.bool (p.isPrefixOf s)) h:=by
 refine k0 (O3 rfl (dn ?_))
 unfold Bo
 have a6:(0≤(p.length:Int))=True:=eq_true (by omega)
 by_cases aj:p.length≤s.length
 · have U:((p.length:Int)≤(s.length:Int))=True:=eq_true (by omega)
   simp +contextual only [a6,U,Int.toNat_natCast,↓al,aw,simprocAttr]
   rw [Bool.eq_iff_iff,decide_eq_true_eq,List.isPrefixOf_iff_prefix,List.prefix_iff_eq_take]
   exact ⟨fun e=>e.symm,fun e=>e.symm⟩
 · have U:((p.length:Int)≤(s.length:Int))=False:=eq_false (by omega)
   simp +contextual only [a6,U,Int.toNat_natCast,↓al,aw,simprocAttr]
   rw [eq_comm,←Bool.not_eq_true,List.isPrefixOf_iff_prefix]
   exact fun e=>aj e.length_le
theorem TQ (s p:List UInt8) (h:ae):eh Tryz.prog 104 [.str s,.str p] h (.bool (p.isPrefixOf s)) h:=by
 refine k0 (OF rfl (dn ?_))
 unfold Bf
 simp +contextual only [↓al,aw,simprocAttr]
 refine eO (TR s p h) ?_
 simp +contextual only [↓al,aw,simprocAttr]
theorem Yp (c:Int) (h:ae):eh Tryz.prog 119 [.int .u8 c] h (.bool (pS c)) h:=by
 refine k0 (Pa rfl (dn ?_))
 unfold c119
 simp +contextual only [↓al,aw,simprocAttr]
 refine eO (sD c h) ?_
 simp +contextual only [↓al,aw,simprocAttr]
 refine yb (.bool (fz c)) (fun aq=>by simp only [aq,↓al,aw,simprocAttr];exact z7 _ _) ?_
 simp +contextual only [↓al,aw,simprocAttr]
 refine yb (.bool (ka c)) (fun aq=>by simp only [aq,↓al,aw,simprocAttr];exact Im _ _) ?_
 simp +contextual only [↓al,aw,simprocAttr]
 rfl
theorem Nd (c:Int) (h:ae):eh Tryz.prog 77 [.int .u8 c] h (.bool (kx c 97 122||kx c 65 90||kx c 48 57||decide (c=95)||decide (c=39))) h:=by
 refine k0 (QF rfl (dn ?_))
 unfold BT
 simp +contextual only [↓al,aw,simprocAttr]
 refine eO (uk c _ _ h) ?_
 simp +contextual only [↓al,aw,simprocAttr]
 refine yb (.bool (kx c 65 90)) (fun aq=>by simp only [aq,↓al,aw,simprocAttr];exact uk _ _ _ _) ?_
 simp +contextual only [↓al,aw,simprocAttr]
 refine yb (.bool (kx c 48 57)) (fun aq=>by simp only [aq,↓al,aw,simprocAttr];exact uk _ _ _ _) ?_
 simp +contextual only [↓al,aw,simprocAttr]
theorem CK (s p:List UInt8) (at':Int) (rest:List V) (b:aN) (cj:Nat) (st:Bool) (h:ae) (af:h.get b=.bk (.str s::.int .i64 at'::rest) cj st) (a6:0≤at') (U:at'≤s.length):
 eh Tryz.prog 93 [.ptr b 0,.str p] h (.bool (p.isPrefixOf (s.drop at'.toNat))) h:=by
 refine k0 (QV rfl (dn ?_))
 unfold BY
 have f0:(0≤at')=True:=eq_true a6
 have f1:(at'≤(s.length:Int))=True:=eq_true U
 simp +contextual only [af,f0,f1,↓al,aw,simprocAttr]
 refine eO (TQ _ p h) ?_
 simp +contextual only [af,f0,f1,↓al,aw,simprocAttr]
def gz:List UInt8→Int→Option Nat
 | [],_=>none
 | [_],_=>none
 | x::y::r,d=>if x=40∧y=42 then (gz r (d+1)).map (· +2) else if x=42∧y=41 then (if d-1=0 then some 2 else (gz r (d-1)).map (· +2)) else (gz (y::r) d).map (· +1)
theorem Y7 (r:List UInt8) (d:Int) (h:r≠[]):gz r d=if ([40,42]:List UInt8).isPrefixOf r=true then (gz (r.drop 2) (d+1)).map (· +2) else
 if ([42,41]:List UInt8).isPrefixOf r=true then (if d-1=0 then some 2 else (gz (r.drop 2) (d-1)).map (· +2)) else (gz (r.drop 1) d).map (· +1):=by
 match r,h with
 | [x],_=>simp [gz,List.isPrefixOf]
 | x::y::r,_=>
   have aF:(([40,42]:List UInt8).isPrefixOf (x::y::r)=true)=(x=40∧y=42):=by
    simp only [List.isPrefixOf,Bool.and_true,Bool.and_eq_true,beq_iff_eq]
    exact propext ⟨fun q=>⟨q.1.symm,q.2.symm⟩,fun q=>⟨q.1.symm,q.2.symm⟩⟩
   have aM:(([42,41]:List UInt8).isPrefixOf (x::y::r)=true)=(x=42∧y=41):=by
    simp only [List.isPrefixOf,Bool.and_true,Bool.and_eq_true,beq_iff_eq]
    exact propext ⟨fun q=>⟨q.1.symm,q.2.symm⟩,fun q=>⟨q.1.symm,q.2.symm⟩⟩
   rw [gz]
   simp only [aF,aM,List.drop_succ_cons,List.drop_zero]
theorem Li {a b:UInt8} {r:List UInt8} (h:([a,b]:List UInt8).isPrefixOf r=true):2≤r.length:=by
 rw [List.isPrefixOf_iff_prefix] at h
 simpa using h.length_le
noncomputable def d_ (s:List UInt8) (at' e:Int):bS:=.bk [.str s,.int .i64 at',.int .i64 e] 0 false
theorem Y8 (s:List UInt8) (a0:Nat) (cE:Int) (b:aN) (h:ae) (af:h.get b=d_ s a0 cE) (a6:a0≤s.length) (aR:s.length≤100000) (fi:Old h b):
 bK Tryz.prog 94 [.ptr b 0] h fun x aa=>x=.tuple []∧Mod (fun x=>x=b) h aa∧(match gz (s.drop a0) 0 with
  | some n=>aa.get b=d_ s ((a0+n:Nat):Int) cE∧a0+n≤s.length
  | none=>aa.get b=d_ s (s.length:Int) 253):=by
 refine QY rfl (dn ?_)
 unfold BZ
 unfold d_ at af ⊢
 simp +contextual only [af,↓al,aw,simprocAttr]
 refine hj (fun r aa=>∃(a:Nat) (d:Int),a0≤a∧a≤s.length∧r 0=.ptr b 0∧r 2=.int .i64 d∧aa.get b=.bk [.str s,.int .i64 a,.int .i64 cE] 0 false∧Mod (fun x=>x=b) h aa∧-(a:Int)≤d∧d≤a∧
  gz (s.drop a0) 0=(gz (s.drop a) d).map (· + (a-a0))) (fun r aa=>s.length - ((gV (aa.get b) 1).getD .bad).toN) ?_ ?_
 · refine ⟨a0,0,Nat.le_refl _,a6,?_⟩
   simp only [↓al,aw,simprocAttr]
   refine ⟨af,Mod.refl _ _,by omega,by omega,?_⟩
   rw [Nat.sub_self]
   cases gz (s.drop a0) 0<;>rfl
 · rintro r aa ⟨a,d,nq,b6,bx,cV,aD,hm,d0,d1,bg⟩
   unfold G9
   by_cases eP:(s.length:Int)≤(a:Int)
   · have bm:a=s.length:=by omega
     have a7:gz (s.drop a) d=none:=by
      rw [bm,List.drop_length]
      rfl
     rw [a7] at bg
     simp +contextual only [bx,cV,aD,eP,↓al,aw,simprocAttr]
     rw [bg]
     refine ⟨hm.set (fun _=>rfl) _,?_⟩
     simp only [bm,Option.map_none,dH,if_true]
   · have c2:s.drop a≠[]:=by
      intro q
      rw [List.drop_eq_nil_iff] at q
      omega
     have vv:∀p,eh Tryz.prog 93 [.ptr b 0,.str p] aa (.bool (p.isPrefixOf (s.drop a))) aa:=fun p=>by
      have:=CK s p (a:Int) [.int .i64 cE] b 0 false aa aD (by omega) (by omega)
      simpa using this
     have f_:=Y7 (s.drop a) d c2
     simp +contextual only [bx,cV,aD,eP,↓al,aw,simprocAttr]
     refine eO (vv _) ?_
     cases gJ:([40,42]:List UInt8).isPrefixOf (s.drop a) with
     | true=>
       have ad:=Li gJ
       rw [List.length_drop] at ad
       rw [gJ,if_pos rfl] at f_
       have bL:IntKind.i64.wrap (d+1)=d+1:=wrap_i64 (by omega) (by omega)
       have bH:IntKind.i64.wrap ((a:Int)+2)=((a+2:Nat):Int):=by rw [wrap_i64 (by omega) (by omega)];rfl
       simp +contextual only [bx,cV,aD,bL,bH,↓al,aw,simprocAttr]
       refine ⟨⟨a+2,d+1,by omega,by omega,rfl,rfl,hm.set (fun _=>rfl) _,by omega,by omega,?_⟩,by omega⟩
       rw [bg,f_,List.drop_drop,Option.map_map]
       congr 1
       funext q
       simp only [Function.comp]
       omega
     | false=>
       rw [gJ,if_neg (by decide)] at f_
       simp +contextual only [bx,cV,aD,↓al,aw,simprocAttr]
       refine eO (vv _) ?_
       cases gl:([42,41]:List UInt8).isPrefixOf (s.drop a) with
       | true=>
         have ad:=Li gl
         rw [List.length_drop] at ad
         rw [gl,if_pos rfl] at f_
         have bL:IntKind.i64.wrap (d-1)=d-1:=wrap_i64 (by omega) (by omega)
         have bH:IntKind.i64.wrap ((a:Int)+2)=((a+2:Nat):Int):=by rw [wrap_i64 (by omega) (by omega)];rfl
         by_cases aV:d-1=0
         · rw [if_pos aV] at f_
           obtain rfl:d=1:=by omega
           have au:IntKind.i64.wrap 0=0:=rfl
           simp +contextual only [bx,cV,aD,au,bH,↓al,aw,simprocAttr]
           rw [bg,f_]
           refine ⟨hm.set (fun _=>rfl) _,?_⟩
           simp only [Option.map_some,dH,if_true]
           refine ⟨?_,by omega⟩
           rw [show a0 + (2 + (a-a0))=a+2 from by omega]
         · rw [if_neg aV] at f_
           simp +contextual only [bx,cV,aD,bL,bH,aV,↓al,aw,simprocAttr]
           refine ⟨⟨a+2,d-1,by omega,by omega,rfl,rfl,hm.set (fun _=>rfl) _,by omega,by omega,?_⟩,by omega⟩
           rw [bg,f_,List.drop_drop,Option.map_map]
           congr 1
           funext q
           simp only [Function.comp]
           omega
       | false=>
         rw [gl,if_neg (by decide)] at f_
         have bH:IntKind.i64.wrap ((a:Int)+1)=((a+1:Nat):Int):=by rw [wrap_i64 (by omega) (by omega)];rfl
         simp +contextual only [bx,cV,aD,bH,↓al,aw,simprocAttr]
         refine ⟨⟨a+1,d,by omega,by omega,rfl,rfl,hm.set (fun _=>rfl) _,by omega,by omega,?_⟩,by omega⟩
         rw [bg,f_,List.drop_drop,Option.map_map]
         congr 1
         funext q
         simp only [Function.comp]
         omega
theorem drop_cons {s:List UInt8} {a:Nat} (h:a<s.length):s.drop a=s[a]::s.drop (a+1):=List.drop_eq_getElem_cons h
theorem Ms (p:UInt8→Bool):∀l:List UInt8,(l.takeWhile p).length≤l.length
 | []=>by simp
 | x::l=>by
   simp only [List.takeWhile_cons]
   split
   · simpa using Ms p l
   · simp
theorem LW (s:List UInt8) (a0:Nat) (cE:Int) (b:aN) (g:FuncId) (p:Int→Bool) (h:ae) (af:h.get b=d_ s a0 cE) (a6:a0≤s.length) (aR:s.length≤100000) (a1:(g=4294967296)=False)
 (ag:∀c h,eh Tryz.prog g [.int .u8 c] h (.bool (p c)) h):
 bK Tryz.prog 117 [.ptr b 0,.func g []] h fun x aa=>x=.str ((s.drop a0).takeWhile fun c=>p c.toNat)∧Mod (fun x=>x=b) h aa∧aa.get b=d_ s ((a0 + ((s.drop a0).takeWhile fun c=>p c.toNat).length:Nat):Int) cE:=by
 refine O6 rfl (dn ?_)
 unfold Bp
 unfold d_ at af ⊢
 simp +contextual only [af,↓al,aw,simprocAttr]
 refine hj (fun r aa=>∃(a:Nat),a0≤a∧a≤s.length∧r 0=.ptr b 0∧r 1=.func g []∧r 5=.int .i64 a0∧aa.get b=.bk [.str s,.int .i64 a,.int .i64 cE] 0 false∧Mod (fun x=>x=b) h aa∧
  ((s.drop a0).takeWhile fun c=>p c.toNat)=(s.drop a0).take (a-a0)++((s.drop a).takeWhile fun c=>p c.toNat)) (fun r aa=>s.length - ((gV (aa.get b) 1).getD .bad).toN) ?_ ?_
 · refine ⟨a0,Nat.le_refl _,a6,?_⟩
   simp only [↓al,aw,simprocAttr]
   refine ⟨af,Mod.refl _ _,?_⟩
   rw [Nat.sub_self]
   rfl
 · rintro r aa ⟨a,nq,b6,bx,bs,cF,aD,hm,bg⟩
   unfold GQ
   have fin:((s.drop a).takeWhile fun c=>p c.toNat)=[]→V.str (((s.drop a0).take (a-a0)))=V.str ((s.drop a0).takeWhile fun c=>p c.toNat)∧Mod (fun x=>x=b) h aa∧bS.bk [V.str s,V.int .i64 a,V.int .i64 cE] 0 false=bS.bk [V.str s,V.int .i64 ((a0 + ((s.drop a0).takeWhile fun c=>p c.toNat).length:Nat):Int),V.int .i64 cE] 0 false:=by
    intro q
    rw [q,List.append_nil] at bg
    rw [bg,List.length_take,List.length_drop]
    refine ⟨rfl,hm,?_⟩
    rw [show a0+min (a-a0) (s.length-a0)=a from by omega]
   have f0:(0≤(a0:Int))=True:=eq_true (by omega)
   have f1:((a0:Int)≤(a:Int))=True:=eq_true (by omega)
   have f2:((a:Int)≤(s.length:Int))=True:=eq_true (by omega)
   have f3:(0≤(a:Int))=True:=eq_true (by omega)
   by_cases eP:(a:Int) < (s.length:Int)
   · have aO:a<s.length:=by omega
     rw [drop_cons aO,List.takeWhile_cons] at bg fin
     simp +contextual only [a1,if_false,bx,bs,cF,aD,eP,f0,f1,f2,f3,List.getElem?_eq_getElem aO,Int.toNat_natCast,↓al,aw,simprocAttr]
     refine eO (ag _ _) ?_
     cases mn:p ((s[a]).toNat:Int) with
     | true=>
       rw [mn] at bg
       have bH:IntKind.i64.wrap ((a:Int)+1)=((a+1:Nat):Int):=by rw [wrap_i64 (by omega) (by omega)];rfl
       simp +contextual only [mn,bx,bs,cF,aD,eP,f0,f1,f2,f3,bH,List.getElem?_eq_getElem aO,Int.toNat_natCast,↓al,aw,simprocAttr]
       refine ⟨⟨a+1,by omega,by omega,rfl,hm.set (fun _=>rfl) _,?_⟩,by omega⟩
       rw [bg,if_pos rfl]
       have Dn:a-a0 < (s.drop a0).length:=by rw [List.length_drop];omega
       rw [show a+1-a0=a-a0+1 from by omega,←List.take_append_getElem Dn,List.append_assoc]
       congr 1
       rw [List.getElem_drop]
       simp only [show a0 + (a-a0)=a from by omega]
       rfl
     | false=>
       rw [mn] at fin
       simp +contextual only [mn,bx,bs,cF,aD,eP,f0,f1,f2,f3,List.getElem?_eq_getElem aO,Int.toNat_natCast,↓al,aw,simprocAttr]
       exact fin rfl
   · have bm:a=s.length:=by omega
     simp +contextual only [a1,if_false,bx,bs,cF,aD,eP,f0,f1,f2,f3,Int.toNat_natCast,↓al,aw,simprocAttr]
     refine fin ?_
     rw [bm,List.drop_length]
     rfl
end Go.Proofs.YtkehcalakofigaaGreatDoor
